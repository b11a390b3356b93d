/- Part 6 of the ground of the proofs of this seat (texts C3 to C17). By an AI agent. -/
import Derived.Test.YtlhlnchhaminjaaGreatCom5
set_option maxRecDepth 10000
set_option linter.unusedVariables false
set_option linter.unusedSimpArgs false
namespace Go.Ab.Crw
open Go Go.Ab Go.Ab.aC
def FH (T:Nat) (c:au) : Prop:=∀ {M:RM} {v:AV} {xs:List aP} {Q:ak},Sl aB M v xs→xs.length≤1000000→(∀ v' M',Ow aB M' M.next T v' xs→ag [] M M'→Q v' M')→c [v] M Q
theorem aap {T:Nat} : FH T fun args M Q=>∃ a0,args=[a0]∧z8 T a0 M Q:=by
 intro M v xs Q hs hl hQ
 refine⟨_,rfl, ?_⟩
 unfold z8
 have h5:aM M 5 v (aB.row xs) xs.length:=hs
 exact Kv (size:=5) (bytes:=64) h5 (Enc.qX _ _) (by decide) (by omega) (by omega) fun v' M' ho k=>hQ v' M' ho k
def SA (c:au) : Prop:=∀ {M:RM} {v:AV} {l:List aC} {d:aC} {Q:ak},Sl dM M v l→l.length≤1000000→(∀ (n:Int) M',(decide (n ≥ 0)=decide (d∈l))→ag [] M M'→Q (N .i64 n) M')→c [v,.agg (aO d)] M Q
theorem ZZ {T:Nat} : SA fun args M Q=>∃ a0 a1,args=[a0,a1]∧EF T a0 a1 M Q:=by
 intro M0 v l d Q hs0 hl hQ
 refine⟨_,_,rfl, ?_⟩
 unfold EF
 rw[dL rfl (by simp),bn]
 have k0:ag [] M0 (M0.push (.row (aO d) false T 0)):=(ag.refl _ _).push _
 have h0:(M0.push (.row (aO d) false T 0)).heap M0.next=some (.row (aO d) false T 0):=RM.aQ _
 have hs:Sl dM (M0.push (.row (aO d) false T 0)) v l:=aM.keep hs0 k0 (by simp)
 generalize M0.push (.row (aO d) false T 0)=M at *
 generalize M0.next=b at *
 rw[aM.len hs]
 refine aK (fun m ys M3=>∃ i:Nat,m=l.length - i∧ys=[N .i64 (i:Int)]∧i≤l.length∧M3=M∧(d∈l↔d∈l.drop i)) _ ⟨0,rfl,rfl,Nat.zero_le _,rfl,Iff.rfl⟩ ?_
 rintro next m ys M3 hnext ⟨i,rfl,rfl,hi,rfl,hm⟩
 dsimp only[aa]
 rw[fM]
 refine aH (fun hlt=>?_) (fun hge=>?_)
 ·have hlt:i<l.length:=of_decide_eq_true hlt
  rw[List.drop_eq_getElem_cons hlt,List.mem_cons] at hm
  rw[dF (n:=2) h0 rfl,tq hs hlt,qz rfl rfl (Co _ _),Bool.bne_false]
  refine aH (fun he=>?_) (fun he=>?_)
  ·have he:d=l[i]:=of_decide_eq_true he
   refine hQ _ _ ?_ k0
   rw[decide_eq_true (show(i:Int) ≥ 0 by omega),decide_eq_true (hm.2 (.inl he))]
  ·have he:¬ d=l[i]:=of_decide_eq_false he
   rw[add1 (by omega)]
   exact hnext _ _ _ (by omega) ⟨i + 1,rfl,rfl,by omega,rfl,hm.trans ⟨fun h=>h.resolve_left he,.inr⟩⟩
 ·have he:i=l.length:=by
   have:¬ i<l.length:=of_decide_eq_false hge
   omega
  subst he
  rw[List.drop_length] at hm
  refine hQ _ _ ?_ k0
  rw[decide_eq_false (show ¬ (-1:Int) ≥ 0 by decide),decide_eq_false (fun h=>by simpa using hm.1 h)]
def H7 (c:au) : Prop:=∀ {M:RM} {v:AV} {l:List aC} {d:aC} {Q:ak},Sl dM M v l→l.length≤1000000→(∀ M',ag [] M M'→Q (Bo (decide (d∈l))) M')→c [v,.agg (aO d)] M Q
theorem Sk {T:Nat} {ci:au} (hi:SA ci) : H7 fun args M Q=>∃ a0 a1,args=[a0,a1]∧yz T ci a0 a1 M Q:=by
 intro M0 v l d Q hs0 hl hQ
 refine⟨_,_,rfl, ?_⟩
 unfold yz
 rw[dL rfl (by simp),bn]
 have k0:ag [] M0 (M0.push (.row (aO d) false T 0)):=(ag.refl _ _).push _
 rw[dF (n:=2) (RM.aQ _) rfl]
 refine hi (aM.keep hs0 k0 (by simp)) hl fun n M' hn k=>?_
 rw[jA,hn]
 exact hQ M' (k0.trans k)
def VH (P:RM→Prop) (p:aP→Bool) (c:List AV→RM→ak→Prop) : Prop:=∀ {M:RM} {x:aP} {Q:ak},P M→(∀ M',ag [] M M'→Q (Bo (p x)) M')→c [.agg (aB.cells x)] M Q
theorem rU {M:RM} {v:AV} {xs:List aP} (h:Sl aB M v xs) {i:Nat} (hi:i<xs.length) {kd:IntKind} {K:AV→Prop} : (ax v (N kd (i:Int)) 5 fun p=>aI M p 5 K)=K (.agg (aB.cells xs[i])):=by
 obtain⟨b,o,_,_,hidx,hld⟩:=Sl.at (E:=aB) (i:=i) h 5 (i:Int) hi rfl rfl
 rw[hidx,fZ,hld]
 simp
def Ub (P:RM→Prop) (p:aP→Bool) (fv:AV) (c:au) : Prop:=∀ {M:RM} {v:AV} {xs:List aP} {Q:ak},P M→(∀ M M',P M→ag [] M M'→P M')→Sl aB M v xs→xs.length≤1000000 →
 (xs.any p=false→∀ M',ag [] M M'→Q (N .i64 (-1)) M')→(∀ (i:Nat) (hi:i<xs.length),p xs[i]=true→(∀ x∈xs.take i,p x=false)→∀ M',ag [] M M'→Q (N .i64 (i:Int)) M')→c [v,fv] M Q
theorem aau {P:RM→Prop} {p:aP→Bool} {fv:AV} {cv:FuncId→au} (hp:VH P p (gW cv fv)) : Ub P p fv fun args M Q=>∃ a0 a1,args=[a0,a1]∧uG cv a0 a1 M Q:=by
 intro M v xs Q hP hPk hs hl h0 h1
 refine⟨_,_,rfl, ?_⟩
 unfold uG
 rw[aM.len hs]
 refine aK (fun m ys M3=>∃ i:Nat,m=xs.length - i∧ys=[N .i64 (i:Int)]∧i≤xs.length∧ag [] M M3∧∀ x∈xs.take i,p x=false) _ ⟨0,rfl,rfl,Nat.zero_le _,ag.refl _ _,by simp⟩ ?_
 rintro next m ys M3 hnext ⟨i,rfl,rfl,hi,k3,hm⟩
 dsimp only[aa]
 rw[fM]
 refine aH (fun hlt=>?_) (fun hge=>?_)
 ·have hlt:i<xs.length:=of_decide_eq_true hlt
  rw[rU (aM.keep hs k3 (by simp)) hlt]
  refine hp (hPk _ _ hP k3) fun M4 k4=>?_
  refine aH (fun he=>h1 i hlt he hm M4 (k3.trans k4)) (fun he=>?_)
  rw[add1 (by omega)]
  refine hnext _ _ _ (by omega) ⟨i + 1,rfl,rfl,by omega,k3.trans k4,fun x hx=>?_⟩
  rw[List.take_succ_eq_append_getElem hlt,List.mem_append] at hx
  rcases hx with hx | hx
  ·exact hm x hx
  ·simp at hx; subst hx; exact he
 ·have he:i=xs.length:=by
   have:¬ i<xs.length:=of_decide_eq_false hge
   omega
  subst he
  rw[List.take_length] at hm
  exact h0 (by simpa using hm) M3 k3
theorem aeD {b o n k z:Nat} (h:k≤n) (h0:0<n) : bB z (.slc b o n (.op z)) none (some (N .i64 (k:Int))) none=some (.slc b o k (.op z)):=by
 simp only[bB,bnd]
 simp[h]
 omega
theorem XB (zs:List AV) : ∀ k,(bW zs k).length=k * zs.length
 | 0=>by simp[bW]
 | k + 1=>by rw[bW,List.length_append,XB zs k,Nat.succ_mul,Nat.add_comm]
theorem V3 {zs:List AV} (h:zs.all oneCell=true) : ∀ k,(bW zs k).all oneCell=true
 | 0=>by simp[bW]
 | k + 1=>by rw[bW,List.all_append,h,V3 h k]; rfl
def NK (T:Nat) (P:RM→Prop) (p:aP→Bool) (fv:AV) (c:au) : Prop:=∀ {M:RM} {base:Nat} {v:AV} {xs:List aP} {Q:ak},P M→(∀ M M' ks,P M→ag ks M M'→(∀ d∈ks,d∈aD v)→P M')→Ow aB M base T v xs→xs.length≤60000 →
 (∀ v' M',Sl aB M' v' (xs.filter fun x=>!p x)→(∀ d∈aD v',d∈aD v)→ag (aD v) M M'→Q v' M')→c [v,fv] M Q
theorem Yd {T TE:Nat} {P:RM→Prop} {p:aP→Bool} {fv:AV} {cv:FuncId→au} {ci:au} (hi:Ub P p fv ci) (hp:VH P p (gW cv fv)) : NK T P p fv fun args M Q=>∃ a0 a1,args=[a0,a1]∧sO ci TE cv a0 a1 M Q:=by
 intro M base v xs Q hP hPk ho hl hQ
 refine⟨_,_,rfl, ?_⟩
 unfold sO
 simp only[dG]
 have hs:Sl aB M v xs:=ho.fu
 refine hi hP (fun M M' h k=>hPk M M' [] h k (by simp)) hs (by omega) (fun hn M1 k1=>?_) (fun i hlt hpi hm M1 k1=>?_)
 ·rw[bU,show((-1:Int) == -1)=true from rfl,dC]
  have e:(xs.filter fun x=>!p x)=xs:=List.filter_eq_self.2 fun x hx=>by
   have:=List.any_eq_false.1 hn x hx
   simpa using this
  exact hQ v M1 (by rw[e]; exact aM.keep hs k1 (by simp)) (fun d hd=>hd) (k1.mono (by simp))
 rw[bU,show((i:Int) == -1)=false by rw[beq_eq_false_iff_ne]; omega,bI,add1 (by omega)]
 obtain⟨b,rfl,h1,h2,h3,h4⟩:=Own.Br ho (by omega)
 have hsz:xs.toArray.size=xs.length:=by simp
 have hat:At aB T b xs.toArray M:=⟨by rw[h3],h2⟩
 have hel:∀ j (h:j<xs.length),xs.toArray[j]! = xs[j]:=fun j h=>by rw[TT (by simpa using h)]; simp
 have hpre0:xs.toArray.toList.take i=(xs.take (i + 1)).filter fun x=>!p x:=by
  rw[List.take_succ_eq_append_getElem hlt,List.filter_append,List.filter_eq_self.2 fun x hx=>by simpa using hm x hx]
  simp[hpi]
 refine aK (fun m ys M3=>∃ (k j:Nat) (d:Array aP),m=xs.length - j∧ys=[N .i64 (k:Int),N .i64 (j:Int)]∧j≤xs.length∧k<j∧At aB T b d M3∧ag [b] M M3∧d.size=xs.length∧d.toList.take k=(xs.take j).filter (fun x=>!p x)∧∀ q (h:q<xs.length),j≤q→d[q]! = xs[q]) _
  ⟨i,i + 1,xs.toArray,rfl,rfl,by omega,by omega,hat.keep k1,k1.mono (by simp),hsz,hpre0,fun q h _=>hel q h⟩ ?_
 rintro next m ys M3 hnext ⟨k,j,d,rfl,rfl,hj,hkj,h3',k3,hds,hpre,hold⟩
 dsimp only[aa]
 have af8:∀ K:AV→Prop,bD (AV.slc b 0 xs.length (.op aB.size)) K=K (N .i64 (xs.length:Int)):=fun K=>by simp[oN]
 rw[af8,fM]
 have e5:aB.size=5:=rfl
 rw[e5] at *
 refine aH (fun hlt2=>?_) (fun pg=>?_)
 ·have hlt2:j<xs.length:=of_decide_eq_true hlt2
  refine bT (fun zs M'=>∃ (k' : Nat) (d' : Array aP),zs=[N .i64 (k' : Int)]∧k'<j + 1∧At aB T b d' M'∧ag [b] M M'∧d'.size=xs.length∧d'.toList.take k'=(xs.take (j + 1)).filter (fun x=>!p x)∧∀ q (h:q<xs.length),j + 1≤q→d'[q]! = xs[q]) ?_ ?_
  ·rintro zs M' ⟨k',d',rfl,c1,c2,c3,c4,c5,c6⟩
   dsimp only[aa]
   rw[add1 (by omega)]
   exact hnext _ _ _ (by omega) ⟨k',j + 1,d',rfl,rfl,by omega,c1,c2,c3,c4,c5,c6⟩
  intro J hJ
  rw[h3'.rd (z:=5) rfl hds.symm (by omega),hold j hlt2 (Nat.le_refl _),bn,iK (n:=5) (x:=.agg (aB.cells xs[j])) (l:=[(N .i64 0),(N .u64 0),(St []),(St []),(St [])]) (RM.aQ _) rfl rfl rfl]
  have k4:ag [] M3 ((M3.push (.row [(N .i64 0),(N .u64 0),(St []),(St []),(St [])] false TE 0)).put M3.next (.row (AV.agg (aB.cells xs[j])).cells false TE 0)):=((ag.refl _ _).push _).new _ (Nat.le_refl _)
  have hk4:((M3.push (.row [(N .i64 0),(N .u64 0),(St []),(St []),(St [])] false TE 0)).put M3.next (.row (AV.agg (aB.cells xs[j])).cells false TE 0)).heap M3.next=some (.row (aB.cells xs[j]) false TE 0):=aR _
  have hn4:M3.next<((M3.push (.row [(N .i64 0),(N .u64 0),(St []),(St []),(St [])] false TE 0)).put M3.next (.row (AV.agg (aB.cells xs[j])).cells false TE 0)).next:=by simp[RM.push,RM.put]
  generalize (M3.push (.row [(N .i64 0),(N .u64 0),(St []),(St []),(St [])] false TE 0)).put M3.next (.row (AV.agg (aB.cells xs[j])).cells false TE 0)=M4 at *
  generalize M3.next=s at *
  rw[dF (n:=5) hk4 rfl]
  have kk4:ag [b] M M4:=k3.trans (k4.mono (cs:=[b]) (by simp))
  have hP4:P M4:=hPk M M4 [b] hP kk4 (by simp[aD])
  refine hp hP4 fun M5 k5=>?_
  have kk5:ag [b] M M5:=kk4.trans (k5.mono (cs:=[b]) (by simp))
  have aoP:=h3'.keep (k4.trans k5)
  have asB:(xs.take (j + 1)).filter (fun x=>!p x)=if p xs[j] then(xs.take j).filter (fun x=>!p x) else(xs.take j).filter (fun x=>!p x)++[xs[j]]:=by
   rw[List.take_succ_eq_append_getElem hlt2,List.filter_append]
   by_cases hpj:p xs[j]=true <;> simp[hpj]
  rw[bR]
  refine aH (fun hn=>?_) (fun hn=>?_)
  ·have hpj:p xs[j]=false:=by simpa using hn
   rw[dF (n:=5) (k5.aN hk4 hn4 (by simp)) rfl,At.idx (by omega)]
   refine aoP.st (z:=5) rfl (by omega) fun M6 h6 k6 _=>?_
   rw[add1 (by omega)]
   refine hJ _ _ ⟨k + 1,_,rfl,by omega,h6,kk5.trans k6,by simpa using hds, ?_,fun q h hq=>?_⟩
   ·have hkl:k<d.toList.length:=by rw[Array.length_toList]; omega
    rw[asB,hpj,← hpre,Array.toList_setIfInBounds,List.take_succ_eq_append_getElem (by rw[List.length_set]; exact hkl),List.getElem_set_self,List.take_set_of_le (Nat.le_refl _)]
    rfl
   ·rw[← hold q h (by omega),TT (by rw[Array.size_setIfInBounds]; omega),TT (by omega),Array.getElem_setIfInBounds_ne (by omega) (by omega)]
  ·have hpj:p xs[j]=true:=by simpa using hn
   exact hJ _ _ ⟨k,d,rfl,by omega,aoP,kk5,hds,by rw[asB,hpj]; exact hpre,fun q h hq=>hold q h (by omega)⟩
 ·have hj2:j=xs.length:=by
   have:¬ j<xs.length:=of_decide_eq_false pg
   omega
  subst hj2
  rw[List.take_length] at hpre
  have hrl:(aB.row d.toList).length=xs.length * 5:=by rw[Enc.fo,Array.length_toList,hds]; rfl
  have hst:M3.stores b (0 + k * 5) (bW [(N .i64 0),(N .u64 0),(St []),(St []),(St [])] (xs.length - k))=some (M3.put b (.row ((aB.row d.toList).take (0 + k * 5)++bW [(N .i64 0),(N .u64 0),(St []),(St []),(St [])] (xs.length - k)++(aB.row d.toList).drop (0 + k * 5 + (bW [(N .i64 0),(N .u64 0),(St []),(St []),(St [])] (xs.length - k)).length)) true T 0)):=by
   refine RM.GZ h3'.heap ?_ (Nat.zero_le _) (V3 rfl _)
   rw[XB,hrl]
   show 0 + k * 5 + (xs.length - k) * 5≤xs.length * 5
   omega
  rw[sG (by omega),cB]
  refine .inl ⟨_,_,_,_,_,rfl,hst, ?_⟩
  dsimp only
  rw[aeD (by omega) (by omega),cB]
  have hlk:(xs.filter fun x=>!p x).length=k:=by rw[← hpre,List.length_take,Array.length_toList]; omega
  refine hQ _ _ ?_ (fun e he=>by simpa [aD] using he) ?_
  ·have hrow:((aB.row d.toList).take (0 + k * 5))=aB.row (xs.filter fun x=>!p x):=by
    rw[← hpre,show 0 + k * 5=k * aB.size by show 0 + k * 5=k * 5; omega,Enc.vI]
   show aM _ 5 (.slc b 0 k (.op 5)) (aB.row (xs.filter fun x=>!p x)) (xs.filter fun x=>!p x).length
   rw[hlk]
   refine .slc _ _ _ _ _ h3'.lt ?_
   have hl:(aB.row (xs.filter fun x=>!p x)).length=k * 5:=by rw[Enc.fo,hlk]; rfl
   rw[RM.dx (aR _) (by rw[hrow]; simp[hl]),List.drop_zero,hrow,List.append_assoc,List.take_left' hl]
  ·have:ag [b] M3 (M3.put b (.row ((aB.row d.toList).take (0 + k * 5)++bW [(N .i64 0),(N .u64 0),(St []),(St []),(St [])] (xs.length - k)++(aB.row d.toList).drop (0 + k * 5 + (bW [(N .i64 0),(N .u64 0),(St []),(St []),(St [])] (xs.length - k)).length)) true T 0)):=(ag.refl _ _).put _ (.inr (by simp))
   simpa [aD] using k3.trans this
def Jl (TE:Nat) (b:Nat) (e:pG) (kv:AV) (ks:List aC) (M:RM) : Prop:=b<M.next∧M.heap b=some (.row (gH e kv) false TE 0)∧Sl dM M kv ks
theorem Jl.keep {TE b:Nat} {e:pG} {kv:AV} {ks:List aC} {M M' : RM} {bs:List Nat} (h:Jl TE b e kv ks M) (k:ag bs M M') (hb:b ∉ bs) (hk:∀ d∈aD kv,d ∉ bs) : Jl TE b e kv ks M':=by
 obtain⟨h1,h2,h3⟩:=h
 exact⟨Nat.lt_of_lt_of_le h1 k.next,k.aN h2 h1 hb,aM.keep h3 k hk⟩
theorem aac {TE T b:Nat} {e:pG} {kv:AV} {ks:List aC} {cc:au} (hc:H7 cc) (hl:ks.length≤1000000) {M:RM} {x:aP} {Q:ak} (hP:Jl TE b e kv ks M) (hQ:∀ M',ag [] M M'→Q (Bo (decide (x.1∈ks))) M') :
  ∃ a0 a1,[AV.agg (aB.cells x),.ptr b 0]=[a0,a1]∧xg T cc a0 a1 M Q:=by
 obtain⟨h1,h2,h3⟩:=hP
 refine⟨_,_,rfl, ?_⟩
 unfold xg
 rw[dL rfl (by rw[aB.len]; decide),bn]
 have k0:ag [] M (M.push (.row (aB.cells x) false T 0)):=(ag.refl _ _).push _
 have hx:(M.push (.row (aB.cells x) false T 0)).heap M.next=some (.row (aB.cells x) false T 0):=RM.aQ _
 have h2':=k0.aN h2 h1 (by simp)
 have h3' : Sl dM (M.push (.row (aB.cells x) false T 0)) kv ks:=aM.keep h3 k0 (by simp)
 generalize M.push (.row (aB.cells x) false T 0)=M1 at *
 generalize M.next=s at *
 have e2:((aB.cells x).drop 0).take 2=aO x.1:=rfl
 have ld:∀ K:AV→Prop,aI M1 (.ptr s 0) 2 K=K (.agg (aO x.1)):=fun K=>by
  rw[fZ,RM.dx hx (by rw[aB.len]; decide),e2]
  simp
 rw[aS,aj h2' rfl,aS,ld]
 exact hc h3' hl fun M' k=>hQ M' (k0.trans k)
theorem aeW (a b:aP) : eH [1,1,2,2,2] (aB.cells a) (aB.cells b)=some (decide (a=b)):=by
 obtain⟨⟨d,n⟩,x,y,z⟩:=a
 obtain⟨⟨d',n'⟩,x',y',z'⟩:=b
 show eH [1,1,2,2,2] [N .i64 d,N .u64 (n:Int),St x,St y,St z] [N .i64 d',N .u64 (n' : Int),St x',St y',St z']=_
 simp only[Rl,acm,PI]
 by_cases h1:d=d' <;> by_cases h2:n=n' <;> by_cases h3:x=x' <;> by_cases h4:y=y' <;> by_cases h5:z=z' <;> simp[h1,h2,h3,h4,h5]
 all_goals omega
def yf (c:au) : Prop:=∀ {M:RM} {v w:AV} {xs ys:List aP} {Q:ak},Sl aB M v xs→Sl aB M w ys→xs.length≤1000000→Q (Bo (decide (xs=ys))) M→c [v,w] M Q
theorem aaj:yf fun args M Q=>∃ a0 a1,args=[a0,a1]∧zQ a0 a1 M Q:=by
 intro M v w xs ys Q h1 h2 hl hQ
 refine⟨_,_,rfl, ?_⟩
 unfold zQ
 rw[aM.len h1,aM.len h2,dY,aM.len h1]
 refine aH (fun hn=>?_) (fun hn=>?_)
 ·have:¬ xs=ys:=fun e=>by subst e; simp at hn
  rw[decide_eq_false this] at hQ
  exact hQ
 have hn:xs.length=ys.length:=by
  simp only[bne_eq_false_iff_eq] at hn
  omega
 refine aK (fun m zs M3=>∃ i:Nat,m=xs.length - i∧zs=[N .i64 (i:Int)]∧i≤xs.length∧M3=M∧(xs=ys↔xs.drop i=ys.drop i)) _ ⟨0,rfl,rfl,Nat.zero_le _,rfl,Iff.rfl⟩ ?_
 rintro next m zs M3 hnext ⟨i,rfl,rfl,hi,rfl,hm⟩
 dsimp only[aa]
 rw[fM]
 refine aH (fun hlt=>?_) (fun hge=>?_)
 ·have hlt:i<xs.length:=of_decide_eq_true hlt
  rw[List.drop_eq_getElem_cons hlt,List.drop_eq_getElem_cons (show i<ys.length by omega),List.cons.injEq] at hm
  rw[rU h1 hlt,rU h2 (by omega),qz rfl rfl (aeW _ _)]
  refine aH (fun he=>?_) (fun he=>?_)
  ·have he:¬ xs[i]=ys[i]'(by omega):=by simpa using he
   rw[decide_eq_false (fun e=>he (hm.1 e).1)] at hQ
   exact hQ
  ·have he:xs[i]=ys[i]'(by omega):=by simpa using he
   rw[add1 (by omega)]
   exact hnext _ _ _ (by omega) ⟨i + 1,rfl,rfl,by omega,rfl,hm.trans ⟨fun h=>h.2,fun h=>⟨he,h⟩⟩⟩
 ·have he:i=xs.length:=by
   have:¬ i<xs.length:=of_decide_eq_false hge
   omega
  subst he
  rw[List.drop_length,hn,List.drop_length] at hm
  rw[decide_eq_true (hm.2 rfl)] at hQ
  exact hQ
end Go.Ab.Crw
namespace Go.Ab.aC
open Go Go.Ab
theorem Wj:∀ (a b:Nat),bW [N .u64 0] (a + b)=bW [N .u64 0] a++bW [N .u64 0] b
 | 0,b=>by simp[bW]
 | a + 1,b=>by rw[show a + 1 + b=(a + b) + 1 by omega,bW,bW,Wj a b]; simp
theorem WE {M:RM} {b T k:Nat} {ps ys:List Nat} {u:AV} {zs:List AV} {K:ak} (hb:M.heap b=some (.row (aU.row ps++bW [N .u64 0] k) true T 0)) (hu:Sl aU M u ys) (hk:ys.length≤k) (hl:ys.length≤1000000)
  (hK:∀ M',M'.heap b=some (.row (aU.row (ps++ys)++bW [N .u64 0] (k - ys.length)) true T 0)→ag [b] M M'→M'.next=M.next→K (.slc b 0 (ps++ys).length (.op 1)) M') :
  appW T 1 8 zs false (.slc b 0 ps.length (.op 1)) u M K:=by
 have hn:=aM.nQ hu zs
 have hrl:(aU.row ys).length=ys.length:=by rw[Enc.fo]; simp[aU]
 have hpl:(aU.row ps).length=ps.length:=by rw[Enc.fo]; simp[aU]
 refine⟨ys.length,aU.row ys,hn,by omega,by omega, ?_⟩
 by_cases h0:ys.length=0
 ·have:ys=[]:=List.length_eq_zero_iff.1 h0
  subst this
  refine⟨.slc b 0 ps.length (.op 1),M,by simp[qK], ?_⟩
  have:=hK M (by simpa using hb) (ag.refl _ _) rfl
  simpa using this
 ·have hfit:0 + (ps.length + ys.length) * 1≤(aU.row ps++bW [N .u64 0] k).length:=by
   rw[List.length_append,hpl,(rQ k).1]; omega
  refine⟨.slc b 0 (ps.length + ys.length) (.op 1),M.put b (.row (aU.row (ps++ys)++bW [N .u64 0] (k - ys.length)) true T 0), ?_, ?_⟩
  ·simp only[qK,if_neg h0,hb]
   rw[if_pos (by simp),if_pos hfit,RM.zG hb,sV (by rw[hrl,List.length_append,hpl,(rQ k).1]; omega) (by omega) (aU.qX ys)]
   simp only[Option.map_some]
   congr 4
   rw[Enc.xQ]
   have e1:(aU.row ps++bW [N .u64 0] k).take (0 + ps.length * 1)=aU.row ps:=by rw[List.take_left' (by omega)]
   have e2:(aU.row ps++bW [N .u64 0] k).drop (0 + ps.length * 1 + (aU.row ys).length)=bW [N .u64 0] (k - ys.length):=by
    have:k=ys.length + (k - ys.length):=by omega
    rw[show bW [N .u64 0] k=bW [N .u64 0] ys.length++bW [N .u64 0] (k - ys.length) by rw[← Wj]; congr 1,← List.append_assoc,List.drop_left' (by rw[List.length_append,hpl,(rQ _).1,hrl]; omega)]
   rw[e1,e2]
  ·have:=hK _ (aR _) ((ag.refl _ _).put _ (.inr (by simp))) rfl
   rw[List.length_append] at this
   exact this
def Tg (T:Nat) (c:au) : Prop:=∀ {M:RM} {bb TS:Nat} {v w:AV} {xs ys:List Nat} {Q:ak},M.heap bb=some (.row [v,w] false TS 0)→bb<M.next→Sl aU M v xs→Sl aU M w ys→xs.length≤1000000→ys.length≤1000000 →
 (∀ r M',Ow aU M' M.next T r (xs++ys)→ag [] M M'→Q r M')→c [.slc bb 0 2 (.ex 2)] M Q
theorem aaz {TS T:Nat} {cg:au} (hg:adN T cg) : Tg T fun args M Q=>∃ a0,args=[a0]∧xD TS cg T a0 M Q:=by
 intro M bb TB v w xs ys Q hb hbl hv hw hx hy hQ
 refine⟨_,rfl, ?_⟩
 unfold xD
 simp only[vD]
 have at0:∀ K:AV→Prop,ax (.slc bb 0 2 (.ex 2)) (N .i64 ((0:Nat) : Int)) 1 K=K (.ptr bb 0):=fun K=>by
  rw[oP]; exact propext ⟨fun h=>h.2.2,fun h=>⟨by decide,by decide,h⟩⟩
 have uB:∀ K:AV→Prop,ax (.slc bb 0 2 (.ex 2)) (N .i64 ((1:Nat) : Int)) 1 K=K (.ptr bb 1):=fun K=>by
  rw[oP]; exact propext ⟨fun h=>h.2.2,fun h=>⟨by decide,by decide,h⟩⟩
 rw[oN]
 have len3:∀ (p0:Nat),p0=0∨p0=xs.length∨p0=xs.length + ys.length→True:=fun _ _=>trivial
 refine aK (fun m zs M3=>∃ i:Nat,m=2 - i∧i≤2∧zs=[N .i64 ((if i=0 then 0 else if i=1 then xs.length else xs.length + ys.length:Nat) : Int),N .i64 (i:Int)]∧M3=M) _ ⟨0,rfl,by omega,rfl,rfl⟩ ?_
 rintro next m zs M3 hnext ⟨i,rfl,hi,rfl,rfl⟩
 dsimp only[aa]
 rw[bN]
 obtain rfl | rfl | rfl:i=0∨i=1∨i=2:=by omega
 ·rw[show decide (((0:Nat) : Int)<((2:Nat) : Int))=true from rfl,dC,at0,aj hb rfl,aM.len hv]
  simp only[if_true]
  rw[bG,show((0:Nat) : Int) + (xs.length:Int)=(xs.length:Int) by omega,bE (by omega) (by omega),bN,show decide ((xs.length:Int)<0)=false by simp,bI,bG,dK (by omega)]
  exact hnext _ _ _ (by omega) ⟨1,rfl,by omega,rfl,rfl⟩
 ·rw[show decide (((1:Nat) : Int)<((2:Nat) : Int))=true from rfl,dC,uB,aj hb rfl,aM.len hw]
  simp only[if_true,show ¬ (1:Nat)=0 by omega,if_false]
  rw[bG,show(xs.length:Int) + (ys.length:Int)=((xs.length + ys.length:Nat) : Int) by omega,bE (by omega) (by omega),bN,show decide (((xs.length + ys.length:Nat) : Int)<0)=false by simp; omega,bI,bG,dK (by omega)]
  exact hnext _ _ _ (by omega) ⟨2,rfl,by omega,rfl,rfl⟩
 ·rw[show decide (((2:Nat) : Int)<((2:Nat) : Int))=false from rfl,bI]
  simp only[show ¬ (2:Nat)=0 by omega,show ¬ (2:Nat)=1 by omega,if_false]
  refine hg (by omega) (fun h0=>?_) (fun hpos b M4 hb0 hb1 hrow k4=>?_)
  ·
   have e1:xs=[]:=List.length_eq_zero_iff.1 (by omega)
   have e2:ys=[]:=List.length_eq_zero_iff.1 (by omega)
   subst e1 e2
   rw[oN]
   refine aK (fun m zs M5=>∃ i:Nat,m=2 - i∧i≤2∧zs=[dV,N .i64 (i:Int)]∧M5=M3) _ ⟨0,rfl,by omega,rfl,rfl⟩ ?_
   rintro jv m zs M5 dQ ⟨i,rfl,hi,rfl,rfl⟩
   dsimp only[aa]
   rw[bN]
   have app:∀ (u:AV) (K:ak),Sl aU M5 u []→K dV M5→appW T 1 8 [N .u64 0] false dV u M5 K:=fun u K hu hK=>by
    refine⟨0,[], ?_,by omega,by omega,dV,M5,by simp[qK],hK⟩
    exact aM.nQ hu _
   obtain rfl | rfl | rfl:i=0∨i=1∨i=2:=by omega
   ·rw[show decide (((0:Nat) : Int)<((2:Nat) : Int))=true from rfl,dC,at0,aj hb rfl]
    refine app _ _ hv ?_
    rw[bG,dK (by omega)]
    exact dQ _ _ _ (by omega) ⟨1,rfl,by omega,rfl,rfl⟩
   ·rw[show decide (((1:Nat) : Int)<((2:Nat) : Int))=true from rfl,dC,uB,aj hb rfl]
    refine app _ _ hw ?_
    rw[bG,dK (by omega)]
    exact dQ _ _ _ (by omega) ⟨2,rfl,by omega,rfl,rfl⟩
   ·rw[show decide (((2:Nat) : Int)<((2:Nat) : Int))=false from rfl,bI]
    exact hQ dV M5 .nil (ag.refl _ _)
  ·rw[oN]
   have hbb:bb≠b:=by omega
   refine aK (fun m zs M5=>∃ i:Nat,m=2 - i∧i≤2∧zs=[.slc b 0 (if i=0 then([] : List Nat) else if i=1 then xs else xs++ys).length (.op 1),N .i64 (i:Int)]∧ag [b] M4 M5∧M5.next=M4.next ∧
     M5.heap b=some (.row (aU.row (if i=0 then[] else if i=1 then xs else xs++ys)++bW [N .u64 0] (xs.length + ys.length - (if i=0 then([] : List Nat) else if i=1 then xs else xs++ys).length)) true T 0)) _
    ⟨0,rfl,by omega,rfl,ag.refl _ _,rfl,by simpa [Enc.row] using hrow⟩ ?_
   rintro jv m zs M5 dQ ⟨i,rfl,hi,rfl,k5,n5,Lh⟩
   dsimp only[aa]
   rw[bN]
   have hb4:=k4.aN hb hbl (by simp)
   have hb5:=k5.aN hb4 (by omega) (by simp; exact hbb)
   have hv5:Sl aU M5 v xs:=aM.keep (aM.keep hv k4 (by simp)) k5 (fun d hd hm=>by have:=aM.lt hv d hd; simp at hm; omega)
   have hw5:Sl aU M5 w ys:=aM.keep (aM.keep hw k4 (by simp)) k5 (fun d hd hm=>by have:=aM.lt hw d hd; simp at hm; omega)
   obtain rfl | rfl | rfl:i=0∨i=1∨i=2:=by omega
   ·rw[show decide (((0:Nat) : Int)<((2:Nat) : Int))=true from rfl,dC,at0,aj hb5 rfl]
    simp only[if_true] at Lh ⊢
    refine WE Lh hv5 (by simp) hx fun M6 Pq k6 n6=>?_
    rw[bG,dK (by omega)]
    refine dQ _ _ _ (by omega) ⟨1,rfl,by omega,by simp,k5.trans k6,n6.trans n5, ?_⟩
    simp at Pq ⊢
    exact Pq
   ·rw[show decide (((1:Nat) : Int)<((2:Nat) : Int))=true from rfl,dC,uB,aj hb5 rfl]
    simp only[if_true,show ¬ (1:Nat)=0 by omega,if_false] at Lh ⊢
    refine WE Lh hw5 (by omega) hy fun M6 Pq k6 n6=>?_
    rw[bG,dK (by omega)]
    refine dQ _ _ _ (by omega) ⟨2,rfl,by omega,by simp,k5.trans k6,n6.trans n5, ?_⟩
    simp at Pq ⊢
    exact Pq
   ·rw[show decide (((2:Nat) : Int)<((2:Nat) : Int))=false from rfl,bI]
    simp only[show ¬ (2:Nat)=0 by omega,show ¬ (2:Nat)=1 by omega,if_false,List.length_append,Nat.sub_self,bW,List.append_nil] at Lh ⊢
    refine hQ _ M5 ?_ (k4.aY k5 (by simp; omega))
    rw[Ow,List.length_append]
    exact .op b _ _ (by omega) (by omega) Lh (by rw[Enc.fo,List.length_append])
theorem iA.put {T i u a:Nat} {S S' : Nat→Prop} {M M' : RM} {ps:List Pt} {l:List AV} {v' : AV} {xs:List Nat} {ks:List Nat} (h:iA T S M a ps) (hl:M.heap a=some (.row l false T 0)) (hi:i<16)
  (hb:M'.heap a=some (.row ((l.set (2 * i) (N .u64 (u:Int))).set (2 * i + 1) v') false T 0)) (hk:ag ks M M') (hks:∀ d∈ks,d=a∨¬ S d) (hs:Sl aU M' v' xs) (hc:jO v') (hv:∀ d∈aD v',S' d) (hS:∀ d,S d→S' d) (ha:¬ S' a) : iA T S' M' a (ps.set i (u,xs)):=by
 obtain⟨l0,h1,h2,h3⟩:=h.row
 rw[hl] at h1
 obtain rfl:l=l0:=by simpa using h1
 refine⟨Nat.lt_of_lt_of_le h.lt hk.next,by rw[List.length_set]; exact h.len,⟨_,hb,by simp[h2],fun j hj=>?_⟩,ha⟩
 have hj' : j<ps.length:=by rw[List.length_set] at hj; exact hj
 have ahc:j<16:=by rw[← h.len]; exact hj'
 by_cases hji:j=i
 ·subst hji
  refine⟨v', ?_, ?_, ?_,hc,hv⟩
  ·rw[List.getElem?_set_ne (by omega),List.getElem?_set_self (by omega),List.getElem_set_self]
  ·rw[List.getElem?_set_self (by simp; omega)]
  ·rw[List.getElem_set_self]; exact hs
 ·obtain⟨w,b1,b2,b3,b4,b5⟩:=h3 j hj'
  refine⟨w, ?_, ?_, ?_,b4,fun d hd=>hS d (b5 d hd)⟩
  ·rw[List.getElem?_set_ne (by omega),List.getElem?_set_ne (by omega),List.getElem_set_ne (Ne.symm hji)]; exact b1
  ·rw[List.getElem?_set_ne (by omega),List.getElem?_set_ne (by omega)]; exact b2
  ·rw[List.getElem_set_ne (Ne.symm hji)]
   refine aM.keep b3 hk fun d hd hm=>?_
   rcases hks d hm with rfl | h'
   ·exact h.nb (b5 d hd)
   ·exact h' (b5 d hd)
def uK (f g:List Nat→List Nat) (p q:Pt) : Pt:=settle (max p.1 q.1) (g (f (p.2++q.2)))
def ui (f g:List Nat→List Nat) (ps qs:List Pt) : Nat→List Pt
 | 0=>ps
 | i + 1=>(ui f g ps qs i).set i (uK f g (ps.getD i (0,[])) (qs.getD i (0,[])))
theorem Oz {f g:List Nat→List Nat} {ps qs:List Pt} : ∀ {i j:Nat},i≤j→(ui f g ps qs i).getD j (0,[])=ps.getD j (0,[])
 | 0,j,_=>rfl
 | i + 1,j,h=>by rw[ui,getD_set_ne (by omega),Oz (by omega)]
def adT (P:List Nat→Prop) (P2:List Nat→Prop) (f g:List Nat→List Nat) (T:Nat) (c:au) : Prop:=∀ {M:RM} {a b:Nat} {ps qs:List Pt} {S S' : Nat→Prop} {Q:ak},iA T S M a ps→iA T S' M b qs→(a=b→ps=qs)→¬ S' a →
 (∀ i,i<16→P ((ps.getD i (0,[])).2++(qs.getD i (0,[])).2)∧P2 (f ((ps.getD i (0,[])).2++(qs.getD i (0,[])).2)))→(∀ p∈ps,p.1≤4398046511104∧p.2.length≤100000)→(∀ p∈qs,p.1≤4398046511104∧p.2.length≤100000) →
 (∀ i,i<16→(g (f ((ps.getD i (0,[])).2++(qs.getD i (0,[])).2))).length≤1000000∧∀ x∈g (f ((ps.getD i (0,[])).2++(qs.getD i (0,[])).2)),x≤4398046511104) →
 (∀ M',iA T (fun e=>S e∨M.next≤e) M' a (ui f g ps qs 16)→ag [a] M M'→Q (.tup []) M')→c [.ptr a 0,.ptr b 0] M Q
theorem yo {ps:List Pt} {R:Pt→Prop} (h:∀ p∈ps,R p) (h0:R (0,[])) (i:Nat) : R (ps.getD i (0,[])):=by
 rw[List.getD_eq_getElem?_getD]
 by_cases hj:i<ps.length
 ·rw[List.getElem?_eq_getElem hj]; exact h _ (List.getElem_mem hj)
 ·rw[List.getElem?_eq_none (by omega)]; exact h0
theorem afi {TS TP TL TU:Nat} {P P2:List Nat→Prop} {f g:List Nat→List Nat} {cc cs ck ct:au} (hc:Tg TU cc) (hs:acs P f TU cs) (hk:O1 P2 g TU ck) (ht:Iu ct) :
  adT P P2 f g TS fun args M Q=>∃ a0 a1,args=[a0,a1]∧Gy TP TL cc cs ck ct a0 a1 M Q:=by
 intro M a b ps qs S S' Q hA hB hab hSa hP hbp hbq hres hQ
 refine⟨_,_,rfl, ?_⟩
 unfold Gy
 have hal:=hA.lt
 have hbl:=hB.lt
 refine aK (fun m ys M3=>∃ (i:Nat),m=16 - i∧ys=[N .i64 (i:Int)]∧i≤16∧ag [a] M M3∧iA TS (fun e=>S e∨M.next≤e) M3 a (ui f g ps qs i)) _
  ⟨0,rfl,rfl,Nat.zero_le _,ag.refl _ _,hA.mono (fun e h=>.inl h) (fun h=>by rcases h with h | h; exact hA.nb h; omega)⟩ ?_
 rintro next m ys M3 hnext ⟨i,rfl,rfl,hi,k3,hA3⟩
 dsimp only[aa]
 rw[bN]
 refine aH (fun hlt=>?_) (fun hge=>?_)
 ·have hlt:i<16:=by
   have:(i:Int)<16:=of_decide_eq_true hlt
   omega
  have n3:=k3.next
  -- the second set's part
  have hB3:∃ l w,M3.heap b=some (.row l false TS 0)∧l.length=32∧l[2 * i]?=some (N .u64 ((qs.getD i (0,[])).1:Int))∧l[2 * i + 1]?=some w∧Sl aU M3 w (qs.getD i (0,[])).2∧a ∉ aD w:=by
   by_cases e:a=b
   ·subst e
    have e2:=hab rfl
    obtain⟨l,h1,h2,h3⟩:=hA3.row
    have hil:i<(ui f g ps qs i).length:=by rw[hA3.len]; exact hlt
    obtain⟨w,b1,b2,b3,b4,b5⟩:=h3 i hil
    have hD:=Oz (f:=f) (g:=g) (ps:=ps) (qs:=qs) (Nat.le_refl i)
    rw[List.getD_eq_getElem?_getD,List.getElem?_eq_getElem hil,Option.getD_some] at hD
    rw[hD,e2] at b1
    rw[hD,e2] at b3
    exact⟨l,w,h1,h2,b1,b2,b3,fun hm=>hA3.nb (b5 a hm)⟩
   ·obtain⟨l,h1,h2,h3⟩:=hB.row
    have hil:i<qs.length:=by rw[hB.len]; exact hlt
    obtain⟨w,b1,b2,b3,b4,b5⟩:=h3 i hil
    have hD:qs.getD i (0,[])=qs[i]:=by rw[List.getD_eq_getElem?_getD,List.getElem?_eq_getElem hil]; rfl
    rw[hD]
    exact⟨l,w,k3.aN h1 hbl (by simp; exact fun h=>e h.symm),h2,b1,b2,aM.keep b3 k3 (fun d hd hm=>by simp at hm; subst hm; exact hSa (b5 d hd)),fun hm=>hSa (b5 a hm)⟩
  obtain⟨lb,qw,hb3,hlb32,q1,q2,q3,q4⟩:=hB3
  obtain⟨la,ha3,hla32,hrow⟩:=hA3.row
  have hil:i<(ui f g ps qs i).length:=by rw[hA3.len]; exact hlt
  obtain⟨pw,p1,p2,p3,p4,p5⟩:=hrow i hil
  have hD:=Oz (f:=f) (g:=g) (ps:=ps) (qs:=qs) (Nat.le_refl i)
  rw[List.getD_eq_getElem?_getD,List.getElem?_eq_getElem hil,Option.getD_some] at hD
  rw[hD] at p1 p3
  have bp:=yo hbp ⟨by decide,by decide⟩ i
  have bq:=yo hbq ⟨by decide,by decide⟩ i
  obtain⟨hPi,axX⟩:=hP i hlt
  obtain⟨hr1,hr2⟩:=hres i hlt
  have arF:∀ M',ag [a] M M'→iA TS (fun e=>S e∨M.next≤e) M' a ((ui f g ps qs i).set i (uK f g (ps.getD i (0,[])) (qs.getD i (0,[]))))→next [N .i64 ((i + 1:Nat) : Int)] M':=fun M' k h=>hnext _ _ _ (by omega) ⟨i + 1,rfl,rfl,by omega,k,h⟩
  generalize ps.getD i (0,[])=p at *
  generalize qs.getD i (0,[])=q at *
  obtain⟨pu,px⟩:=p
  obtain⟨qu,qx⟩:=q
  simp only[uK] at *
  rw[aG,aS,yx]
  refine⟨by omega,by omega, ?_⟩
  rw[aG,aS,yx]
  refine⟨by omega,by omega, ?_⟩
  rw[Int.toNat_natCast,Nat.zero_add,Nat.mul_comm i 2,fZ]
  have hcut:M3.loads b (2 * i) 2=some [N .u64 (qu:Int),qw]:=by
   rw[RM.dx hb3 (by omega)]
   obtain⟨r1,r2⟩:=List.getElem?_eq_some_iff.1 q1
   obtain⟨r3,r4⟩:=List.getElem?_eq_some_iff.1 q2
   rw[List.drop_eq_getElem_cons r1,List.drop_eq_getElem_cons r3,r2,r4]; rfl
  refine⟨_,hcut, ?_⟩
  have hq1:=aM.one q3
  rw[ku,iK (n:=2) (x:=.agg [N .u64 (qu:Int),qw]) (l:=[N .u64 0,.sc (.slice none 0 0)]) (RM.aQ _) rfl rfl (by simp[AV.cells,hq1]; rfl)]
  have k4:ag [] M3 ((M3.push (.row [N .u64 0,.sc (.slice none 0 0)] false TP 0)).put M3.next (.row (AV.agg [N .u64 (qu:Int),qw]).cells false TP 0)):=((ag.refl _ _).push _).new _ (Nat.le_refl _)
  have h4:((M3.push (.row [N .u64 0,.sc (.slice none 0 0)] false TP 0)).put M3.next (.row (AV.agg [N .u64 (qu:Int),qw]).cells false TP 0)).heap M3.next=some (.row [N .u64 (qu:Int),qw] false TP 0):=aR _
  have n4:((M3.push (.row [N .u64 0,.sc (.slice none 0 0)] false TP 0)).put M3.next (.row (AV.agg [N .u64 (qu:Int),qw]).cells false TP 0)).next=M3.next + 1:=rfl
  generalize (M3.push (.row [N .u64 0,.sc (.slice none 0 0)] false TP 0)).put M3.next (.row (AV.agg [N .u64 (qu:Int),qw]).cells false TP 0)=M4 at *
  have azk:=hA3.lt
  have ha4:=k4.aN ha3 azk (by simp)
  rw[aG,aF,Nat.add_zero,aj ha4 p1,aS,aj h4 rfl,YX,if_pos rfl,WT,aG,aF,Nat.add_zero,fU ha4 (by omega) rfl rfl]
  have k5:ag [a] M4 (M4.put a (.row (la.set (2 * i) (N .u64 ((max pu qu:Nat) : Int))) false TS 0)):=(ag.refl _ _).put _ (.inr (by simp))
  have ha5:(M4.put a (.row (la.set (2 * i) (N .u64 ((max pu qu:Nat) : Int))) false TS 0)).heap a=some (.row (la.set (2 * i) (N .u64 ((max pu qu:Nat) : Int))) false TS 0):=aR _
  have n5:(M4.put a (.row (la.set (2 * i) (N .u64 ((max pu qu:Nat) : Int))) false TS 0)).next=M4.next:=rfl
  generalize M4.put a (.row (la.set (2 * i) (N .u64 ((max pu qu:Nat) : Int))) false TS 0)=M5 at *
  have h5:=k5.aN h4 (by omega) (by simp; omega)
  have p2' : (la.set (2 * i) (N .u64 ((max pu qu:Nat) : Int)))[2 * i + 1]?=some pw:=by rw[List.getElem?_set_ne (by omega)]; exact p2
  rw[aG,aF,aj ha5 p2',aS,aj h5 rfl]
  have aAP:a ∉ aD pw:=fun hm=>hA3.nb (p5 a hm)
  have k35:ag [a] M3 M5:=(k4.mono (by simp)).trans k5
  have sp5:Sl aU M5 pw px:=aM.keep p3 k35 (fun d hd hm=>by simp at hm; subst hm; exact aAP hd)
  have sq5:Sl aU M5 qw qx:=aM.keep q3 k35 (fun d hd hm=>by simp at hm; subst hm; exact q4 hd)
  have hw1:=aM.one sp5
  have hwc:=aM.cells sp5
  have hqc:=aM.cells sq5
  refine⟨[pw,qw],by simp[AZ,bW,hwc,hqc,hw1,hq1], ?_⟩
  dsimp only
  rw[ku]
  have k6:ag [] M5 (M5.push (.row [pw,qw] false TL 0)):=(ag.refl _ _).push _
  have h6:(M5.push (.row [pw,qw] false TL 0)).heap M5.next=some (.row [pw,qw] false TL 0):=RM.aQ _
  have n6:(M5.push (.row [pw,qw] false TL 0)).next=M5.next + 1:=rfl
  generalize M5.push (.row [pw,qw] false TL 0)=M6 at *
  refine hc h6 (by omega) (aM.keep sp5 k6 (by simp)) (aM.keep sq5 k6 (by simp)) (by have:=bp.2; omega) (by have:=bq.2; omega) fun r M7 ho7 k7=>?_
  have n7:=k7.next
  have k57:=k6.trans k7
  have ha7:=k57.aN ha5 (by omega) (by simp)
  rw[aG,aF,fU ha7 (by simp; omega) ho7.cells ho7.one]
  have k8:ag [a] M7 (M7.put a (.row ((la.set (2 * i) (N .u64 ((max pu qu:Nat) : Int))).set (2 * i + 1) r) false TS 0)):=(ag.refl _ _).put _ (.inr (by simp))
  have ha8:(M7.put a (.row ((la.set (2 * i) (N .u64 ((max pu qu:Nat) : Int))).set (2 * i + 1) r) false TS 0)).heap a=some (.row ((la.set (2 * i) (N .u64 ((max pu qu:Nat) : Int))).set (2 * i + 1) r) false TS 0):=aR _
  have n8:(M7.put a (.row ((la.set (2 * i) (N .u64 ((max pu qu:Nat) : Int))).set (2 * i + 1) r) false TS 0)).next=M7.next:=rfl
  generalize M7.put a (.row ((la.set (2 * i) (N .u64 ((max pu qu:Nat) : Int))).set (2 * i + 1) r) false TS 0)=M8 at *
  have har:a ∉ aD r:=fun hm=>by have:=(ho7.blk a hm).1; omega
  have ho8:=ho7.keep k8 (fun d hd hm=>by simp at hm; subst hm; exact har hd)
  have g1:((la.set (2 * i) (N .u64 ((max pu qu:Nat) : Int))).set (2 * i + 1) r)[2 * i + 1]?=some r:=by rw[List.getElem?_set_self (by simp; omega)]
  have g0:((la.set (2 * i) (N .u64 ((max pu qu:Nat) : Int))).set (2 * i + 1) r)[2 * i]?=some (N .u64 ((max pu qu:Nat) : Int)):=by rw[List.getElem?_set_ne (by omega),List.getElem?_set_self (by omega)]
  rw[aG,aF,aj ha8 g1]
  refine hs ho8 hPi fun M9 ho9 k9=>?_
  have ha9:=k9.aN ha8 (by omega) har
  have n9:=k9.next
  rw[aG,aF,aj ha9 g1]
  refine hk ho9 axX fun r' M10 s10 c10 b10 k10=>?_
  have n10:=k10.next
  have aAt:=k10.aN ha9 (by omega) har
  have har' : a ∉ aD r':=fun hm=>har (b10 a hm)
  rw[aG,aF,rJ ((la.set (2 * i) (N .u64 ((max pu qu:Nat) : Int))).set (2 * i + 1) r') aAt (by simp; omega) (aM.cells s10) (aM.one s10) (by rw[List.set_set])]
  have k11:ag [a] M10 (M10.put a (.row ((la.set (2 * i) (N .u64 ((max pu qu:Nat) : Int))).set (2 * i + 1) r') false TS 0)):=(ag.refl _ _).put _ (.inr (by simp))
  have ayU:(M10.put a (.row ((la.set (2 * i) (N .u64 ((max pu qu:Nat) : Int))).set (2 * i + 1) r') false TS 0)).heap a=some (.row ((la.set (2 * i) (N .u64 ((max pu qu:Nat) : Int))).set (2 * i + 1) r') false TS 0):=aR _
  have n11:(M10.put a (.row ((la.set (2 * i) (N .u64 ((max pu qu:Nat) : Int))).set (2 * i + 1) r') false TS 0)).next=M10.next:=rfl
  generalize M10.put a (.row ((la.set (2 * i) (N .u64 ((max pu qu:Nat) : Int))).set (2 * i + 1) r') false TS 0)=M11 at *
  have s11:Sl aU M11 r' (g (f (px++qx))):=aM.keep s10 k11 (fun d hd hm=>by simp at hm; subst hm; exact har' hd)
  have g0' : ((la.set (2 * i) (N .u64 ((max pu qu:Nat) : Int))).set (2 * i + 1) r')[2 * i]?=some (N .u64 ((max pu qu:Nat) : Int)):=by rw[List.getElem?_set_ne (by omega),List.getElem?_set_self (by omega)]
  have g1' : ((la.set (2 * i) (N .u64 ((max pu qu:Nat) : Int))).set (2 * i + 1) r')[2 * i + 1]?=some r':=by rw[List.getElem?_set_self (by simp; omega)]
  refine ht ayU g0' g1' s11 har' c10 hr1 (by have:=bp.1; have:=bq.1; omega) hr2 fun v' M12 ax6 s12 c12 b12 k12 n12=>?_
  rw[bG,dK (by omega)]
  have kr:∀ d∈aD r,M.next≤d∧M3.next≤d:=fun d hd=>by have:=(ho7.blk d hd).1; omega
  -- all that was changed: the set's block,and new ones
  have at5:ag [a] M3 M12:=by
   have w7:ag [a] M3 M7:=k35.trans (k57.mono (by simp))
   have w8:=w7.trans k8
   have w9:=w8.aY k9 fun d hd=>.inl (kr d hd).2
   have w10:=w9.aY k10 fun d hd=>.inl (kr d hd).2
   exact(w10.trans k11).trans k12
  refine arF M12 (k3.trans at5) (hA3.put ha3 hlt ?_ at5 (fun d hd=>.inl (by simpa using hd)) s12 c12 (fun d hd=>.inr (kr d (b10 d (b12 d hd))).1) (fun d h=>h) (fun h=>by rcases h with h | h; exact hA.nb h; omega))
  rw[ax6]
  rw[List.set_comm (i:=2 * i + 1) (j:=2 * i) _ _ (by omega),List.set_set,List.set_set]
  rfl
 ·have he:i=16:=by
   have:¬ (i:Int)<16:=of_decide_eq_false hge
   omega
  subst he
  exact hQ M3 hA3 k3
theorem K8 {f g:List Nat→List Nat} {ps qs:List Pt} : ∀ i,(ui f g ps qs i).length=ps.length
 | 0=>rfl
 | i + 1=>by rw[ui,List.length_set,K8 i]
theorem Xu {f g:List Nat→List Nat} {ps qs:List Pt} (hl:ps.length=16) : ∀ {i j:Nat},i≤16→j<i→(ui f g ps qs i).getD j (0,[])=uK f g (ps.getD j (0,[])) (qs.getD j (0,[]))
 | i + 1,j,hi,h=>by
   rw[ui]
   by_cases e:i=j
   ·subst e
    rw[vo (by rw[K8]; omega)]
   ·rw[getD_set_ne e,Xu hl (by omega) (by omega)]
theorem jY {p:Pt} {x:Nat} : kF p x=true↔(1≤x∧x≤p.1)∨x∈p.2:=by
 unfold kF
 simp only[Bool.or_eq_true,Bool.and_eq_true,decide_eq_true_eq]
theorem GY:∀ (xs:List Nat) (u x:Nat),(∀ y∈xs,1≤y)→(kF (settle u xs) x=true↔(1≤x∧x≤u)∨x∈xs)
 | [],u,x,_=>by rw[jY]; simp[settle,fq]
 | y :: xs,u,x,h=>by
   by_cases hy:y≤u + 1
   ·have e:settle u (y :: xs)=settle (max u y) xs:=by
     unfold settle
     rw[fq,if_pos hy]; rfl
    have h1:=h y (by simp)
    rw[e,GY xs (max u y) x (fun z hz=>h z (by simp[hz])),List.mem_cons]
    constructor
    ·rintro(⟨a,b⟩ | c)
     ·by_cases hx:x≤u
      ·exact .inl ⟨a,hx⟩
      ·exact .inr (.inl (by omega))
     ·exact .inr (.inr c)
    ·rintro(⟨a,b⟩ | c | c)
     ·exact .inl ⟨a,by omega⟩
     ·exact .inl ⟨by omega,by omega⟩
     ·exact .inr c
   ·have e:settle u (y :: xs)=(u,y :: xs):=by
     unfold settle
     rw[fq,if_neg hy]; rfl
    rw[e,jY]
theorem Zu {k n:Nat} {xs:List Nat} {x:Nat} : x∈iN k n xs↔x=n∨x∈xs:=by
 refine⟨Hr,fun h=>?_⟩
 unfold iN
 rcases h with h | h
 ·simp[h]
 ·rw[← List.take_append_drop k xs,List.mem_append] at h
  rw[List.mem_append,List.mem_cons]
  rcases h with h | h
  ·exact .inl h
  ·exact .inr (.inr h)
theorem agJ {p:Pt} {n x:Nat} (hp:jP p) (hn:1≤n) (hok:(iM p n).1=true) : kF (iM p n).2 x=true↔kF p x=true∨x=n:=by
 unfold iM at hok ⊢
 by_cases h:n∈p.2∨n≤p.1
 ·rw[if_pos h]
  constructor
  ·exact .inl
  ·rintro(h1 | rfl)
   ·exact h1
   ·rw[jY]
    rcases h with h | h
    ·exact .inr h
    ·exact .inl ⟨hn,h⟩
 ·rw[if_neg h] at hok ⊢
  by_cases h2:(settle p.1 (iN (below n p.2) n p.2)).2.length≤4096
  ·rw[if_pos h2]
   simp only
   rw[GY _ _ _ (fun y hy=>by rcases Zu.1 hy with rfl | hy; exact hn; have:=hp.2.1 y hy; omega),Zu,jY]
   constructor
   ·rintro(a | b | c)
    ·exact .inl (.inl a)
    ·exact .inr b
    ·exact .inl (.inr c)
   ·rintro((a | b) | c)
    ·exact .inl a
    ·exact .inr (.inr b)
    ·exact .inr (.inl c)
  ·rw[if_neg h2] at hok; cases hok
theorem MM {p q:Pt} (hp:jP p) (hq:jP q) : qY p q=true↔∀ x,kF p x=true→kF q x=true:=by
 constructor
 ·intro h x hx
  unfold qY at h
  simp only[Bool.and_eq_true,List.all_eq_true,decide_eq_true_eq] at h
  rw[jY] at hx
  rcases hx with hx | hx
  ·rw[jY]; exact .inl ⟨hx.1,by omega⟩
  ·exact h.2 x hx
 ·intro h
  unfold qY
  simp only[Bool.and_eq_true,List.all_eq_true,decide_eq_true_eq]
  refine⟨?_,fun x hx=>h x (jY.2 (.inr hx))⟩
  rcases Nat.lt_or_ge q.1 p.1 with hlt | hle
  ·have:=jY.1 (h (q.1 + 1) (jY.2 (.inl ⟨by omega,by omega⟩)))
   rcases this with h1 | h1
   ·omega
   ·have:=hq.2.1 _ h1; omega
  ·exact hle
theorem ahb {p:Pt} {n:Nat} : (iM p n).2.2.length≤p.2.length + 1:=by
 unfold iM
 split
 ·exact Nat.le_succ _
 ·split
  ·have h1:=HZ p.1 (iN (below n p.2) n p.2)
   have h2:=Gr (x:=n) (below_le n p.2)
   simp only; omega
  ·exact Nat.le_succ _
theorem aaT {p:Pt} {n:Nat} (h:p.2.length<4096) : (iM p n).1=true:=by
 unfold iM
 split
 ·rfl
 ·have h1:=HZ p.1 (iN (below n p.2) n p.2)
  have h2:=Gr (x:=n) (below_le n p.2)
  rw[if_pos (by omega)]
theorem UH {ps:List Pt} {d:aC} (hl:∀ p∈ps,p.2.length<4096) (hg:good d=true) : nY ps d=(0,ps.set d.1.toNat (iM (ps.getD d.1.toNat (0,[])) d.2).2):=by
 unfold nY
 rw[if_pos hg,aaT (yo (R:=fun p=>p.2.length<4096) hl (by decide) _),if_pos rfl]
theorem afQ {ps:List Pt} {d:aC} {k:Nat} (hl:∀ p∈ps,p.2.length≤k) : ∀ p∈(nY ps d).2,p.2.length≤k + 1:=by
 unfold nY
 split
 ·split
  ·intro p hp
   rcases List.mem_or_eq_of_mem_set hp with hp | rfl
   ·have:=hl p hp; omega
   ·have h1:=ahb (p:=ps.getD d.1.toNat (0,[])) (n:=d.2)
    have h2:=yo (R:=fun p=>p.2.length≤k) hl (Nat.zero_le _) d.1.toNat
    omega
  ·intro p hp; have:=hl p hp; omega
 ·intro p hp; have:=hl p hp; omega
section
variable {ps:List Pt} {d:aC}
theorem Xg (hg:good d=true) : 1≤d.2∧d.2≤1099511627776∧d.1.toNat<16:=by
 simp only[good,Bool.and_eq_true,decide_eq_true_eq] at hg
 omega
theorem ahW (h16:ps.length=16) (hw:∀ p∈ps,jP p) (hl:∀ p∈ps,p.2.length<4096) (hg:good d=true) (j x:Nat) :
  kF ((nY ps d).2.getD j (0,[])) x=true↔kF (ps.getD j (0,[])) x=true∨(j=d.1.toNat∧x=d.2):=by
 obtain⟨h1,h2,h3⟩:=Xg hg
 rw[UH hl hg]
 simp only
 by_cases e:d.1.toNat=j
 ·subst e
  rw[vo (by omega),agJ (ql hw _) h1 (aaT (yo (R:=fun p=>p.2.length<4096) hl (by decide) _))]
  simp
 ·rw[getD_set_ne e]
  simp[Ne.symm e]
theorem aah {qs:List Pt} {e:aC} (hw:∀ p∈ps,jP p) (hw2:∀ p∈qs,jP p) (h:ko ps qs=true) (he:fw ps e=true) : fw qs e=true:=by
 unfold fw at he ⊢
 simp only[Bool.and_eq_true] at he ⊢
 exact⟨he.1,(MM (ql hw _) (ql hw2 _)).1 (zh.1 h _ (Xg he.1).2.2) _ he.2⟩
end
theorem aeC {acc y k:Nat} (h:acc<2 ^ k) (hs:acc + y * 2 ^ k<2 ^ 64) : (acc ||| (y * 2 ^ k % 2 ^ 64)) % 2 ^ 64=acc + y * 2 ^ k:=by
 have e:y * 2 ^ k % 2 ^ 64=2 ^ k * y:=by rw[Nat.mod_eq_of_lt (by omega),Nat.mul_comm]
 rw[e,Nat.or_comm,← Nat.two_pow_add_eq_or_of_lt h,Nat.mul_comm,Nat.add_comm,Nat.mod_eq_of_lt hs]
theorem ad6:∀ (w i acc:Nat) (r:List UInt8),acc<2 ^ (7 * i)→acc + w * 2 ^ (7 * i)<2 ^ 64→(0<i→w≠0)→i≤9→Aj i acc (bi w++r)=some (acc + w * 2 ^ (7 * i),i + (bi w).length):=by
 intro w
 induction w using Nat.strongRecOn with
 | _ w ih =>
   intro i acc r ha hs h0 hi
   by_cases hw:w<128
   ·rw[BQ hw,List.singleton_append,Aj,Jy,show w % 256=w by omega,if_neg (by omega)]
    rw[if_neg]
    ·rw[show w % 128=w by omega,aeC ha hs]; rfl
    ·rintro(⟨h1,h2⟩ | ⟨h1,h2⟩)
     ·exact h0 h2 h1
     ·subst h1
      have:2 * 2 ^ (7 * 9)≤w * 2 ^ (7 * 9):=Nat.mul_le_mul_right _ h2
      have e:2 * 2 ^ (7 * 9)=2 ^ 64:=by decide
      omega
   ·rw[CP hw,List.cons_append,Aj,Jy,show(w % 128 + 128) % 256=w % 128 + 128 by omega,if_pos (by omega)]
    rw[show(w % 128 + 128) % 128=w % 128 by omega]
    have hp:2 ^ (7 * (i + 1))=128 * 2 ^ (7 * i):=by rw[show 7 * (i + 1)=7 * i + 7 by omega,Nat.pow_add,Nat.mul_comm]
    have hsplit:w * 2 ^ (7 * i)=w % 128 * 2 ^ (7 * i) + w / 128 * 2 ^ (7 * (i + 1)):=by
     rw[hp,← Nat.mul_assoc,← Nat.add_mul]
     congr 1
     omega
    have hlow:w % 128 * 2 ^ (7 * i) + 2 ^ (7 * i)≤2 ^ (7 * (i + 1)):=by
     rw[hp,← Nat.succ_mul]
     exact Nat.mul_le_mul_right _ (by omega)
    have hpos:0<2 ^ (7 * (i + 1)):=Nat.pos_of_ne_zero (by simp)
    have h1:2 ^ (7 * (i + 1))≤w / 128 * 2 ^ (7 * (i + 1)):=Nat.le_mul_of_pos_left _ (by omega)
    have hi9:i + 1≤9:=by
     rcases Nat.lt_or_ge i 9 with h | h
     ·omega
     ·have:i=9:=by omega
      subst this
      have e:(2:Nat) ^ (7 * (9 + 1))=2 ^ 64 * 64:=by decide
      omega
    rw[aeC ha (by omega),ih (w / 128) (by omega) (i + 1) _ r (by omega) (by omega) (fun _=>by omega) hi9]
    congr 2
    ·omega
    ·simp only[List.length_cons]; omega
theorem adz {v:Nat} (h:v<2 ^ 64) (r:List UInt8) : Ki (bi v++r)=some (v,(bi v).length):=by
 unfold Ki
 have hl:=dJ h
 rw[List.take_append,List.take_of_length_le hl]
 have:=ad6 v 0 0 (r.take (10 - (bi v).length)) (by decide) (by simpa using h) (fun h=>by omega) (by omega)
 rw[this]
 simp
theorem kC {most v:Nat} (hv:v≤most) (h:v<2 ^ 64) (r:List UInt8) : bC most (bi v++r) false=(v,r,false):=by
 unfold bC
 rw[adz h r]
 simp only[Bool.false_or]
 rw[if_neg (by simp; omega),List.drop_left' rfl]
theorem zo {v:Nat} (h:v<2 ^ 64) (r:List UInt8) : iP (bi v++r) false=(v,r,false):=by
 unfold iP
 exact kC (by omega) h r
theorem RG:∀ (xs:List Nat) (a:Nat) (r:List UInt8) (acc:List Nat),Asc xs→(∀ x∈xs,a<x∧x≤1099511627776)→a≤1099511627776 →
  Ao xs.length a (kQ a xs++r) false acc=some ((xs.getLast?).getD a,r,false,acc++xs)
 | [],a,r,acc,_,_,_=>by simp[Ao,kQ]
 | x :: xs,a,r,acc,hasc,hx,ha=>by
   have h1:=hx x (by simp)
   have hs:Du x a=x - a:=by unfold Du; omega
   have a2:=List.pairwise_cons.1 hasc
   rw[List.length_cons,Ao,kQ,List.append_assoc,hs,zo (by omega)]
   simp only
   rw[if_neg (by simp; omega),show a + (x - a)=x by omega,RG xs x r (acc++[x]) a2.2 (fun y hy=>⟨a2.1 y hy,(hx y (by simp[hy])).2⟩) h1.2]
   congr 2
   ·cases xs with
    | nil=>rfl
    | cons y ys=>simp[List.getLast?_cons]
   ·simp
theorem WW:∀ (xs:List Nat) (a:Nat),Asc xs→(∀ x∈xs,a<x)→chain a xs=true
 | [],_,_,_=>rfl
 | x :: xs,a,h,hx=>by
   have a2:=List.pairwise_cons.1 h
   rw[chain,WW xs x a2.2 a2.1]
   simp only[Bool.and_true,decide_eq_true_eq]
   exact hx x (by simp)
theorem alr {p:Pt} (h:jP p) : tC p=true:=WW _ _ h.1 h.2.1
theorem KU:∀ (ls:List eQ) (us:List Pt) (r:List UInt8),(∀ x∈ls,x.1.1<16∧jP (x.1.2,x.2))→(ls.Pairwise fun a b=>a.1.1<b.1.1)→(∀ x∈ls,us.getD x.1.1 (0,[])=(0,[])) →
  uN ls.length (ls.flatMap iB++r) false us=some (r,false,ls.foldl (fun u x=>u.set x.1.1 (x.1.2,x.2)) us)
 | [],us,r,_,_,_=>by simp[uN]
 | x :: ls,us,r,hw,hr,hf=>by
   obtain⟨⟨dv,u⟩,xs⟩:=x
   obtain⟨h16,hwf⟩:=hw _ (List.mem_cons_self)
   have hfx:=hf _ (List.mem_cons_self)
   simp only at h16 hwf hfx
   have hu:u≤1099511627776:=hwf.2.2.1
   have hxl:xs.length≤4096:=hwf.2.2.2.2
   have a2:=List.pairwise_cons.1 hr
   have e:(((dv,u),xs) :: ls).flatMap iB++r=bi dv++(bi u++(bi xs.length++(kQ u xs++(ls.flatMap iB++r)))):=by
    simp only[List.flatMap_cons,iB,List.append_assoc]
   rw[e,List.length_cons,uN,kC (by omega) (by omega)]
   simp only
   rw[zo (by omega)]
   simp only
   rw[kC hxl (by omega)]
   simp only
   rw[hfx]
   rw[RG xs u _ [] hwf.1 (fun y hy=>⟨by have:=hwf.2.1 y hy; simp only at this; omega,hwf.2.2.2.1 y hy⟩) hu]
   simp only[List.nil_append]
   have hlast:(xs.getLast?).getD u≤1099511627776:=by
    cases h:xs.getLast? with
    | none=>exact hu
    | some y=>exact hwf.2.2.2.1 y (List.mem_of_getLast? h)
   rw[if_neg (by omega),KU ls _ r (fun y hy=>hw y (by simp[hy])) a2.2 (fun y hy=>by
    have:=a2.1 y hy
    simp only at this
    rw[getD_set_ne (by omega)]
    exact hf y (by simp[hy]))]
   rfl
theorem aam {ps:List Pt} (h:ps.length=16) (hw:∀ p∈ps,jP p) : decode (encS ps)=some ps:=by
 have hpl:=uh ps 16
 have hall:=adY h
 unfold decode
 have e:encS ps=bi (parts ps).length++((parts ps).flatMap iB++[]):=by rw[List.append_nil]; rfl
 have e16:bC 16 (encS ps) false=((parts ps).length,(parts ps).flatMap iB++[],false):=by
  rw[e]
  exact kC hpl (by have:(parts ps).length≤16:=hpl; omega) _
 rw[e16]
 simp only
 rw[KU (parts ps) gu [] (fun x hx=>⟨(XX hw hx).1,(XX hw hx).2.1⟩) (QS 16) (fun x _=>xJ _)]
 simp only
 have e2:(parts ps).foldl (fun u x=>u.set x.1.1 (x.1.2,x.2)) gu=ps:=hall
 rw[e2,if_neg]
 rintro(h1 | h1 | h1 | h1)
 ·cases h1
 ·exact h1 rfl
 ·have:ps.all tC=true:=List.all_eq_true.2 fun p hp=>alr (hw p hp)
  rw[this] at h1; cases h1
 ·exact h1 rfl
def qp (T:Nat) (M:RM) (base:Nat) (v:AV) (L:List UInt8) : Prop :=
 Own M base T 1 v (ek L) L.length∨∃ b,v=.slc b 0 L.length (.ex L.length)∧base≤b∧b<M.next∧M.heap b=some (.row (ek L) false T 0)
theorem qp.sl {T base:Nat} {M:RM} {v:AV} {L:List UInt8} (h:qp T M base v L) : Sl BY M v L:=by
 rcases h with h | ⟨b,rfl,h1,h2,h3⟩
 ·exact Own.sl h
 ·show aM M 1 _ (BY.row L) L.length
  rw[CR]
  refine .slc _ _ _ _ _ h2 ?_
  rw[RM.dx h3 (by simp),Nat.mul_one,List.drop_zero,List.take_of_length_le (by simp)]
theorem qp.keep {T base:Nat} {M M' : RM} {v:AV} {L:List UInt8} (h:qp T M base v L) (hk:ag [] M M') : qp T M' base v L:=by
 rcases h with h | ⟨b,rfl,h1,h2,h3⟩
 ·exact .inl (h.keep hk (by simp))
 ·exact .inr ⟨b,rfl,h1,Nat.lt_of_lt_of_le h2 hk.next,hk.aN h3 h2 (by simp)⟩
theorem qp.app {T base:Nat} {M:RM} {v u:AV} {L L' : List UInt8} {zs:List AV} {K:ak} (h:qp T M base v L) (hb:base≤M.next) (hu:Sl BY M u L') (hl:L.length + L'.length≤1000000000)
  (hK:∀ v' M',qp T M' base v' (L++L')→ag (aD v) M M'→(∀ d∈aD v,base≤d)→K v' M') : appW T 1 1 zs false v u M K:=by
 have hcs:BY.row L'=ek L':=CR L'
 have hu' : aM M 1 u (ek L') L'.length:=by rw[← hcs]; exact hu
 rcases h with h | ⟨b,rfl,h1,h2,h3⟩
 ·refine uz h hb (Nat.le_refl _) (hu'.nQ _) (by simp) (mM _) (by omega) (by omega) ?_
  intro v' M' o k _ _
  refine hK v' M' (.inl ?_) k (fun d hd=>(h.blk d hd).1)
  rw[mD,List.length_append]; exact o
 ·refine⟨L'.length,ek L',hu'.nQ _,by omega,by omega, ?_⟩
  by_cases h0:L'.length=0
  ·have:L'=[]:=List.length_eq_zero_iff.1 h0
   subst this
   refine⟨.slc b 0 L.length (.ex L.length),M,by simp[qK],hK _ _ (.inr ⟨b,by simp,h1,h2,by simpa using h3⟩) (ag.refl _ _) (by simp[aD]; exact h1)⟩
  ·have hld:M.loads b 0 (L.length * 1)=some (ek L):=by
    rw[RM.dx h3 (by simp),Nat.mul_one,List.drop_zero,List.take_of_length_le (by simp)]
   refine⟨.slc M.next 0 (L.length + L'.length) (.op 1),M.push (.row (ek L++ek L') true T 0), ?_,hK _ _ (.inl ?_) ((ag.refl _ _).push _) (by simp[aD]; exact h1)⟩
   ·have hone:(ek L++ek L').all oneCell=true:=by rw[List.all_append,mM,mM]; rfl
    simp only[qK,if_neg h0,if_neg (show ¬ L.length + L'.length≤L.length by omega),hld]
    rw[if_pos ⟨by omega,by omega,hone⟩]
   ·rw[List.length_append,mD]
    exact .op _ _ _ hb (by simp[RM.push]) (RM.aQ _) (by simp)
def Iy (T v:Nat) (c:au) : Prop:=∀ {M:RM} {Q:ak},(∀ r M',qp T M' M.next r (bi v)→ag [] M M'→Q r M')→c [N .u64 (v:Int)] M Q
theorem WR {T v:Nat} {c:au} (hv:v<2 ^ 64) (ih:∀ w,w<v→Iy T w c) : Iy T v fun args M Q=>∃ a0,args=[a0]∧Fp T c a0 M Q:=by
 intro M Q hQ
 refine⟨_,rfl, ?_⟩
 unfold Fp
 have lit:∀ (x:UInt8),qp T (M.push (.row [By x] false T 0)) M.next (.slc M.next 0 1 (.ex 1)) [x]:=fun x=>.inr ⟨M.next,rfl,Nat.le_refl _,by simp[RM.push],RM.aQ _⟩
 rw[bN]
 refine aH (fun h=>?_) (fun h=>?_)
 ·have h:v<128:=by
   have:(v:Int)<128:=of_decide_eq_true h
   omega
  rw[gz,aaS h,lv (x:=By (UInt8.ofNat v)) (size:=1) rfl rfl rfl,bn]
  refine hQ _ _ ?_ ((ag.refl _ _).push _)
  rw[BQ h]; exact lit _
 ·have h:¬ v<128:=by
   have:¬ (v:Int)<128:=of_decide_eq_false h
   omega
  rw[YZ]
  refine⟨by decide, ?_⟩
  have e1:(v:Int).tmod 128=((v % 128:Nat) : Int):=by rw[Int.tmod_eq_emod_of_nonneg (by omega)]; rfl
  rw[e1,gz,Gv (by omega) (by omega),bG,show((v % 128:Nat) : Int) + 128=((v % 128 + 128:Nat) : Int) by omega,Gv (by omega) (by omega)]
  have e2:N .u8 ((v % 128 + 128:Nat) : Int)=By (UInt8.ofNat (v % 128 + 128)):=by rw[By,Jy]; congr 2; omega
  rw[e2,lv (x:=By (UInt8.ofNat (v % 128 + 128))) (size:=1) rfl rfl rfl,bn,qJ]
  refine⟨by decide, ?_⟩
  rw[show(128:Int)=((128:Nat) : Int) from rfl,wE,dB (by omega) (by omega)]
  have k1:ag [] M (M.push (.row [By (UInt8.ofNat (v % 128 + 128))] false T 0)):=(ag.refl _ _).push _
  have l1:=lit (UInt8.ofNat (v % 128 + 128))
  have n1:(M.push (.row [By (UInt8.ofNat (v % 128 + 128))] false T 0)).next=M.next + 1:=rfl
  show c _ (M.push (.row [By (UInt8.ofNat (v % 128 + 128))] false T 0)) _
  generalize M.push (.row [By (UInt8.ofNat (v % 128 + 128))] false T 0)=M1 at *
  refine ih (v / 128) (by omega) fun r M2 h2 k2=>?_
  have hlen:=dJ (v:=v / 128) (by omega)
  have n2:=k2.next
  refine(l1.keep k2).app (by omega) h2.sl (by simp; omega) fun v' M3 h3 k3 hb3=>?_
  refine hQ v' M3 ?_ ((k1.trans k2).aY k3 fun d hd=>.inl (hb3 d hd))
  rw[CP h]
  exact h3
structure PO (TP TU base:Nat) (M:RM) (v:AV) (out:List eQ) (cs:List AV) (ws:Nat→AV) : Prop where
 own:Own M base TP 3 v cs out.length
 row:∀ (k:Nat) (hk:k<out.length),cs[3 * k]?=some (N .i64 (out[k].1.1:Int))∧cs[3 * k + 1]?=some (N .u64 (out[k].1.2:Int))∧cs[3 * k + 2]?=some (ws k)∧Ow aU M base TU (ws k) out[k].2
 apart:∀ i j,i<out.length→j<out.length→i≠j→∀ d∈aD (ws i),d ∉ aD (ws j)
 off:∀ i,i<out.length→∀ d∈aD (ws i),d ∉ aD v
section
variable {TP TU base:Nat} {M M' : RM} {v:AV} {out:List eQ} {cs:List AV} {ws:Nat→AV}
theorem PO.empty (h:Own M base TP 3 v [] 0) : PO TP TU base M v [] [] (fun _=>dV) :=
 ⟨h,fun k hk=>absurd hk (Nat.not_lt_zero _),fun i j hi=>absurd hi (Nat.not_lt_zero _),fun i hi=>absurd hi (Nat.not_lt_zero _)⟩
theorem PO.keep {ks:List Nat} (h:PO TP TU base M v out cs ws) (hk:ag ks M M') (hs:∀ d∈ks,d<base∨M.next≤d) : PO TP TU base M' v out cs ws:=by
 refine⟨h.own.keep hk (fun d hd hm=>by have:=h.own.blk d hd; have:=hs d hm; omega),fun k hk'=>?_,h.apart,h.off⟩
 obtain⟨a1,a2,a3,a4⟩:=h.row k hk'
 exact⟨a1,a2,a3,a4.keep hk fun d hd hm=>by have:=a4.blk d hd; have:=hs d hm; omega⟩
theorem PO.at (h:PO TP TU base M v out cs ws) {i:Nat} (hi:i<out.length) :
  ∃ b,v=.slc b 0 out.length (.op 3)∧base≤b∧b<M.next∧M.heap b=some (.row cs true TP 0)∧cs.length=out.length * 3∧∀ (kd:IntKind) (K:AV→Prop),ax v (N kd (i:Int)) 3 K=K (.ptr b (3 * i)):=by
 obtain⟨b,h1,h2,h3,h4,h5⟩:=Own.Br h.own (by omega)
 refine⟨b,h1,h2,h3,h4,h5,fun kd K=>?_⟩
 rw[h1,oP]
 simp only[Int.toNat_natCast]
 rw[show 0 + i * 3=3 * i by omega]
 exact propext ⟨fun h=>h.2.2,fun h=>⟨by omega,by omega,h⟩⟩
theorem PO.set (h:PO TP TU base M v out cs ws) {i b u:Nat} {w:AV} {xs:List Nat} {M1 M2:RM} {ks:List Nat} (hi:i<out.length) (hv:v=.slc b 0 out.length (.op 3)) (k1:ag ks M M1) (hks:∀ d∈ks,d∈aD (ws i))
  (hw:Ow aU M1 base TU w xs) (hw2:w=ws i∨∀ d∈aD w,M.next≤d) (hb:M2=M1.put b (.row ((cs.set (3 * i + 1) (N .u64 (u:Int))).set (3 * i + 2) w) true TP 0)) :
  PO TP TU base M2 v (out.set i ((out[i].1.1,u),xs)) ((cs.set (3 * i + 1) (N .u64 (u:Int))).set (3 * i + 2) w) (fun j=>if j=i then w else ws j)∧ag (b :: ks) M M2:=by
 obtain⟨b',e,hb1,hb2,hb3,hb4,_⟩:=h.at hi
 obtain rfl:b=b':=by rw[hv] at e; injection e
 have n1:=k1.next
 have kk:ag [b] M1 M2:=by subst hb; exact(ag.refl _ _).put _ (.inr (by simp))
 have hh:M2.heap b=some (.row ((cs.set (3 * i + 1) (N .u64 (u:Int))).set (3 * i + 2) w) true TP 0):=by subst hb; exact aR _
 have hbv:∀ j,j<out.length→b ∉ aD (ws j):=fun j hj hm=>h.off j hj b hm (by rw[hv]; simp[aD])
 have hbw:b ∉ aD w:=by
  rcases hw2 with rfl | hw2
  ·exact hbv i hi
  ·exact fun hm=>by have:=hw2 b hm; omega
 refine⟨⟨?_,fun j hj=>?_,fun j1 j2 q1 q2 hne d (hd:d∈aD (if j1=i then w else ws j1))=>show d ∉ aD (if j2=i then w else ws j2) from ?_,fun j hj d hd=>?_⟩,(k1.mono (fun d hd=>List.mem_cons_of_mem _ hd)).trans (kk.mono (by simp))⟩
 ·rw[List.length_set,hv]
  exact .op _ _ _ hb1 (Nat.lt_of_lt_of_le hb2 (Nat.le_trans n1 kk.next)) hh (by simp; omega)
 ·have hj' : j<out.length:=by rw[List.length_set] at hj; exact hj
  obtain⟨a1,a2,a3,a4⟩:=h.row j hj'
  by_cases hji:j=i
  ·subst hji
   rw[List.getElem_set_self]
   simp only[if_true]
   refine⟨?_, ?_, ?_,hw.keep kk fun d hd hm=>?_⟩
   ·rw[List.getElem?_set_ne (by omega),List.getElem?_set_ne (by omega)]; exact a1
   ·rw[List.getElem?_set_ne (by omega),List.getElem?_set_self (by omega)]
   ·rw[List.getElem?_set_self (by rw[List.length_set]; omega)]
   ·simp at hm; subst hm; exact hbw hd
  ·rw[List.getElem_set_ne (Ne.symm hji)]
   simp only[if_neg hji]
   refine⟨?_, ?_, ?_,(a4.keep k1 fun d hd hm=>?_).keep kk fun d hd hm=>?_⟩
   ·rw[List.getElem?_set_ne (by omega),List.getElem?_set_ne (by omega)]; exact a1
   ·rw[List.getElem?_set_ne (by omega),List.getElem?_set_ne (by omega)]; exact a2
   ·rw[List.getElem?_set_ne (by omega),List.getElem?_set_ne (by omega)]; exact a3
   ·exact h.apart j i hj' hi hji d hd (hks d hm)
   ·simp at hm; subst hm; exact hbv j hj' hd
 ·rw[List.length_set] at q1 q2
  by_cases e1:j1=i
  ·rw[if_pos e1] at hd
   rw[if_neg (fun e=>hne (e1.trans e.symm))]
   rcases hw2 with rfl | hw2
   ·exact h.apart i j2 hi q2 (fun e=>hne (e1.trans e)) d hd
   ·intro hm
    have:=hw2 d hd
    have:=((h.row j2 q2).2.2.2.blk d hm).2
    omega
  ·rw[if_neg e1] at hd
   by_cases e2:j2=i
   ·rw[if_pos e2]
    rcases hw2 with rfl | hw2
    ·exact h.apart j1 i q1 hi e1 d hd
    ·intro hm
     have:=hw2 d hm
     have:=((h.row j1 q1).2.2.2.blk d hd).2
     omega
   ·rw[if_neg e2]
    exact h.apart j1 j2 q1 q2 hne d hd
 ·rw[List.length_set] at hj
  have hd:d∈aD (if j=i then w else ws j):=hd
  by_cases e1:j=i
  ·rw[if_pos e1] at hd
   intro hm
   rw[hv] at hm
   simp[aD] at hm
   subst hm; exact hbw hd
  ·rw[if_neg e1] at hd
   exact h.off j hj d hd
theorem PO.upto (h:PO TP TU base M v out cs ws) {i b u:Nat} (hi:i<out.length) (hv:v=.slc b 0 out.length (.op 3)) {K:RM→Prop}
  (hK:∀ M' cs',PO TP TU base M' v (out.set i ((out[i].1.1,u),out[i].2)) cs' (fun j=>if j=i then ws i else ws j)→ag [b] M M'→K M') : aL M (.ptr b (3 * i + 1)) (N .u64 (u:Int)) 1 K:=by
 obtain⟨b',e,hb1,hb2,hb3,hb4,_⟩:=h.at hi
 obtain rfl:b=b':=by rw[hv] at e; injection e
 obtain⟨a1,a2,a3,a4⟩:=h.row i hi
 have e2:(cs.set (3 * i + 1) (N .u64 (u:Int))).set (3 * i + 2) (ws i)=cs.set (3 * i + 1) (N .u64 (u:Int)):=NZ (by rw[List.getElem?_set_ne (by omega)]; exact a3)
 rw[fU hb3 (by omega) rfl rfl]
 obtain⟨h1,h2⟩:=h.set (u:=u) (w:=ws i) (xs:=out[i].2) (M1:=M) (ks:=[]) hi hv (ag.refl _ _) (by simp) a4 (.inl rfl) rfl
 rw[e2] at h1 h2
 exact hK _ _ h1 h2
theorem PO.more (h:PO TP TU base M v out cs ws) {i b x:Nat} (hi:i<out.length) (hv:v=.slc b 0 out.length (.op 3)) (hlen:out[i].2.length≤1000000) (hbase:base≤M.next) {K:RM→Prop}
  (hK:∀ M' ks cs' ws',PO TP TU base M' v (out.set i (out[i].1,out[i].2++[x])) cs' ws'→ag ks M M'→(∀ d∈ks,base≤d)→K M') :
  appW TU 1 8 [(N .u64 0)] false (ws i) (.slc M.next 0 1 (.ex 1)) (M.push (.row [N .u64 (x:Int)] false TU 0)) fun t80 rf=>aL rf (.ptr b (3 * i + 2)) t80 1 K:=by
 obtain⟨b',e,hb1,hb2,hb3,hb4,_⟩:=h.at hi
 obtain rfl:b=b':=by rw[hv] at e; injection e
 obtain⟨a1,a2,a3,a4⟩:=h.row i hi
 refine yU (E:=aU) (a:=x) a4 hbase (Nat.le_refl _) (by omega) (by omega) ?_
 intro v' M' o1 k1 n1 hv'
 have hh:M'.heap b=some (.row cs true TP 0):=k1.aN hb3 hb2 (fun hm=>h.off i hi b hm (by rw[hv]; simp[aD]))
 rw[fU hh (by omega) o1.cells o1.one]
 have e2:cs.set (3 * i + 1) (N .u64 (out[i].1.2:Int))=cs:=NZ a2
 obtain⟨h1,h2⟩:=h.set (u:=out[i].1.2) (w:=v') (xs:=out[i].2++[x]) (M1:=M') hi hv k1 (fun d hd=>hd) o1 hv' rfl
 rw[e2] at h1 h2
 refine hK _ _ _ _ h1 h2 fun d hd=>?_
 rcases List.mem_cons.1 hd with rfl | hd
 ·exact hb1
 ·exact(a4.blk d hd).1
theorem PO.app {dv u:Nat} {w:AV} {xs:List Nat} (h:PO TP TU base M v out cs ws) (hk:ag [] M M') (hw:Ow aU M' base TU w xs) (hw2:∀ d∈aD w,M.next≤d) (hbase:base≤M.next) (hlen:out.length≤1000000) {zs:List AV} {K:ak}
  (hK:∀ v' M'' cs' ws',PO TP TU base M'' v' (out++[((dv,u),xs)]) cs' ws'→ag (aD v) M' M''→(∀ d∈aD v,base≤d)→K v' M'') :
  appW TP 3 40 zs false v (.slc M'.next 0 1 (.ex 1)) (M'.push (.row [N .i64 (dv:Int),N .u64 (u:Int),w] false TP 0)) K:=by
 have n1:=hk.next
 have h':=h.keep hk (by simp)
 have hkp:ag [] M' (M'.push (.row [N .i64 (dv:Int),N .u64 (u:Int),w] false TP 0)):=(ag.refl _ _).push _
 have hp:=h'.keep hkp (by simp)
 have hwp:=hw.keep hkp (by simp)
 have hsl:aM (M'.push (.row [N .i64 (dv:Int),N .u64 (u:Int),w] false TP 0)) 3 (.slc M'.next 0 1 (.ex 1)) [N .i64 (dv:Int),N .u64 (u:Int),w] 1 :=
  .slc _ _ _ _ _ (by simp[RM.push]) (by rw[RM.dx (RM.aQ _) (by simp)]; rfl)
 have hall:([N .i64 (dv:Int),N .u64 (u:Int),w] : List AV).all oneCell=true:=by simp[hw.one]; exact⟨rfl,rfl⟩
 refine uz hp.own (by rw[DF]; omega) (by decide) (hsl.nQ _) (by simp) hall (by omega) (by omega) ?_
 intro v' M'' o k n hv'
 have hbl:=hp.own.blk
 rw[DF] at n hv'
 have hcl:cs.length=out.length * 3:=hp.own.fu.length
 have hwv:∀ j,j<out.length→∀ d∈aD w,d ∉ aD (ws j):=fun j hj d hd hm=>by
  have:=hw2 d hd
  have:=((h.row j hj).2.2.2.blk d hm).2
  omega
 refine hK v' M'' (cs++[N .i64 (dv:Int),N .u64 (u:Int),w]) (fun j=>if j=out.length then w else ws j) ⟨?_,fun j hj=>?_,fun j1 j2 q1 q2 hne d (hd:d∈aD (if j1=out.length then w else ws j1))=>show d ∉ aD (if j2=out.length then w else ws j2) from ?_,fun j hj d hd=>?_⟩ ((hkp.mono (by simp)).trans k) (fun d hd=>(hbl d hd).1)
 ·rw[List.length_append]; exact o
 ·by_cases e:j=out.length
  ·subst e
   rw[List.getElem_append_right (Nat.le_refl _)]
   simp only[Nat.sub_self,List.getElem_cons_zero,if_true]
   refine⟨?_, ?_, ?_,hwp.keep k fun d hd hm=>?_⟩
   ·rw[List.getElem?_append_right (by omega),show 3 * out.length - cs.length=0 by omega]; rfl
   ·rw[List.getElem?_append_right (by omega),show 3 * out.length + 1 - cs.length=1 by omega]; rfl
   ·rw[List.getElem?_append_right (by omega),show 3 * out.length + 2 - cs.length=2 by omega]; rfl
   ·have:=hw2 d hd
    have:=(h.own.blk d hm).2
    omega
  ·have hj' : j<out.length:=by rw[List.length_append] at hj; simp at hj; omega
   obtain⟨a1,a2,a3,a4⟩:=hp.row j hj'
   rw[List.getElem_append_left hj']
   simp only[if_neg e]
   refine⟨?_, ?_, ?_,a4.keep k fun d hd hm=>hp.off j hj' d hd hm⟩
   ·rw[List.getElem?_append_left (by omega)]; exact a1
   ·rw[List.getElem?_append_left (by omega)]; exact a2
   ·rw[List.getElem?_append_left (by omega)]; exact a3
 ·rw[List.length_append] at q1 q2
  simp at q1 q2
  by_cases e1:j1=out.length
  ·rw[if_pos e1] at hd
   rw[if_neg (fun e=>hne (e1.trans e.symm))]
   exact hwv j2 (by omega) d hd
  ·rw[if_neg e1] at hd
   by_cases e2:j2=out.length
   ·rw[if_pos e2]
    exact fun hm=>hwv j1 (by omega) d hm hd
   ·rw[if_neg e2]
    exact h.apart j1 j2 (by omega) (by omega) hne d hd
 ·rw[List.length_append] at hj
  simp at hj
  have hd:d∈aD (if j=out.length then w else ws j):=hd
  by_cases e1:j=out.length
  ·rw[if_pos e1] at hd
   rcases hv' with rfl | hv'
   ·intro hm
    have:=hw2 d hd
    have:=(h.own.blk d hm).2
    omega
   ·intro hm
    have:=hv' d hm
    have:=(hw.blk d hd).2
    omega
  ·rw[if_neg e1] at hd
   rcases hv' with rfl | hv'
   ·exact h.off j (by omega) d hd
   ·intro hm
    have:=hv' d hm
    have:=((h'.row j (by omega)).2.2.2.blk d hd).2
    omega
end
def amq (T TP TU:Nat) (c:au) : Prop:=∀ {M:RM} {b:Nat} {ps:List Pt} {S:Nat→Prop} {Q:ak},iA T S M b ps→(∀ p∈ps,p.2.length≤1000000) →
 (∀ v M' cs ws,PO TP TU M.next M' v (parts ps) cs ws→ag [] M M'→Q v M')→c [.ptr b 0] M Q
def vU (l:List aC) (i:Nat) (o:List eQ) : List eQ:=if i=0∨(l.getD i (0,0)).1≠(l.getD (i - 1) (0,0)).1 then o++[(((l.getD i (0,0)).1.toNat,0),[])] else o
def bump (p:eQ) (n:Nat) : eQ:=if p.2=[]∧n=p.1.2 + 1 then((p.1.1,n),[]) else(p.1,p.2++[n])
def Dk (o:List eQ) (n:Nat) : List eQ:=o.set (o.length - 1) (bump (o.getD (o.length - 1) ((0,0),[])) n)
def ik (l:List aC) : Nat→List eQ
 | 0=>[]
 | i + 1=>Dk (vU l i (ik l i)) (l.getD i (0,0)).2
def gQ (l:List aC) : List eQ:=ik l l.length
def Ve (i:Nat) (p:eQ) : Prop:=p.1.1<16∧p.1.2≤1099511627776∧p.2.length≤i∧∀ x∈p.2,x≤1099511627776
theorem NQ (l:List aC) (i:Nat) (o:List eQ) : o.length≤(vU l i o).length∧(vU l i o).length≤o.length + 1:=by
 unfold vU; split <;> simp
theorem uP (l:List aC) : ∀ i,(ik l i).length≤i∧(0<i→0<(ik l i).length)
 | 0=>⟨Nat.le_refl _,fun h=>absurd h (by omega)⟩
 | i + 1=>by
   have h1:=uP l i
   have h2:=NQ l i (ik l i)
   rw[ik,Dk,List.length_set]
   refine⟨by omega,fun _=>?_⟩
   by_cases h:i=0
   ·subst h; simp[vU]
   ·omega
theorem XW (l:List aC) (i:Nat) : 0<(vU l i (ik l i)).length:=by
 have h1:=uP l i
 have h2:=NQ l i (ik l i)
 by_cases h:i=0
 ·subst h; simp[vU]
 ·omega
theorem q8 {α:Type} {l:List α} {i:Nat} {d:α} (h:i<l.length) : l.getD i d=l[i]:=by
 rw[List.getD_eq_getElem?_getD,List.getElem?_eq_getElem h]; rfl
theorem vS {d:aC} (h:good d=true) : 0≤d.1∧d.1<16∧d.2≤1099511627776∧1≤d.2:=by
 simp only[good,Bool.and_eq_true,decide_eq_true_eq] at h
 omega
theorem alg {i n:Nat} {p:eQ} (h:Ve i p) (hn:n≤1099511627776) : Ve (i + 1) (bump p n):=by
 obtain⟨h1,h2,h3,h4⟩:=h
 unfold bump
 split
 ·exact⟨h1,hn,by simp,by simp⟩
 ·refine⟨h1,h2,by simp; omega,fun x hx=>?_⟩
  rcases List.mem_append.1 hx with hx | hx
  ·exact h4 x hx
  ·simp at hx; omega
theorem aaN {l:List aC} {i:Nat} {o:List eQ} (hi:i<l.length) (hg:∀ d∈l,good d=true) (h:∀ p∈o,Ve i p) : ∀ p∈vU l i o,Ve i p:=by
 intro p hp
 have hd:=vS (hg _ (List.getElem_mem hi))
 unfold vU at hp
 split at hp
 ·rcases List.mem_append.1 hp with hp | hp
  ·exact h p hp
  ·simp only[List.mem_singleton] at hp
   subst hp
   rw[q8 hi]
   exact⟨by show l[i].1.toNat<16; omega,Nat.zero_le _,Nat.zero_le _,by simp⟩
 ·exact h p hp
theorem xe {l:List aC} (hg:∀ d∈l,good d=true) : ∀ i,i≤l.length→∀ p∈ik l i,Ve i p
 | 0,_,p,hp=>by simp[ik] at hp
 | i + 1,hi,p,hp=>by
   have h1:=aaN (by omega) hg (xe hg i (by omega))
   have hpos:=XW l i
   rw[ik,Dk] at hp
   rcases List.mem_or_eq_of_mem_set hp with hp | rfl
   ·obtain⟨q1,q2,q3,q4⟩:=h1 p hp
    exact⟨q1,q2,by omega,q4⟩
   ·have hd:=vS (hg _ (List.getElem_mem (show i<l.length by omega)))
    refine alg (h1 _ ?_) (by rw[q8 (by omega)]; omega)
    rw[q8 (by omega)]
    exact List.getElem_mem _
theorem agy {x a b c:AV} (h1:known x=true) (h2:x.cells=[x]) : sZ [a,b,c] [(0,1,x)]=some [x,b,c]:=by
 simp[sZ,h1,h2]
def Ei (TP TU:Nat) (c:au) : Prop:=∀ {M:RM} {v:AV} {l:List aC} {Q:ak},Sl dM M v l→(∀ d∈l,good d=true)→l.length≤100000 →
 (∀ w M' cs ws,PO TP TU M.next M' w (gQ l) cs ws→ag [] M M'→Q w M')→c [v] M Q
theorem Vt {TP TU:Nat} : Ei TP TU fun args M Q=>∃ a0,args=[a0]∧SX TP TU a0 M Q:=by
 intro M v l Q hs hg hl hQ
 refine⟨_,rfl, ?_⟩
 unfold SX
 simp only[gT,gU,fG,dG]
 refine⟨_,_,_,_,rfl,rfl,by decide,by decide,by decide,by decide, ?_⟩
 dsimp only
 rw[bn]
 have kM:ag [] M (M.push (.row (bW [(N .i64 0),(N .u64 0),(.sc (.slice none 0 0))] 0) false TP 0)):=(ag.refl _ _).push _
 have oM:Own (M.push (.row (bW [(N .i64 0),(N .u64 0),(.sc (.slice none 0 0))] 0) false TP 0)) M.next TP 3 (.slc M.next 0 0 (.ex 0)) [] 0:=Own.lit M (Nat.le_refl _)
 refine aK (fun m ys M3=>∃ (i:Nat) (w:AV),m=l.length - i∧ys=[w,N .i64 (i:Int)]∧i≤l.length∧ag [] M M3∧∃ cs ws,PO TP TU M.next M3 w (ik l i) cs ws) _
  ⟨0,_,rfl,rfl,Nat.zero_le _,kM,_,_,PO.empty oM⟩ ?_
 rintro next m ys M3 hnext ⟨i,w,rfl,rfl,hi,hK,cs,ws,ho⟩
 dsimp only[aa]
 have s3:Sl dM M3 v l:=aM.keep hs hK (by simp)
 rw[aM.len s3,bN]
 refine aH (fun hlt=>?_) (fun hge=>?_)
 ·have hlt:i<l.length:=by
   have:(i:Int)<(l.length:Int):=of_decide_eq_true hlt
   omega
  refine bT (fun zs M'=>∃ w,zs=[w]∧ag [] M M'∧∃ cs ws,PO TP TU M.next M' w (ik l (i + 1)) cs ws) ?_ ?_
  ·rintro zs M' ⟨w,rfl,hk',ho'⟩
   dsimp only[aa]
   rw[bG,dK (by omega)]
   exact hnext _ _ _ (by omega) ⟨i + 1,w,rfl,rfl,by omega,hk',ho'⟩
  intro J hJ
  have hDi:l.getD i (0,0)=l[i]:=q8 hlt
  have hgi:=vS (hg _ (List.getElem_mem hlt))
  have aku:=uP l i
  have hnewL:=NQ l i (ik l i)
  have hnewP:=XW l i
  refine bT (fun zs M'=>∃ w,zs=[w]∧ag [] M M'∧∃ cs ws,PO TP TU M.next M' w (vU l i (ik l i)) cs ws) ?_ ?_
  ·rintro zs M4 ⟨w4,rfl,k4,cs4,ws4,o4⟩
   dsimp only[aa]
   have hbd:=aaN hlt hg (xe hg i (by omega))
   have hup:ik l (i + 1)=Dk (vU l i (ik l i)) l[i].2:=by rw[ik,hDi]
   generalize vU l i (ik l i)=o at *
   have n4:=k4.next
   have s4:Sl dM M4 v l:=aM.keep hs k4 (by simp)
   have hk:o.length - 1<o.length:=by omega
   obtain⟨b,hv,hb1,hb2,hb3,hb4,hidx⟩:=o4.at hk
   obtain⟨a1,a2,a3,a4⟩:=o4.row _ hk
   have hp:=hbd _ (List.getElem_mem hk)
   have hgD:o.getD (o.length - 1) ((0,0),[])=o[o.length - 1]:=q8 hk
   rw[Dk,hgD] at hup
   rw[aM.len o4.own.fu,iQ,bE (by omega) (by omega),show(o.length:Int) - 1=((o.length - 1:Nat) : Int) by omega,hidx,aG,aF,aj hb3 a3,aM.len a4.fu,bU]
   obtain⟨b2,o2,_,_,iq,qL⟩:=Sl.at (i:=i) s4 2 (i:Int) hlt
   have more:bump o[o.length - 1] l[i].2=(o[o.length - 1].1,o[o.length - 1].2++[l[i].2])→aZ (.ptr b (3 * (o.length - 1))) fun t71=>aA t71 2 fun t72=>ai M4 t72 fun t73=>ax v (N .i64 (i:Int)) 2 fun t76=>aA t76 1 fun t77=>ai M4 t77 fun t78 =>
     dH TU 1 [(N .u64 0)] [(0,1,t78)] fun ai8 ahi=>mI ai8 ahi M4 fun t79 qM aq0=>appW TU 1 8 [(N .u64 0)] false t73 t79 qM fun t80 rf=>aZ (.ptr b (3 * (o.length - 1))) fun t81=>aA t81 2 fun t82=>aL rf t82 t80 1 fun vR=>J [w4] vR:=fun e=>by
    rw[aG,aF,aj hb3 a3,iq,aF,lD (kw qL rfl),lv (x:=N .u64 (l[i].2:Int)) (size:=1) rfl rfl rfl,ku]
    simp only[aG,aF]
    refine o4.more hk hv (by have:=hp.2.2.1; omega) (by omega) fun M5 ks cs5 ws5 o5 k5 hks=>?_
    refine hJ _ _ ⟨w4,rfl,k4.aY k5 fun c hc=>.inl (hks c hc),cs5,ws5, ?_⟩
    rw[hup,e]; exact o5
   by_cases hm:o[o.length - 1].2=[]
   ·rw[show(((o[o.length - 1].2.length:Nat) : Int) == 0)=true by rw[hm]; rfl,ic]
    dsimp only
    rw[iq,aF,lD (kw qL rfl),aG,aF,aj hb3 a2,bG,dB (by omega) (by have:=hp.2.1; omega),bU,bO]
    refine aH (fun he=>?_) (fun he=>?_)
    ·have he:l[i].2=o[o.length - 1].1.2 + 1:=by
      have:=eq_of_beq he
      omega
     rw[aG,aF,aj hb3 a2,bG,dB (by omega) (by have:=hp.2.1; omega),aG,aF,show(o[o.length - 1].1.2:Int) + 1=((l[i].2:Nat) : Int) by omega]
     refine o4.upto hk hv fun M5 cs5 o5 k5=>?_
     refine hJ _ _ ⟨w4,rfl,k4.aY k5 fun c hc=>.inl (by simp at hc; omega),cs5,(fun j=>if j=o.length - 1 then ws4 (o.length - 1) else ws4 j), ?_⟩
     rw[hup,bump,if_pos ⟨hm,he⟩]
     rw[hm] at o5; exact o5
    ·have he:¬ l[i].2=o[o.length - 1].1.2 + 1:=fun e=>by
      rw[beq_eq_false_iff_ne] at he
      omega
     exact more (by rw[bump,if_neg fun h=>he h.2])
   ·have:o[o.length - 1].2.length≠0:=fun h=>hm (List.length_eq_zero_iff.1 h)
    rw[show(((o[o.length - 1].2.length:Nat) : Int) == 0)=false by rw[beq_eq_false_iff_ne]; omega,iH]
    dsimp only
    rw[bz,bI]
    exact more (by rw[bump,if_neg fun h=>hm h.1])
  intro J1 hJ1
  have s3:Sl dM M3 v l:=aM.keep hs hK (by simp)
  have n3:=hK.next
  obtain⟨b2,o2,_,_,iq,qL⟩:=Sl.at (i:=i) s3 2 (i:Int) hlt
  have mk:(i=0∨l[i].1≠(l.getD (i - 1) (0,0)).1)→ax v (N .i64 (i:Int)) 2 fun t32=>aA t32 0 fun t33=>ai M3 t33 fun t34=>lX [(N .i64 0),(N .u64 0),(.sc (.slice none 0 0))] [(0,1,t34)] fun t35 =>
    dH TP 1 [(N .i64 0),(N .u64 0),(.sc (.slice none 0 0))] [(0,3,t35)] fun ahR af9=>df ahR af9 M3 fun t36 gN=>appW TP 3 40 [(N .i64 0),(N .u64 0),(.sc (.slice none 0 0))] false w t36 gN fun t37 jU=>J1 [t37] jU:=fun hy=>by
   rw[iq,aF,lD (kw qL rfl),jI]
   refine⟨_,agy rfl rfl, ?_⟩
   rw[lv (x:=.agg [N .i64 l[i].1,N .u64 0,.sc (.slice none 0 0)]) (size:=3) rfl rfl rfl,bn]
   have e:l[i].1=((l[i].1.toNat:Nat) : Int):=by omega
   have:=ho.app (dv:=l[i].1.toNat) (u:=0) (xs:=[]) (w:=dV) (ag.refl [] _) .nil (fun d hd=>by simp[aD] at hd) (by omega) (by omega) (zs:=[(N .i64 0),(N .u64 0),(.sc (.slice none 0 0))]) (K:=fun t37 jU=>J1 [t37] jU) ?_
   ·rw[← e] at this; exact this
   intro v' M'' cs' ws' o' k' hd'
   refine hJ1 _ _ ⟨v',rfl,hK.aY k' fun c hc=>.inl (hd' c hc),cs',ws', ?_⟩
   rw[vU,hDi,if_pos hy]; exact o'
  rw[bU]
  by_cases h0:i=0
  ·subst h0
   rw[show((((0:Nat) : Int)) == 0)=true from rfl,DR]
   dsimp only
   rw[bO,dC]
   exact mk (.inl rfl)
  ·rw[show((i:Int) == 0)=false by rw[beq_eq_false_iff_ne]; omega,eB]
   dsimp only
   obtain⟨b3,o3,_,_,wX,azv⟩:=Sl.at (i:=i - 1) s3 2 ((i - 1:Nat) : Int) (by omega)
   rw[iq,aF,lD (kw qL rfl),iQ,bE (by omega) (by omega),show(i:Int) - 1=((i - 1:Nat) : Int) by omega,wX,aF,lD (kw azv rfl),dY,bz]
   have hD1:l.getD (i - 1) (0,0)=l[i - 1]:=q8 (by omega)
   refine aH (fun he=>mk (.inr ?_)) (fun he=>?_)
   ·rw[hD1]
    intro e
    rw[e] at he
    simp at he
   ·have he:l[i].1=l[i - 1].1:=by simpa using he
    refine hJ1 _ _ ⟨w,rfl,hK,cs,ws, ?_⟩
    rw[vU,hDi,hD1,if_neg (by rintro(h | h); exact h0 h; exact h he)]
    exact ho
 ·have he:i=l.length:=by
   have:¬ (i:Int)<(l.length:Int):=of_decide_eq_false hge
   omega
  subst he
  exact hQ w M3 cs ws ho hK
def xE (T:Nat) (c:au) : Prop:=∀ {M:RM} {v:AV} {l:List aC} {Q:ak},Sl dM M v l→(∀ d∈l,good d=true)→l.length≤5000 →
 (∀ w M',qp T M' M.next w (wQ (gQ l))→ag [] M M'→Q w M')→c [v] M Q
def Hq (T:Nat) (c:au) : Prop:=∀ v,v<2 ^ 64→Iy T v c
theorem qZ {T x:Nat} {c:au} (hc:Hq T c) {M0 M:RM} {b:AV} {L:List UInt8} {zs:List AV} {K:ak} (k0:ag [] M0 M) (h:qp T M M0.next b L) (hx:x<2 ^ 64) (hl:L.length≤900000000)
  (hK:∀ v' M',qp T M' M0.next v' (L++bi x)→ag [] M0 M'→ag [] M M'∨True→K v' M') : c [N .u64 (x:Int)] M fun t M'=>appW T 1 1 zs false b t M' K:=by
 refine hc x hx fun r M1 h1 k1=>?_
 have n0:=k0.next
 have n1:=k1.next
 have u10:=dJ hx
 refine(h.keep k1).app (by omega) h1.sl (by omega) fun v' M2 h2 k2 hb=>?_
 exact hK v' M2 h2 ((k0.trans k1).aY k2 fun d hd=>.inl (hb d hd)) (.inr trivial)
theorem Wd {o:List eQ} {k:Nat} (h:∀ p∈o,(iB p).length≤k) : (o.flatMap iB).length≤o.length * k:=by
 induction o with
 | nil=>simp
 | cons p o ih =>
   rw[List.flatMap_cons,List.length_append,List.length_cons,Nat.succ_mul]
   have h1:=h p (by simp)
   have h2:=ih fun q hq=>h q (by simp[hq])
   omega
theorem Uw {n:Nat} {p:eQ} (hn:n≤5000) (h:Ve n p) : (iB p).length≤30 + 10 * n:=by
 obtain⟨h1,h2,h3,h4⟩:=h
 simp only[iB,List.length_append]
 have a1:=dJ (v:=p.1.1) (by omega)
 have a2:=dJ (v:=p.1.2) (by omega)
 have a3:=zt p.2 p.1.2
 have a4:=dJ (v:=p.2.length) (by omega)
 omega
theorem TJ {TP TU T:Nat} {cp cu:au} (hp:Ei TP TU cp) (hu:Hq T cu) : xE T fun args M Q=>∃ a0,args=[a0]∧N8 cp cu T a0 M Q:=by
 intro M v l Q hs hg hl hQ
 refine⟨_,rfl, ?_⟩
 unfold N8
 refine hp hs hg (by omega) fun w M1 cs ws ho k1=>?_
 have aku:=(uP l l.length).1
 have agS:=xe hg l.length (Nat.le_refl _)
 unfold wQ at hQ
 change (gQ l).length≤l.length at aku
 change ∀ p∈gQ l,Ve l.length p at agS
 generalize gQ l=ls at *
 have n1:=k1.next
 rw[aM.len ho.own.fu,gz,dB (by omega) (by omega)]
 refine hu _ (by omega) fun r0 M2 h2 k2=>?_
 have u10:=dJ (v:=ls.length) (by omega)
 refine aK (fun m ys M3=>∃ (i:Nat) (v:AV),m=ls.length - i∧ys=[v,N .i64 (i:Int)]∧i≤ls.length∧ag [] M1 M3∧qp T M3 M1.next v (bi ls.length++(ls.take i).flatMap iB)) _
  ⟨0,r0,rfl,rfl,Nat.zero_le _,k2,by simpa using h2⟩ ?_
 rintro next m ys M3 hnext ⟨i,w3,rfl,rfl,hi,hK,ho3⟩
 dsimp only[aa]
 have av5:∀ K:AV→Prop,bD w K=K (N .i64 (ls.length:Int)):=fun K=>aM.len ho.own.fu
 rw[av5,bN]
 refine aH (fun hlt=>?_) (fun hge=>?_)
 ·have hlt:i<ls.length:=by simpa using hlt
  obtain⟨b,hv,hb1,hb2,hb3,hb4,hidx⟩:=ho.at hlt
  obtain⟨a1,a2,a3,a4⟩:=ho.row _ hlt
  obtain⟨hdv,hub,hxl,hxb⟩:=agS _ (List.getElem_mem hlt)
  have hL:(bi ls.length++(ls.take (i + 1)).flatMap iB)=(bi ls.length++(ls.take i).flatMap iB)++iB ls[i]:=by
   rw[List.take_succ_eq_append_getElem hlt,List.flatMap_append,List.append_assoc]; simp
  have hLl:(bi ls.length++(ls.take i).flatMap iB).length≤10 + 5000 * 50030:=by
   rw[List.length_append]
   have:=Wd (o:=ls.take i) (k:=50030) fun p hp=>by
    have:=Uw hl (agS p (List.mem_of_mem_take hp))
    omega
   have e:(ls.take i).length≤5000:=by rw[List.length_take]; omega
   have:=Nat.mul_le_mul_right 50030 e
   omega
  have hstep:∀ w M',ag [] M1 M'→qp T M' M1.next w ((bi ls.length++(ls.take i).flatMap iB)++iB ls[i])→next [w,N .i64 ((i + 1:Nat) : Int)] M':=fun w M' k o =>
   hnext _ _ _ (by omega) ⟨i + 1,w,rfl,rfl,by omega,k,by rw[hL]; exact o⟩
  generalize bi ls.length++(ls.take i).flatMap iB=L at *
  generalize ls[i]=pt at *
  obtain⟨⟨dv,u⟩,xs⟩:=pt
  simp only at hdv hub hxl hxb a1 a2 a4
  have hat:∀ {M' : RM},ag [] M1 M'→M'.heap b=some (.row cs true TP 0):=fun k=>k.aN hb3 hb2 (by simp)
  rw[hidx,aF,aj (i:=3 * i + 0) (hat hK) a1,gz,dB (by omega) (by omega)]
  refine qZ hu hK ho3 (by omega) (by omega) fun w4 M4 ho4 k4 _=>?_
  have e4:=dJ (v:=dv) (by omega)
  rw[hidx,aF,aj (hat k4) a2]
  refine qZ hu k4 ho4 (by omega) (by simp; omega) fun w5 M5 ho5 k5 _=>?_
  have e5:=dJ (v:=u) (by omega)
  rw[hidx,aF,aj (hat k5) a3,aM.len a4.fu,gz,dB (by omega) (by omega)]
  refine qZ hu k5 ho5 (by omega) (by simp only[List.length_append]; omega) fun w6 M6 ho6 k6 _=>?_
  have e6:=dJ (v:=xs.length) (by omega)
  have abG:L++iB ((dv,u),xs)=L++bi dv++bi u++bi xs.length++kQ u xs:=by simp only[iB,List.append_assoc]
  rw[abG] at hstep
  have hL7:(L++bi dv++bi u++bi xs.length).length≤10 + 5000 * 50030 + 30:=by simp only[List.length_append]; omega
  generalize L++bi dv++bi u++bi xs.length=L7 at *
  rw[hidx,aF,aj (hat k6) a2]
  refine aK (fun m ys M8=>∃ (j q:Nat) (w:AV),m=xs.length - j∧ys=[w,N .u64 (q:Int),N .i64 (j:Int)]∧j≤xs.length∧(u :: xs)[j]?=some q∧ag [] M1 M8∧qp T M8 M1.next w (L7++kQ u (xs.take j))) _
   ⟨0,u,w6,rfl,rfl,Nat.zero_le _,rfl,k6,by simpa [kQ] using ho6⟩ ?_
  rintro jv m ys M8 dQ ⟨j,q,w8,rfl,rfl,hj,hq,hK8,ho8⟩
  dsimp only[aa]
  rw[hidx,aF,aj (hat hK8) a3,aM.len a4.fu,bN]
  refine aH (fun hlt2=>?_) (fun pg=>?_)
  ·have hlt2:j<xs.length:=by simpa using hlt2
   have s8:Sl aU M8 (ws i) xs:=aM.keep a4.fu hK8 (by simp)
   obtain⟨b2,o2,hbn,_,iq,hc2⟩:=Sl.uB (E:=aU) s8 (j:Int) hlt2
   have hxj:=hxb _ (List.getElem_mem hlt2)
   have hqb:q<2 ^ 64:=by
    have:=List.mem_of_getElem? hq
    rcases List.mem_cons.1 this with rfl | h
    ·omega
    ·have:=hxb _ h; omega
   rw[hidx,aF,aj (hat hK8) a3,iq,lD (hc2 _ rfl),iQ,aaM (by omega)]
   have hg10:=zt (xs.take j) u
   have htl:(xs.take j).length≤5000:=by rw[List.length_take]; omega
   refine qZ hu hK8 ho8 (NI _ _) (by rw[List.length_append]; omega) fun w9 M9 ho9 k9 _=>?_
   have s9:Sl aU M9 (ws i) xs:=aM.keep a4.fu k9 (by simp)
   obtain⟨b3,o3,_,_,wX,hc3⟩:=Sl.uB (E:=aU) s9 (j:Int) hlt2
   rw[hidx,aF,aj (hat k9) a3,wX,lD (hc3 _ rfl),bG,dK (by omega)]
   refine dQ _ _ _ (by omega) ⟨j + 1,xs[j],w9,rfl,rfl,by omega,by rw[List.getElem?_cons_succ,List.getElem?_eq_getElem hlt2],k9, ?_⟩
   rw[JA hlt2 hq,← List.append_assoc]; exact ho9
  ·have he:j=xs.length:=by simp at pg; omega
   subst he
   rw[List.take_length] at ho8
   rw[bG,dK (by omega)]
   exact hstep _ _ hK8 ho8
 ·have he:i=ls.length:=by simp at hge; omega
  subst he
  rw[List.take_length] at ho3
  refine hQ w3 M3 ?_ (k1.trans hK)
  rcases ho3 with h | ⟨b,rfl,h1,h2,h3⟩
  ·exact .inl (h.mono n1)
  ·exact .inr ⟨b,rfl,by omega,h2,h3⟩
theorem qA {f g:Prop→Prop} {k:Prop} : uO (Bo false) false f g k=f k:=rfl
section
variable {TP TU base:Nat} {M:RM} {v:AV} {out:List eQ} {cs:List AV} {ws:Nat→AV}
theorem PO.write (h:PO TP TU base M v out cs ws) {i k x:Nat} (hi:i<out.length) (hk:k<out[i].2.length) :
  ∃ b,b∈aD (ws i)∧(∀ (kd:IntKind) (K:AV→Prop),ax (ws i) (N kd (k:Int)) 1 K=K (.ptr b k))∧∀ K:RM→Prop,
    (∀ M',PO TP TU base M' v (out.set i (out[i].1,out[i].2.set k x)) cs ws→ag [b] M M'→K M')→aL M (.ptr b k) (N .u64 (x:Int)) 1 K:=by
 obtain⟨a1,a2,a3,a4⟩:=h.row i hi
 obtain⟨b,e,h1,h2,h3,h4⟩:=Own.Br a4 (by omega)
 refine⟨b,by rw[e]; simp[aD],fun kd K=>?_,fun K hK=>?_⟩
 ·rw[e,oP]
  simp only[Int.toNat_natCast]
  rw[show 0 + k * 1=k by omega]
  exact propext ⟨fun h=>h.2.2,fun h=>⟨by omega,by omega,h⟩⟩
 have hrl:(aU.row out[i].2).length=out[i].2.length:=by rw[Enc.fo]; simp[aU]
 rw[fU h3 (by omega) rfl rfl]
 have hrow:(aU.row out[i].2).set k (N .u64 (x:Int))=aU.row (out[i].2.set k x):=by rw[FN,FN,List.map_set]
 have kk:ag [b] M (M.put b (.row ((aU.row out[i].2).set k (N .u64 (x:Int))) true TU 0)):=(ag.refl _ _).put _ (.inr (by simp))
 have hh:(M.put b (.row ((aU.row out[i].2).set k (N .u64 (x:Int))) true TU 0)).heap b=some (.row (aU.row (out[i].2.set k x)) true TU 0):=by rw[aR,hrow]
 have hbw:b∈aD (ws i):=by rw[e]; simp[aD]
 refine hK _ ⟨?_,fun j hj=>?_, ?_, ?_⟩ kk
 ·rw[List.length_set]
  exact h.own.keep kk fun d hd hm=>by simp at hm; subst hm; exact h.off i hi _ hbw hd
 ·have hj' : j<out.length:=by rw[List.length_set] at hj; exact hj
  obtain⟨c1,c2,c3,c4⟩:=h.row j hj'
  by_cases hji:j=i
  ·subst hji
   rw[List.getElem_set_self]
   refine⟨c1,c2,c3, ?_⟩
   rw[e]
   show Own _ base TU 1 _ (aU.row (out[j].2.set k x)) (out[j].2.set k x).length
   rw[List.length_set]
   exact .op _ _ _ h1 h2 hh (by rw[Enc.fo,List.length_set]; rfl)
  ·rw[List.getElem_set_ne (Ne.symm hji)]
   exact⟨c1,c2,c3,c4.keep kk fun d hd hm=>by simp at hm; subst hm; exact h.apart i j hi hj' (Ne.symm hji) _ hbw hd⟩
 ·rw[List.length_set]; exact h.apart
 ·rw[List.length_set]; exact h.off
end
def IsC (TS:Nat) (c:au) : Prop:=∀ {M:RM} {b:Nat} {ps:List Pt} {S:Nat→Prop} {v:AV} {l:List aC} {Q:ak},iA TS S M b ps→(∀ p∈ps,jP p)→Sl dM M v l→(∀ d∈l,good d=true)→l.length≤5000→parts ps=gQ l →
 (∀ M',ag [] M M'→Q (Bo true) M')→c [.ptr b 0,v] M Q
theorem aaQ {TS TP TQ TU T:Nat} {cp cq ce cf:au} (hp:amq TS TP TU cp) (hq:Ei TQ TU cq) (he:Bb TS T ce) (hf:xE T cf) :
  IsC TS fun args M Q=>∃ a0 a1,args=[a0,a1]∧atd cp cq ce cf a0 a1 M Q:=by
 intro M b ps S v l Q hset hwf hs hg hl heq hQ
 refine⟨_,_,rfl, ?_⟩
 unfold atd
 refine hp hset (fun p hp=>by have:=(hwf p hp).2.2.2.2; omega) fun vp M1 cs ws op k1=>?_
 have n1:=k1.next
 refine hq (aM.keep hs k1 (by simp)) hg (by omega) fun vq M2 cq wq oq k2=>?_
 have n2:=k2.next
 have henc:encS ps=wQ (gQ l):=by rw[encS,heq]
 have hbd:=xe hg l.length (Nat.le_refl _)
 change ∀ p∈gQ l,Ve l.length p at hbd
 rw[heq] at op
 have hlen:=(uP l l.length).1
 change (gQ l).length≤l.length at hlen
 have ar8:∀ K:AV→Prop,bD vp K=K (N .i64 ((gQ l).length:Int)):=fun K=>aM.len op.own.fu
 have azj:∀ K:AV→Prop,bD vq K=K (N .i64 ((gQ l).length:Int)):=fun K=>aM.len oq.own.fu
 rw[ar8,azj,dY,show(((gQ l).length:Int) != (gQ l).length)=false by simp]
 simp only[eB,aT,qA,bz]
 have awy:=(hset.below.keep k1 (by simp) (by simp)).keep k2 (by simp) (by simp)
 refine he awy (fun p hp=>(hwf p hp).bd) fun r M3 o3 _ k3=>?_
 have n3:=k3.next
 have s3:Sl BY M3 r (encS ps):=Own.sl o3
 rw[Sl.str s3]
 have hs3:Sl dM M3 v l:=aM.keep hs ((k1.trans k2).trans k3) (by simp)
 refine hf hs3 hg hl fun r4 M4 o4 k4=>?_
 rw[Sl.str (aM.keep s3 k4 (by simp)),Sl.str o4.sl]
 refine⟨rfl, ?_⟩
 rw[henc,nG,show(wQ (gQ l) != wQ (gQ l))=false by simp,bI]
 have n4:=k4.next
 have k24:=k3.trans k4
 have ayY:∀ i,i<(gQ l).length→∀ d∈aD (ws i),M.next≤d∧d<M1.next:=fun i hi d hd=>(op.row i hi).2.2.2.blk d hd
 have op4:=op.keep (k2.trans k24) (by simp)
 have oq4:=oq.keep k24 (by simp)
 have k04:ag [] M M4:=(k1.trans k2).trans k24
 have n04:=k04.next
 generalize gQ l=ls at *
 refine aK (fun m ys M5=>∃ (i:Nat) (out:List eQ),m=ls.length - i∧ys=[N .i64 (i:Int)]∧i≤ls.length∧ag [] M M5∧M1.next≤M5.next∧out.length=ls.length∧(∀ j,i≤j→out[j]?=ls[j]?)∧PO TP TU M.next M5 vp out cs ws∧PO TQ TU M1.next M5 vq ls cq wq) _
  ⟨0,ls,rfl,rfl,Nat.zero_le _,k04,by omega,rfl,fun _ _=>rfl,op4,oq4⟩ ?_
 rintro next m ys M5 hnext ⟨i,out,rfl,rfl,hi,k5,n5,hol,hoe,op5,oq5⟩
 dsimp only[aa]
 rw[ar8,bN]
 refine aH (fun hlt=>?_) (fun hge=>?_)
 ·have hlt:i<ls.length:=by simpa using hlt
  have ab8:i<out.length:=by omega
  obtain⟨hdv,hub,hxl,hxb⟩:=hbd _ (List.getElem_mem hlt)
  have hoi:out[i]=ls[i]:=by
   have:=hoe i (Nat.le_refl _)
   rw[List.getElem?_eq_getElem ab8,List.getElem?_eq_getElem hlt] at this
   exact Option.some.inj this
  obtain⟨b1,hv1,_,hb12,X9,_,nL⟩:=op5.at ab8
  obtain⟨b2,hv2,hb21,hb22,aiK,_,iq⟩:=oq5.at hlt
  obtain⟨p1,p2,p3,p4⟩:=op5.row i ab8
  obtain⟨q1,q2,q3,q4⟩:=oq5.row i hlt
  rw[hoi] at p1 p2
  have hl1:out[i].2.length=ls[i].2.length:=by rw[hoi]
  rw[nL,aF,aj (i:=3 * i + 0) X9 p1,iq,aF,aj (i:=3 * i + 0) aiK q1,dY,show((ls[i].1.1:Int) != ls[i].1.1)=false by simp]
  simp only[eB,aT,qA,bz]
  rw[nL,aF,aj X9 p2,iq,aF,aj aiK q2,dY,show((ls[i].1.2:Int) != ls[i].1.2)=false by simp]
  simp only[eB,aT,qA,bz]
  rw[nL,aF,aj X9 p3,aM.len p4.fu,iq,aF,aj aiK q3,aM.len q4.fu,hl1,dY,show((ls[i].2.length:Int) != ls[i].2.length)=false by simp,bI]
  have hstep:∀ M6 out',ag [] M M6→M1.next≤M6.next→out'.length=ls.length→(∀ j,i<j→out'[j]?=ls[j]?)→PO TP TU M.next M6 vp out' cs ws→PO TQ TU M1.next M6 vq ls cq wq→next [N .i64 ((i + 1:Nat) : Int)] M6:=fun M6 out' a b c d e f =>
   hnext _ _ _ (by omega) ⟨i + 1,out',rfl,rfl,by omega,a,b,c,fun j hj=>d j (by omega),e,f⟩
  refine aK (fun m ys M6=>∃ (k:Nat) (out' : List eQ) (xs' : List Nat),m=ls[i].2.length - k∧ys=[N .i64 (k:Int)]∧k≤ls[i].2.length∧ag [] M M6∧M1.next≤M6.next∧out'.length=ls.length∧(∀ j,i<j→out'[j]?=ls[j]?)∧out'[i]?=some (ls[i].1,xs')∧xs'.length=ls[i].2.length∧(∀ j,k≤j→xs'[j]?=ls[i].2[j]?) ∧
    PO TP TU M.next M6 vp out' cs ws∧PO TQ TU M1.next M6 vq ls cq wq) _
   ⟨0,out,ls[i].2,rfl,rfl,Nat.zero_le _,k5,n5,hol,fun j hj=>hoe j (by omega),by rw[List.getElem?_eq_getElem ab8,hoi],rfl,fun _ _=>rfl,op5,oq5⟩ ?_
  rintro jv m ys M6 dQ ⟨k,out',xs',rfl,rfl,hk,k6,n6,aru,aqx,asU,apm,ar0,op6,oq6⟩
  dsimp only[aa]
  have Yi:i<out'.length:=by omega
  have abu:out'[i]=(ls[i].1,xs'):=by
   rw[List.getElem?_eq_getElem Yi] at asU
   exact Option.some.inj asU
  obtain⟨b3,hv3,_,hb32,aib,_,wX⟩:=op6.at Yi
  obtain⟨b4,hv4,hb41,hb42,axY,_,Ec⟩:=oq6.at hlt
  obtain⟨c1,c2,c3,c4⟩:=op6.row i Yi
  obtain⟨d1,d2,d3,d4⟩:=oq6.row i hlt
  rw[abu] at c4
  simp only at c4
  rw[wX,aF,aj aib c3,aM.len c4.fu,apm,bN]
  refine aH (fun hlt2=>?_) (fun pg=>?_)
  ·have hlt2:k<ls[i].2.length:=by simpa using hlt2
   have aiR:k<xs'.length:=by omega
   have hxk:xs'[k]=ls[i].2[k]:=by
    have:=ar0 k (Nat.le_refl _)
    rw[List.getElem?_eq_getElem aiR,List.getElem?_eq_getElem hlt2] at this
    exact Option.some.inj this
   obtain⟨e1,o1,_,_,hi1,hc1⟩:=Sl.uB (E:=aU) c4.fu (k:Int) aiR
   obtain⟨e2,o2,_,_,hi2,hc2⟩:=Sl.uB (E:=aU) d4.fu (k:Int) hlt2
   rw[wX,aF,aj aib c3,hi1,lD (hc1 _ rfl),Ec,aF,aj axY d3,hi2,lD (hc2 _ rfl),hxk,dY,show((ls[i].2[k] : Int) != ls[i].2[k])=false by simp,bI]
   obtain⟨b5,hb5,hi5,hst⟩:=op6.write (x:=99) Yi (k:=k) (by rw[abu]; exact aiR)
   rw[wX,aF,aj aib c3,hi5]
   refine hst _ fun M7 op7 k7=>?_
   have hb5':=ayY i hlt b5 hb5
   rw[abu] at op7
   rw[bG,dK (by omega)]
   have n7:=k7.next
   refine dQ _ _ _ (by omega) ⟨k + 1,_,xs'.set k 99,rfl,rfl,by omega,k6.aY k7 (fun d hd=>by simp at hd; omega),by omega,by rw[List.length_set]; exact aru,fun j hj=>?_, ?_,by rw[List.length_set]; exact apm,fun j hj=>?_,op7,oq6.keep k7 (fun d hd=>by simp at hd; omega)⟩
   ·rw[List.getElem?_set_ne (by omega)]; exact aqx j hj
   ·rw[List.getElem?_set_self Yi]
   ·rw[List.getElem?_set_ne (by omega)]; exact ar0 j (by omega)
  ·rw[bG,dK (by omega)]
   exact hstep M6 out' k6 n6 aru aqx op6 oq6
 ·exact hQ M5 k5
theorem afZ {ps:List Pt} {d:aC} : (nY ps d).2.length=ps.length:=by
 unfold nY
 split
 ·split
  ·simp only; rw[List.length_set]
  ·rfl
 ·rfl
structure aBb (l:List aC) (i:Nat) (ps:List Pt) : Prop where
 len:ps.length=16
 wf:∀ p∈ps,jP p
 few:∀ p∈ps,p.2.length≤i
 has:∀ k (hk:k<l.length),k<i→good l[k]=true→fw ps l[k]=true
theorem wD {a b:aC} : jS a b=true↔a.1<b.1∨(a.1=b.1∧a.2<b.2):=by
 simp[jS]
theorem Vg {a:aC} : ¬ jS a a=true:=by rw[wD]; omega
theorem abO {a b:aC} (h:jS a b=true) : ¬ jS b a=true:=by rw[wD] at *; omega
theorem Fg {a b c:aC} (h:jS a b=true) (k:jS b c=true) : jS a c=true:=by rw[wD] at *; omega
theorem afn {a b:aC} (h:¬ jS a b=true) (hne:a≠b) : jS b a=true:=by
 rw[wD] at *
 have:¬ (a.1=b.1∧a.2=b.2):=fun⟨h1,h2⟩=>hne (Prod.ext h1 h2)
 omega
def FK (l:List aC) : Prop:=l.Pairwise fun a b=>jS a b=true
theorem aaH:∀ {xs ys:List aC},FK xs→FK ys→(∀ x,x∈xs↔x∈ys)→xs=ys
 | [],[],_,_,_=>rfl
 | [],y :: ys,_,_,h=>by have:=(h y).2 (by simp); simp at this
 | x :: xs,[],_,_,h=>by have:=(h x).1 (by simp); simp at this
 | x :: xs,y :: ys,h1,h2,h=>by
   have a1:=List.pairwise_cons.1 h1
   have a2:=List.pairwise_cons.1 h2
   have hxy:x=y:=by
    rcases List.mem_cons.1 ((h x).1 (by simp)) with e | e
    ·exact e
    ·rcases List.mem_cons.1 ((h y).2 (by simp)) with e' | e'
     ·exact e'.symm
     ·exact absurd (a1.1 y e') (abO (a2.1 x e))
   subst hxy
   rw[aaH a1.2 a2.2 fun z=>⟨fun hz=>?_,fun hz=>?_⟩]
   ·rcases List.mem_cons.1 ((h z).1 (by simp[hz])) with rfl | e
    ·exact absurd (a1.1 z hz) Vg
    ·exact e
   ·rcases List.mem_cons.1 ((h z).2 (by simp[hz])) with rfl | e
    ·exact absurd (a2.1 z hz) Vg
    ·exact e
theorem ah1 {l:List aC} {d x:aC} : x∈xw l d↔x=d∨x∈l:=by
 unfold xw
 split
 ·rename_i h
  exact⟨.inr,fun h'=>by rcases h' with rfl | h'; exact h; exact h'⟩
 ·rw[List.mem_append,List.mem_cons]
  conv=>rhs; rw[← List.take_append_drop (Ci d l) l,List.mem_append]
  constructor
  ·rintro(h | h | h)
   ·exact .inr (.inl h)
   ·exact .inl h
   ·exact .inr (.inr h)
  ·rintro(h | h | h)
   ·exact .inr (.inl h)
   ·exact .inl h
   ·exact .inr (.inr h)
theorem Yt {d:aC} : ∀ {l:List aC},FK l→d ∉ l→FK (l.take (Ci d l)++d :: l.drop (Ci d l))
 | [],_,_=>by simp[FK,Ci]
 | x :: l,h,hd=>by
   have a:=List.pairwise_cons.1 h
   simp only[List.mem_cons,not_or] at hd
   by_cases hx:jS x d=true
   ·have e:Ci d (x :: l)=Ci d l + 1:=by simp[Ci,hx]
    rw[e,List.take_succ_cons,List.drop_succ_cons,List.cons_append]
    refine List.pairwise_cons.2 ⟨fun y hy=>?_,Yt a.2 hd.2⟩
    rcases List.mem_append.1 hy with hy | hy
    ·exact a.1 y (List.mem_of_mem_take hy)
    ·rcases List.mem_cons.1 hy with rfl | hy
     ·exact hx
     ·exact a.1 y (List.mem_of_mem_drop hy)
   ·have e:Ci d (x :: l)=0:=by simp[Ci,hx]
    rw[e,List.take_zero,List.drop_zero,List.nil_append]
    have hdx:=afn hx (fun e=>hd.1 e.symm)
    refine List.pairwise_cons.2 ⟨fun y hy=>?_,h⟩
    rcases List.mem_cons.1 hy with rfl | hy
    ·exact hdx
    ·exact Fg hdx (a.1 y hy)
theorem ZX {l:List aC} {d:aC} (h:FK l) : FK (xw l d):=by
 unfold xw
 split
 ·exact h
 ·rename_i hd; exact Yt h hd
def nums (p:Pt) : List Nat:=List.range' 1 p.1++p.2
def Wl (i:Nat) (p:Pt) : List aC:=(nums p).map fun n=>((i:Int),n)
def mZ (ps:List Pt) : Nat→List aC
 | 0=>[]
 | i + 1=>mZ ps i++Wl i (ps.getD i (0,[]))
theorem XD {p:Pt} {n:Nat} : n∈nums p↔kF p n=true:=by
 rw[jY,nums,List.mem_append,List.mem_range'_1]
 constructor
 ·rintro(h | h)
  ·exact .inl (by omega)
  ·exact .inr h
 ·rintro(h | h)
  ·exact .inl (by omega)
  ·exact .inr h
theorem Aq {ps:List Pt} {d:aC} : ∀ {i:Nat},d∈mZ ps i↔0≤d.1∧d.1<i∧kF (ps.getD d.1.toNat (0,[])) d.2=true
 | 0=>by simp[mZ]; omega
 | i + 1=>by
   rw[mZ,List.mem_append,Aq,Wl,List.mem_map]
   constructor
   ·rintro(⟨h1,h2,h3⟩ | ⟨n,h,rfl⟩)
    ·exact⟨h1,by omega,h3⟩
    ·exact⟨by simp,by simp; omega,by simpa using XD.1 h⟩
   ·rintro⟨h1,h2,h3⟩
    by_cases h:d.1<i
    ·exact .inl ⟨h1,h,h3⟩
    ·have e:d.1.toNat=i:=by omega
     rw[e] at h3
     exact .inr ⟨d.2,XD.2 h3,Prod.ext (by simp; omega) rfl⟩
theorem ah4 {p:Pt} (h:jP p) : Asc (nums p):=by
 unfold nums Asc
 rw[List.pairwise_append]
 refine⟨List.pairwise_lt_range',h.1,fun a ha b hb=>?_⟩
 have:=List.mem_range'_1.1 ha
 have:=h.2.1 b hb
 omega
theorem Qo {ps:List Pt} (h:∀ p∈ps,jP p) : ∀ i,FK (mZ ps i)
 | 0=>.nil
 | i + 1=>by
   unfold FK
   rw[mZ,List.pairwise_append]
   refine⟨Qo h i, ?_,fun a ha b hb=>?_⟩
   ·rw[Wl,List.pairwise_map]
    exact List.Pairwise.imp (fun {a b} (hab:a<b)=>by rw[wD]; exact .inr ⟨rfl,hab⟩) (ah4 (ql h i))
   ·have h1:=(Aq.1 ha).2.1
    rw[Wl,List.mem_map] at hb
    obtain⟨n,_,rfl⟩:=hb
    exact wD.2 (.inl h1)
theorem UF {ps:List Pt} (h:∀ p∈ps,jP p) (d:aC) : d∈mZ ps 16↔fw ps d=true:=by
 rw[Aq,fw,Bool.and_eq_true]
 constructor
 ·rintro⟨h1,h2,h3⟩
  refine⟨?_,h3⟩
  have hw:=ql h d.1.toNat
  have:1≤d.2∧d.2≤1099511627776:=by
   rcases jY.1 h3 with h | h
   ·have:=hw.2.2.1; omega
   ·have:=hw.2.1 _ h; have:=hw.2.2.2.1 _ h; omega
  simp[good]; omega
 ·rintro⟨h1,h3⟩
  simp[good] at h1
  exact⟨by omega,by omega,h3⟩
def y8:List eQ→Option Int→List aC→List eQ
 | o,_,[]=>o
 | o,p,d :: ds=>y8 (Dk (if p=some d.1 then o else o++[((d.1.toNat,0),[])]) d.2) (some d.1) ds
theorem KX {l:List aC} : ∀ (k i:Nat),i + k=l.length→y8 (ik l i) (if i=0 then none else some (l.getD (i - 1) (0,0)).1) (l.drop i)=gQ l
 | 0,i,h=>by
   rw[List.drop_of_length_le (by omega),y8,gQ]
   congr 1
 | k + 1,i,h=>by
   have hi:i<l.length:=by omega
   have hD:l.getD i (0,0)=l[i]:=q8 hi
   have ih:=KX (l:=l) k (i + 1) (by omega)
   rw[if_neg (show ¬ i + 1=0 by omega),Nat.add_sub_cancel,ik,hD] at ih
   rw[List.drop_eq_getElem_cons hi,y8,← ih]
   congr 2
   unfold vU
   rw[hD]
   by_cases h0:i=0
   ·subst h0; simp
   ·rw[if_neg h0]
    by_cases he:l[i].1=(l.getD (i - 1) (0,0)).1
    ·rw[if_pos (by rw[he]),if_neg (by rintro(h | h); exact h0 h; exact h he)]
    ·rw[if_neg (fun h=>he (Option.some.inj h).symm),if_pos (.inr he)]
theorem Qx (o:List eQ) (p:eQ) (n:Nat) : Dk (o++[p]) n=o++[bump p n]:=by
 have e:(o++[p]).length - 1=o.length:=by simp
 unfold Dk
 rw[e,List.getD_eq_getElem?_getD,List.getElem?_append_right (Nat.le_refl _),List.set_append_right _ _ (Nat.le_refl _)]
 simp
theorem UG (i:Int) : ∀ (xs:List Nat) (o:List eQ) (p:eQ) (rest:List aC),y8 (o++[p]) (some i) (xs.map (fun n=>(i,n))++rest)=y8 (o++[xs.foldl bump p]) (some i) rest
 | [],_,_,_=>rfl
 | x :: xs,o,p,rest=>by
   rw[List.map_cons,List.cons_append,y8,if_pos rfl,Qx,UG i xs,List.foldl_cons]
theorem P7 (i:Nat) : ∀ (k a:Nat),(List.range' (a + 1) k).foldl bump ((i,a),[])=((i,a + k),[])
 | 0,a=>rfl
 | k + 1,a=>by
   rw[List.range'_succ,List.foldl_cons,bump,if_pos ⟨rfl,rfl⟩,P7 i k (a + 1)]
   congr 2; omega
theorem U4 (q:Nat × Nat) : ∀ (xs ys:List Nat),ys≠[]→xs.foldl bump (q,ys)=(q,ys++xs)
 | [],ys,_=>by simp
 | x :: xs,ys,h=>by
   rw[List.foldl_cons,bump,if_neg (fun h'=>h h'.1),U4 q xs _ (by simp),List.append_assoc]; rfl
theorem afU {i:Nat} {p:Pt} (h:jP p) : (nums p).foldl bump ((i,0),[])=((i,p.1),p.2):=by
 obtain⟨u,xs⟩:=p
 rw[nums,List.foldl_append,show(1:Nat)=0 + 1 from rfl,P7 i u 0,Nat.zero_add]
 cases xs with
 | nil=>rfl
 | cons x xs =>
   have:=h.2.1 x (by simp)
   rw[List.foldl_cons,bump,if_neg (fun h'=>by simp only at h' this; omega),U4 _ _ _ (by simp)]
   rfl
theorem Mm {ps:List Pt} (h:∀ p∈ps,jP p) : ∀ i:Nat,∃ p:Option Int,(∀ j,p=some j→j<i)∧∀ rest,y8 [] none (mZ ps i++rest)=y8 (jd ps i) p rest
 | 0=>⟨none,by simp,fun rest=>rfl⟩
 | i + 1=>by
   obtain⟨p,hp,hr⟩:=Mm h i
   have hw:=ql h i
   by_cases he:0<(ps.getD i (0,[])).1∨0<(ps.getD i (0,[])).2.length
   ·refine⟨some (i:Int),fun j hj=>by have:=Option.some.inj hj; omega,fun rest=>?_⟩
    rw[mZ,List.append_assoc,hr,jd,if_pos he,Wl]
    have hne:nums (ps.getD i (0,[]))≠[]:=by
     unfold nums
     intro h0
     obtain⟨q1,q2⟩:=List.append_eq_nil_iff.1 h0
     have q1:=congrArg List.length q1
     have q2:=congrArg List.length q2
     rw[List.length_range'] at q1
     simp only[List.length_nil] at q1 q2
     omega
    have hb:=afU (i:=i) hw
    generalize nums (ps.getD i (0,[]))=ns at *
    cases ns with
    | nil=>exact absurd rfl hne
    | cons n ns =>
      rw[List.map_cons,List.cons_append,y8,if_neg (fun h'=>by have:=hp _ h'; omega),Qx,UG,← hb,List.foldl_cons,Int.toNat_natCast]
   ·refine⟨p,fun j hj=>by have:=hp j hj; omega,fun rest=>?_⟩
    rw[mZ,List.append_assoc,hr,jd,if_neg he,List.append_nil]
    have e:Wl i (ps.getD i (0,[]))=[]:=by
     unfold Wl nums
     have h1:(ps.getD i (0,[])).1=0:=by omega
     have h2:(ps.getD i (0,[])).2=[]:=List.length_eq_zero_iff.1 (by omega)
     rw[h1,h2]; rfl
    rw[e,List.nil_append]
theorem YJ {ps:List Pt} (h:∀ p∈ps,jP p) : gQ (mZ ps 16)=parts ps:=by
 rw[← KX (l:=mZ ps 16) (mZ ps 16).length 0 (by omega)]
 obtain⟨p,_,hr⟩:=Mm h 16
 have:=hr []
 rw[List.append_nil] at this
 simp only[ik,if_true,List.drop_zero]
 rw[this]; rfl
structure zP (ps:List Pt) (w:List aC) : Prop where
 len:ps.length=16
 wf:∀ p∈ps,jP p
 srt:FK w
 mem:∀ d,d∈w↔fw ps d=true
theorem zP.eq {ps:List Pt} {w:List aC} (h:zP ps w) : w=mZ ps 16:=aaH h.srt (Qo h.wf 16) fun d=>by rw[h.mem,UF h.wf]
theorem zP.parts {ps:List Pt} {w:List aC} (h:zP ps w) : parts ps=gQ w:=by rw[h.eq,YJ h.wf]
theorem zP.good {ps:List Pt} {w:List aC} (h:zP ps w) : ∀ d∈w,good d=true:=fun d hd=>by
 have:=(h.mem d).1 hd
 rw[fw,Bool.and_eq_true] at this
 exact this.1
theorem zP.empty:zP gu []:=by
 refine⟨rfl,Xa,.nil,fun d=>?_⟩
 rw[fw,xJ]
 simp[kF]
 intro _ h; omega
theorem aeR {M:RM} {base T:Nat} {v:AV} {xs:List Nat} (h:Ow aU M base T v xs) (hn:0<xs.length) : ∃ b,v=vv b xs.length∧base≤b∧b<M.next∧M=PM M b T xs.toArray:=by
 obtain⟨b,h1,h2,h3,h4,h5⟩:=Own.Br h hn
 refine⟨b,h1,h2,h3, ?_⟩
 unfold PM RM.put
 obtain⟨n,hp,lo⟩:=M
 simp only at h4 ⊢
 congr 1
 funext c
 by_cases hc:c=b
 ·subst hc; rw[if_pos rfl,h4]
 ·rw[if_neg hc]
theorem atr {M:RM} {b T base:Nat} {d:Array Nat} (h1:base≤b) (h2:b<M.next) : Ow aU (PM M b T d) base T (vv b d.size) d.toList:=by
 have:Own (PM M b T d) base T 1 (.slc b 0 d.size (.op 1)) (aU.row d.toList) d.size:=.op _ _ _ h1 h2 PM.heap (by rw[PM.OG]; omega)
 show Own (PM M b T d) base T 1 (.slc b 0 d.size (.op 1)) (aU.row d.toList) d.toList.length
 rw[Array.length_toList]; exact this
theorem abk {M M' : RM} {b T:Nat} {d:Array Nat} (k:ag [] M M') : ag [b] M (PM M' b T d):=(k.mono (by simp)).put _ (.inr (by simp))
def lC (xs:List Nat) : List Nat:=(Sort.sort lN xs.toArray).toList
theorem afD:lC []=[]:=by
 unfold lC Sort.sort
 rw[pdq_eq,if_pos (by simp),Sort.insertionSort,Sort.insOuter,if_neg (by simp)]
theorem QH (xs:List Nat) : (lC xs).Perm xs:=by
 have h:=(Sort.sort_sorts lN Zf xs.toArray).1
 have h2:=h.2.2
 rw[Array.extract_eq_self_of_le (by rw[h.1]; exact Nat.le_refl _),Array.extract_eq_self_of_le (Nat.le_refl _)] at h2
 exact h2
theorem JF (xs:List Nat) : (lC xs).length=xs.length:=(QH xs).length_eq
theorem ahZ (xs:List Nat) : Up (lC xs):=by
 intro i j hi hj hij
 have h:=(Sort.sort_sorts lN Zf xs.toArray)
 have hs:(Sort.sort lN xs.toArray).size=xs.toArray.size:=h.1.1
 unfold lC at hi hj ⊢
 rw[Array.length_toList] at hi hj
 rcases Nat.lt_or_ge i j with h1 | h1
 ·have:=h.2 i j (Nat.zero_le _) h1 (by omega)
  rw[yV hj,yV hi] at this
  rw[Array.getElem_toList,Array.getElem_toList]
  have:=of_decide_eq_false this
  omega
 ·have:i=j:=by omega
  subst this; exact Nat.le_refl _
def Yu (c:au) : Prop:=∀ {M:RM} {v:AV} {Q:ak},Q (.tup []) M→c [v,N .i64 0,N .i64 ((0:Nat) : Int),N .i64 ((0:Nat) : Int)] M Q
def YV (c:au) : Prop:=∀ {M:RM} {v:AV} {Q:ak},Q (.tup []) M→c [v,N .i64 0,N .i64 ((0:Nat) : Int)] M Q
theorem aax {cl:au} : YV fun args M Q=>∃ a0 a1 a2,args=[a0,a1,a2]∧gq cl a0 a1 a2 M Q:=by
 intro M v Q hQ
 refine⟨_,_,_,rfl, ?_⟩
 unfold gq
 rw[bG,show IntKind.i64.wrap ((0:Int) + 1)=1 from rfl]
 refine aK (fun m ys M3=>m=0∧ys=[N .i64 1]∧M3=M) 0 ⟨rfl,rfl,rfl⟩ ?_
 rintro next m ys M3 hnext ⟨rfl,rfl,rfl⟩
 dsimp only[aa]
 rw[bN,show decide ((1:Int)<((0:Nat) : Int))=false from rfl,bI]
 exact hQ
theorem aas {ci c2 c3 cc c4 cp c5 c6 c7 c8:au} (hi:YV ci) : Yu fun args M Q=>∃ a0 a1 a2 a3,args=[a0,a1,a2,a3]∧je ci c2 c3 cc c4 cp c5 c6 c7 c8 a0 a1 a2 a3 M Q:=by
 intro M v Q hQ
 refine⟨_,_,_,_,rfl, ?_⟩
 unfold je
 refine aK (fun m ys M3=>m=0∧ys=[N .i64 0,N .i64 ((0:Nat) : Int),N .i64 ((0:Nat) : Int),Bo true,Bo true]∧M3=M) 0 ⟨rfl,rfl,rfl⟩ ?_
 rintro next m ys M3 hnext ⟨rfl,rfl,rfl⟩
 dsimp only[aa]
 rw[iQ,show IntKind.i64.wrap (((0:Nat) : Int) - 0)=0 from rfl,mr,show decide ((0:Int)≤12)=true from rfl,dC]
 exact hi hQ
theorem aec {T:Nat} {cl cp:au} (hl:JM cl) (hp:∀ m,ad3 T m cp) (h0:Yu cp) : acs (fun xs=>xs.length≤60000) lC T fun args M Q=>∃ a0,args=[a0]∧Aa cl cp a0 M Q:=by
 intro M base v xs Q ho hx hQ
 have hs:Sl aU M v xs:=ho.fu
 refine⟨_,rfl, ?_⟩
 unfold Aa
 have hx:xs.length≤60000:=hx
 rw[aM.len hs,gz,dB (by omega) (by omega)]
 refine hl (by omega) ?_
 rcases Nat.eq_zero_or_pos xs.length with hn | hn
 ·rw[hn,show Sort.bitsLen 0=0 from rfl]
  refine h0 ?_
  have:=List.length_eq_zero_iff.1 hn
  subst this
  exact hQ M (by rw[afD]; exact ho) (ag.refl _ _)
 ·obtain⟨b,rfl,h1,h2,h3⟩:=aeR ho hn
  have hb:=Gb hn (by omega)
  have hsz:xs.toArray.size=xs.length:=by simp
  have:=hp (xs.length + 1) (M:=M) (b:=b) (a:=0) (e:=xs.toArray.size) (limit:=Sort.bitsLen xs.length) (d:=xs.toArray) (Q:=fun bH M_0=>Q (.tup []) M_0) h2 (by omega) (by omega) (Nat.le_refl _) (by omega) (by omega) fun M' k=>?_
  ·rw[← h3] at this
   simpa using this
  ·have e:(Sort.pdq lN xs.toArray 0 xs.toArray.size (Sort.bitsLen xs.length) true true)=Sort.sort lN xs.toArray:=by rw[Sort.sort]; simp
   rw[e]
   refine hQ _ ?_ (abk k)
   have hsz2:(Sort.sort lN xs.toArray).size=xs.length:=by
    have:=JF xs
    unfold lC at this
    rw[Array.length_toList] at this; exact this
   have:=atr (M:=M') (T:=T) (d:=Sort.sort lN xs.toArray) h1 (Nat.lt_of_lt_of_le h2 k.next)
   rw[hsz2] at this
   exact this
def Am:Nat→List Nat→List Nat
 | _,[]=>[]
 | p,x :: xs=>if x=p then Am x xs else x :: Am x xs
def dd:List Nat→List Nat
 | []=>[]
 | x :: xs=>x :: Am x xs
theorem Xw:∀ (ys:List Nat) (p x:Nat),Am p (ys++[x])=if x=ys.getLastD p then Am p ys else Am p ys++[x]
 | [],p,x=>rfl
 | y :: ys,p,x=>by
   rw[List.cons_append,Am,Am,Xw ys y x,List.getLastD_cons]
   by_cases hy:y=p
   ·rw[if_pos hy,if_pos hy]
   ·rw[if_neg hy,if_neg hy]
    split
    ·rfl
    ·rfl
theorem U2:∀ (k:Nat) (ys:List Nat) (y:Nat) (h:k<(y :: ys).length),(ys.take k).getLastD y=(y :: ys)[k]
 | 0,ys,y,h=>rfl
 | k + 1,[],y,h=>by simp at h
 | k + 1,z :: zs,y,h=>by
   rw[List.take_succ_cons,List.getLastD_cons,U2 k zs z (by simpa using h)]
   rfl
theorem abb {xs:List Nat} {m:Nat} (h1:1≤m) (h:m<xs.length) : dd (xs.take (m + 1))=if xs[m]=xs[m - 1] then dd (xs.take m) else dd (xs.take m)++[xs[m]]:=by
 rw[List.take_succ_eq_append_getElem h]
 cases xs with
 | nil=>simp at h
 | cons y ys =>
   obtain⟨k,rfl⟩ : ∃ k,m=k + 1:=⟨m - 1,by omega⟩
   have hk:k<(y :: ys).length:=by omega
   rw[List.take_succ_cons,List.cons_append,dd,dd,Xw,U2 k ys y hk]
   simp only[Nat.add_sub_cancel]
   split <;> simp
theorem aoA:∀ (xs:List Nat),(dd xs).length≤xs.length
 | []=>Nat.le_refl _
 | x :: xs=>by
   have:∀ (p:Nat) (l:List Nat),(Am p l).length≤l.length:=by
    intro p l
    induction l generalizing p with
    | nil=>exact Nat.le_refl _
    | cons y l ih=>rw[Am]; split <;> simp <;> have:=ih y <;> omega
   rw[dd]; simp; exact this x xs
theorem adr {b o n k:Nat} (h:k≤n) (h0:0<n) : bB 1 (.slc b o n (.op 1)) none (some (N .i64 (k:Int))) none=some (.slc b o k (.op 1)):=by
 simp only[bB,bnd]
 simp[h]
 omega
theorem Vz {T:Nat} : O1 (fun xs=>xs.length≤60000) dd T fun args M Q=>∃ a0,args=[a0]∧vN a0 M Q:=by
 intro M base v xs Q ho hx hQ
 have hx:xs.length≤60000:=hx
 have hs:Sl aU M v xs:=ho.fu
 refine⟨_,rfl, ?_⟩
 unfold vN
 have hself:dd xs=xs→Q v M:=fun e=>hQ v M (by rw[e]; exact hs) (Own.jO ho) (fun d hd=>hd) (ag.refl _ _)
 rw[aM.len hs,bN]
 refine aH (fun hg=>?_) (fun hg=>?_)
 ·have hg:xs.length<2:=by
   have:(xs.length:Int)<2:=of_decide_eq_true hg
   omega
  refine hself ?_
  match xs,hg with
  | [],_=>rfl
  | [x],_=>rfl
 have hg:2≤xs.length:=by
  have:¬ (xs.length:Int)<2:=of_decide_eq_false hg
  omega
 obtain⟨b,rfl,h1,h2,h3⟩:=aeR ho (by omega)
 have hsz:xs.toArray.size=xs.length:=by simp
 have hat:∀ i (h:i<xs.length),xs.toArray[i]! = xs[i]:=fun i h=>by rw[yV (by simpa using h)]; simp
 clear hs
 have hself:=hself
 simp only[dG]
 refine aK (fun m ys M3=>∃ i:Nat,m=xs.length - i∧ys=[N .i64 (i:Int)]∧1≤i∧i≤xs.length∧M3=PM M b T xs.toArray∧dd (xs.take i)=xs.take i) _ ⟨1,rfl,rfl,Nat.le_refl _,by omega,h3,by
  match xs,hg with
  | x :: y :: l,_=>rfl⟩ ?_
 rintro next m ys M3 hnext ⟨i,rfl,rfl,hi1,hi,rfl,hdd⟩
 dsimp only[aa]
 have af8:∀ K:AV→Prop,bD (vv b xs.length) K=K (N .i64 (xs.length:Int)):=fun K=>by simp[oN]
 rw[af8,fM]
 refine aH (fun hlt=>?_) (fun hge=>?_)
 rotate_left
 ·have he:i=xs.length:=by
   have:¬ i<xs.length:=of_decide_eq_false hge
   omega
  subst he
  rw[List.take_length] at hdd
  rw[← h3]
  exact hself hdd
 have hlt:i<xs.length:=of_decide_eq_true hlt
 rw[PM.rd hsz.symm (by omega),dI (by omega) (by omega),PM.rd hsz.symm (by omega),hat i hlt,hat (i - 1) (by omega),bU]
 have hstep:=abb hi1 hlt
 by_cases heq:xs[i]=xs[i - 1]
 rotate_left
 ·rw[show(((xs[i] : Nat) : Int) == ((xs[i - 1]'(by omega) : Nat) : Int))=false by rw[beq_eq_false_iff_ne]; omega,bI,add1 (by omega)]
  rw[if_neg heq,hdd] at hstep
  exact hnext _ _ _ (by omega) ⟨i + 1,rfl,rfl,by omega,hlt,rfl,by rw[hstep,← List.take_succ_eq_append_getElem hlt]⟩
 rw[show(((xs[i] : Nat) : Int) == ((xs[i - 1]'(by omega) : Nat) : Int))=true by rw[beq_iff_eq]; omega,dC]
 rw[if_pos heq,hdd] at hstep
 rw[sG hlt,cB]
 have av9:∀ K:AV→Prop,bD (.slc b (0 + i * 1) (xs.length - i) (.op 1)) K=K (N .i64 ((xs.length - i:Nat) : Int)):=fun K=>by simp[oN]
 have ah6:∀ (j:Nat),j<xs.length - i→∀ (K:AV→Prop),ax (.slc b (0 + i * 1) (xs.length - i) (.op 1)) (N .i64 (j:Int)) 1 K=K (.ptr b (i + j)):=fun j hj K=>by
  rw[oP]
  simp only[Int.toNat_natCast]
  rw[show 0 + i * 1 + j * 1=i + j by omega]
  exact propext ⟨fun h=>h.2.2,fun h=>⟨by omega,by omega,h⟩⟩
 -- the rest: moved down
 refine aK (fun m ys M5=>∃ (k j:Nat) (d:Array Nat),m=xs.length - j∧ys=[N .i64 (k:Int),N .i64 (j:Int)]∧1≤j∧i + j≤xs.length∧1≤k∧k + 1≤i + j∧M5=PM M b T d∧d.size=xs.length∧d.toList.take k=dd (xs.take (i + j))∧(∀ q (h:q<xs.length),i + j≤q + 1→d[q]! = xs[q])) _
  ⟨i,1,xs.toArray,rfl,rfl,by omega,by omega,by omega,by omega,rfl,hsz,by rw[hstep],fun q h _=>hat q h⟩ ?_
 rintro jv m ys M5 dQ ⟨k,j,d,rfl,rfl,hj1,hij,hk1,hk,rfl,hds,hpre,hold⟩
 dsimp only[aa]
 rw[av9,fM]
 refine aH (fun hlt2=>?_) (fun pg=>?_)
 ·have hlt2:j<xs.length - i:=of_decide_eq_true hlt2
  have hij' : i + j<xs.length:=by omega
  refine bT (fun zs M'=>∃ (k' : Nat) (d' : Array Nat),zs=[N .i64 (k' : Int)]∧1≤k'∧k'≤i + j∧M'=PM M b T d'∧d'.size=xs.length∧d'.toList.take k'=dd (xs.take (i + j + 1))∧(∀ q (h:q<xs.length),i + j≤q→d'[q]! = xs[q])) ?_ ?_
  ·rintro zs M' ⟨k',d',rfl,c1,c2,rfl,c3,c4,c5⟩
   dsimp only[aa]
   rw[add1 (by omega)]
   exact dQ _ _ _ (by omega) ⟨k',j + 1,d',rfl,rfl,by omega,by omega,c1,by omega,rfl,c3,c4,fun q h hq=>c5 q h (by omega)⟩
  intro J hJ
  have acg:=abb (xs:=xs) (m:=i + j) (by omega) hij'
  have ld:∀ q (h:q<xs.length) (K:AV→Prop),ai (PM M b T d) (.ptr b q) K=K (N .u64 ((d[q]! : Nat) : Int)):=fun q h K=>aj PM.heap (PM.cellAt (by omega))
  rw[ah6 j hlt2,ld _ hij',dI (by omega) (by omega),ah6 (j - 1) (by omega),ld _ (by omega),hold (i + j) hij' (by omega),hold (i + (j - 1)) (by omega) (by omega),dY]
  have hpe:xs[i + (j - 1)]'(by omega)=xs[i + j - 1]'(by omega):=by congr 1; omega
  rw[hpe]
  by_cases hne:xs[i + j]=xs[i + j - 1]'(by omega)
  ·rw[show(((xs[i + j] : Nat) : Int) != ((xs[i + j - 1]'(by omega) : Nat) : Int))=false by rw[hne]; simp,bI]
   rw[if_pos hne] at acg
   exact hJ _ _ ⟨k,d,rfl,hk1,by omega,rfl,hds,by rw[acg]; exact hpre,fun q h hq=>hold q h (by omega)⟩
  ·rw[show(((xs[i + j] : Nat) : Int) != ((xs[i + j - 1]'(by omega) : Nat) : Int))=true by simp only[bne_iff_ne,ne_eq]; omega,dC]
   rw[if_neg hne] at acg
   rw[ah6 j hlt2,ld _ hij',hold (i + j) hij' (by omega),PM.idx (by omega),PM.put (by omega),add1 (by omega)]
   refine hJ _ _ ⟨k + 1,_,rfl,by omega,by omega,rfl,by simpa using hds, ?_,fun q h hq=>?_⟩
   ·have hkl:k<d.toList.length:=by rw[Array.length_toList]; omega
    rw[acg,← hpre,Array.toList_setIfInBounds,List.take_succ_eq_append_getElem (by rw[List.length_set]; exact hkl),List.getElem_set_self,List.take_set_of_le (Nat.le_refl _)]
   ·rw[← hold q h (by omega)]
    rw[yV (by rw[Array.size_setIfInBounds]; omega),yV (by omega),Array.getElem_setIfInBounds_ne (by omega) (by omega)]
 ·have hij' : i + j=xs.length:=by
   have:¬ j<xs.length - i:=of_decide_eq_false pg
   omega
  rw[hij',List.take_length] at hpre
  have hst:(PM M b T d).stores b (0 + k * 1) (bW [N .u64 0] (xs.length - k))=some ((PM M b T d).put b (.row ((aU.row d.toList).take (0 + k * 1)++bW [N .u64 0] (xs.length - k)++(aU.row d.toList).drop (0 + k * 1 + (bW [N .u64 0] (xs.length - k)).length)) true T 0)):=by
   refine RM.GZ PM.heap ?_ (Nat.zero_le _) (rQ _).2
   rw[(rQ _).1,PM.OG]; omega
  rw[sG (by omega),cB]
  refine .inl ⟨_,_,_,_,_,rfl,hst, ?_⟩
  dsimp only
  rw[adr (by omega) (by omega),cB]
  have hlk:(dd xs).length=k:=by rw[← hpre,List.length_take,Array.length_toList]; omega
  refine hQ _ _ ?_ (show(1:Nat)=1 from rfl) (fun e he=>by simpa [aD] using he) ?_
  ·have hrow:((aU.row d.toList).take (0 + k * 1))=aU.row (dd xs):=by
    rw[← hpre,show 0 + k * 1=k * aU.size by simp[aU],Enc.vI]
   show aM _ 1 (.slc b 0 k (.op 1)) (aU.row (dd xs)) (dd xs).length
   rw[hlk]
   refine .slc _ _ _ _ _ h2 ?_
   have hl:(aU.row (dd xs)).length=k:=by rw[Enc.fo,hlk]; simp[aU]
   rw[RM.dx (aR _) (by rw[hrow]; simp[hl]),List.drop_zero,hrow,Nat.mul_one,List.append_assoc,List.take_left' hl]
  ·refine ag.put ?_ _ (.inr (by simp[aD]))
   exact abk (ag.refl _ _)
theorem awJ {xs:List Nat} (h:Up xs) : xs.Pairwise (· ≤ ·):=List.pairwise_iff_getElem.2 fun i j hi hj hij=>h i j hi hj (Nat.le_of_lt hij)
theorem UX:∀ (ys:List Nat) (p:Nat),(p :: ys).Pairwise (· ≤ ·)→Asc (Am p ys)∧(∀ x∈Am p ys,p<x)∧∀ x,x∈Am p ys↔x∈ys∧x≠p
 | [],p,_=>⟨.nil,by simp[Am],by simp[Am]⟩
 | y :: ys,p,h=>by
   have a1:=List.pairwise_cons.1 h
   have a2:=List.pairwise_cons.1 a1.2
   obtain⟨i1,i2,i3⟩:=UX ys y a1.2
   have hpy:p≤y:=a1.1 y (by simp)
   rw[Am]
   by_cases hy:y=p
   ·rw[if_pos hy]
    subst hy
    refine⟨i1,i2,fun x=>?_⟩
    rw[i3,List.mem_cons]
    constructor
    ·rintro⟨h1,h2⟩; exact⟨.inr h1,h2⟩
    ·rintro⟨h1 | h1,h2⟩
     ·exact absurd h1 h2
     ·exact⟨h1,h2⟩
   ·rw[if_neg hy]
    refine⟨List.pairwise_cons.2 ⟨i2,i1⟩,fun x hx=>?_,fun x=>?_⟩
    ·rcases List.mem_cons.1 hx with rfl | hx
     ·omega
     ·have:=i2 x hx; omega
    ·rw[List.mem_cons,i3,List.mem_cons]
     constructor
     ·rintro(rfl | ⟨h1,h2⟩)
      ·exact⟨.inl rfl,hy⟩
      ·have:=a2.1 x h1
       exact⟨.inr h1,by omega⟩
     ·rintro⟨h1 | h1,h2⟩
      ·exact .inl h1
      ·by_cases hxy:x=y
       ·exact .inl hxy
       ·exact .inr ⟨h1,hxy⟩
theorem ajs {ys:List Nat} (h:Up ys) : Asc (dd ys)∧∀ x,x∈dd ys↔x∈ys:=by
 have hp:=awJ h
 cases ys with
 | nil=>exact⟨.nil,fun x=>Iff.rfl⟩
 | cons y ys =>
   obtain⟨i1,i2,i3⟩:=UX ys y hp
   refine⟨List.pairwise_cons.2 ⟨i2,i1⟩,fun x=>?_⟩
   rw[dd,List.mem_cons,i3,List.mem_cons]
   constructor
   ·rintro(h | ⟨h,_⟩)
    ·exact .inl h
    ·exact .inr h
   ·rintro(h | h)
    ·exact .inl h
    ·by_cases hxy:x=y
     ·exact .inl hxy
     ·exact .inr ⟨h,hxy⟩
def jl (p q:Pt) : List Nat:=dd (lC (p.2++q.2))
theorem G6 (p q:Pt) : Asc (jl p q)∧(∀ x,x∈jl p q↔x∈p.2∨x∈q.2)∧(jl p q).length≤p.2.length + q.2.length:=by
 obtain⟨h1,h2⟩:=ajs (ahZ (p.2++q.2))
 refine⟨h1,fun x=>?_, ?_⟩
 ·unfold jl
  rw[h2,(QH _).mem_iff,List.mem_append]
 ·have:=aoA (lC (p.2++q.2))
  rw[JF,List.length_append] at this
  exact this
theorem XJ {p q:Pt} (hp:jP p) (hq:jP q) (hl:p.2.length + q.2.length≤4096) :
  jP (uK lC dd p q)∧(∀ x,kF (uK lC dd p q) x=true↔kF p x=true∨kF q x=true)∧(uK lC dd p q).2.length≤p.2.length + q.2.length:=by
 obtain⟨h1,h2,h3⟩:=G6 p q
 have he:uK lC dd p q=settle (max p.1 q.1) (jl p q):=rfl
 rw[he]
 have hpos:∀ y∈jl p q,1≤y:=fun y hy=>by
  rcases(h2 y).1 hy with h | h
  ·have:=hp.2.1 y h; omega
  ·have:=hq.2.1 y h; omega
 have hle:∀ y∈jl p q,y≤1099511627776:=fun y hy=>by
  rcases(h2 y).1 hy with h | h
  ·exact hp.2.2.2.1 y h
  ·exact hq.2.2.2.1 y h
 have hm:max p.1 q.1≤1099511627776:=by have:=hp.2.2.1; have:=hq.2.2.1; omega
 obtain⟨s1,s2,s3,s4⟩:=De (jl p q) (max p.1 q.1) 1099511627776 h1 hm hle
 have hsl:=HZ (max p.1 q.1) (jl p q)
 refine⟨⟨s1,s2,s3,fun x hx=>hle x (Rk hx),by omega⟩,fun x=>?_,by omega⟩
 rw[GY _ _ _ hpos,h2,jY,jY]
 constructor
 ·rintro(h | h | h)
  ·by_cases hx:x≤p.1
   ·exact .inl (.inl ⟨h.1,hx⟩)
   ·exact .inr (.inl ⟨h.1,by omega⟩)
  ·exact .inl (.inr h)
  ·exact .inr (.inr h)
 ·rintro((h | h) | (h | h))
  ·exact .inl ⟨h.1,by omega⟩
  ·exact .inr (.inl h)
  ·exact .inl ⟨h.1,by omega⟩
  ·exact .inr (.inr h)
def G8 (ps qs:List Pt) : List Pt:=ui lC dd ps qs 16
structure SI (k:Nat) (ps:List Pt) : Prop where
 len:ps.length=16
 wf:∀ p∈ps,jP p
 few:∀ p∈ps,p.2.length≤k
theorem SI.at {k:Nat} {ps:List Pt} (h:SI k ps) (i:Nat) : jP (ps.getD i (0,[]))∧(ps.getD i (0,[])).2.length≤k :=
 ⟨ql h.wf i,yo (R:=fun p=>p.2.length≤k) h.few (Nat.zero_le _) i⟩
theorem Zt {ps qs:List Pt} {a c:Nat} (h1:SI a ps) (h2:SI c qs) {j:Nat} (hj:j<16) : (G8 ps qs).getD j (0,[])=uK lC dd (ps.getD j (0,[])) (qs.getD j (0,[])):=Xu h1.len (Nat.le_refl _) hj
theorem ajq {ps qs:List Pt} {a c:Nat} (h1:SI a ps) (h2:SI c qs) (hk:a + c≤4096) : SI (a + c) (G8 ps qs):=by
 have hlen:(G8 ps qs).length=16:=by rw[G8,K8,h1.len]
 have all:∀ p∈G8 ps qs,jP p∧p.2.length≤a + c:=fun p hp=>by
  obtain⟨i,hi,rfl⟩:=List.getElem_of_mem hp
  rw[hlen] at hi
  have e:=Zt h1 h2 hi
  rw[q8 (by omega)] at e
  rw[e]
  obtain⟨w1,l1⟩:=h1.at i
  obtain⟨w2,l2⟩:=h2.at i
  obtain⟨r1,_,r3⟩:=XJ w1 w2 (by omega)
  exact⟨r1,by omega⟩
 exact⟨hlen,fun p hp=>(all p hp).1,fun p hp=>(all p hp).2⟩
def sN (u v:List aC) : List aC:=v.foldl xw u
theorem aa3 {x:aC} : ∀ {v u:List aC},x∈sN u v↔x∈u∨x∈v
 | [],u=>by simp[sN]
 | d :: v,u=>by
   have:sN u (d :: v)=sN (xw u d) v:=rfl
   rw[this,aa3,ah1,List.mem_cons]
   constructor
   ·rintro((h | h) | h)
    ·exact .inr (.inl h)
    ·exact .inl h
    ·exact .inr (.inr h)
   ·rintro(h | h | h)
    ·exact .inl (.inr h)
    ·exact .inl (.inl h)
    ·exact .inr h
theorem abm:∀ {v u:List aC},FK u→FK (sN u v)
 | [],u,h=>h
 | d :: v,u,h=>by
   have:sN u (d :: v)=sN (xw u d) v:=rfl
   rw[this]
   exact abm (ZX h)
theorem FR:∀ {v u:List aC},(sN u v).length≤u.length + v.length
 | [],u=>by simp[sN]
 | d :: v,u=>by
   have:sN u (d :: v)=sN (xw u d) v:=rfl
   rw[this,List.length_cons]
   have h1:=FR (v:=v) (u:=xw u d)
   have h2:=ahh u d
   omega
theorem zP.of {k:Nat} {ps:List Pt} {w:List aC} (h:SI k ps) (hs:FK w) (hm:∀ d,d∈w↔fw ps d=true) : zP ps w:=⟨h.len,h.wf,hs,hm⟩
theorem EY {ps qs:List Pt} (h1:∀ p∈ps,jP p) (h2:∀ p∈qs,jP p) : ko ps qs=true↔∀ d,fw ps d=true→fw qs d=true:=by
 constructor
 ·intro h d hd
  exact aah h1 h2 h hd
 ·intro h
  rw[zh]
  intro i hi
  rw[MM (ql h1 i) (ql h2 i)]
  intro x hx
  have hm:((i:Int),x)∈mZ ps 16:=Aq.2 ⟨by simp,by simp; omega,by simpa using hx⟩
  have:=h _ ((UF h1 _).1 hm)
  rw[fw,Bool.and_eq_true] at this
  simpa using this.2
def Yw (T:Nat) (c:au) : Prop:=adT (fun xs=>xs.length≤60000) (fun xs=>xs.length≤60000) lC dd T c
theorem Yw.use {T:Nat} {c:au} (h:Yw T c) {M:RM} {a b:Nat} {ps qs:List Pt} {S S' : Nat→Prop} {k l:Nat} {Q:ak} (h1:iA T S M a ps) (h2:iA T S' M b qs) (he:a=b→ps=qs) (hn:¬ S' a) (i1:SI k ps) (i2:SI l qs) (hkl:k + l≤60000)
  (hQ:∀ M',iA T (fun e=>S e∨M.next≤e) M' a (G8 ps qs)→ag [a] M M'→Q (.tup []) M') : c [.ptr a 0,.ptr b 0] M Q:=by
 refine h h1 h2 he hn (fun i hi=>?_) (fun p hp=>?_) (fun p hp=>?_) (fun i hi=>?_) hQ
 ·have a1:=(i1.at i).2
  have a2:=(i2.at i).2
  show((ps.getD i (0,[])).2++(qs.getD i (0,[])).2).length≤60000∧(lC ((ps.getD i (0,[])).2++(qs.getD i (0,[])).2)).length≤60000
  rw[JF,List.length_append]
  omega
 ·have:=(i1.wf p hp).2.2.1
  have:=i1.few p hp
  omega
 ·have:=(i2.wf p hp).2.2.1
  have:=i2.few p hp
  omega
 ·have a1:=i1.at i
  have a2:=i2.at i
  obtain⟨_,j2,j3⟩:=G6 (ps.getD i (0,[])) (qs.getD i (0,[]))
  refine⟨by have:=j3; unfold jl at this; omega,fun x hx=>?_⟩
  rcases(j2 x).1 hx with h | h
  ·have:=a1.1.2.2.2.1 x h; omega
  ·have:=a2.1.2.2.2.1 x h; omega
end Go.Ab.aC
namespace Go.Ab.Crw
open Go Go.Ab Go.Ab.aC
def Ku (T:Nat) (c:au) : Prop:=∀ {M:RM} {b:Nat} {qs:List Pt} {S' : Nat→Prop} {k:Nat} {Q:ak},iA T S' M b qs→SI k qs→k≤4096 →
 (∀ a M',M.next≤a→iA T (fun e=>a<e) M' a qs→ag [] M M'→Q (.ptr a 0) M')→c [.ptr b 0] M Q
theorem aal {q:Pt} (h:jP q) : uK lC dd (0,[]) q=q:=by
 have e:jl (0,[]) q=q.2:=aaK (G6 _ _).1 h.1 fun x=>by rw[(G6 _ _).2.1]; simp
 show Go.Ab.aC.settle (max 0 q.1) (jl (0,[]) q)=q
 rw[e,Nat.zero_max]
 exact ZK h.2.1
theorem Ct:SI 0 gu:=⟨rfl,Xa,fun p hp=>by
 rw[gu,List.mem_replicate] at hp
 rw[hp.2]; exact Nat.le_refl _⟩
theorem abB {T:Nat} {cn cj:au} (hn:abw T cn) (hj:Yw T cj) : Ku T fun args M Q=>∃ a0,args=[a0]∧aC.IJ cn cj a0 M Q:=by
 intro M b qs S' k Q hB hi hk hQ
 refine⟨_,rfl, ?_⟩
 unfold aC.IJ
 have hB0:=hB.below
 refine hn fun M1 hA1 k1 n1=>?_
 have hB1:=hB0.keep k1 (by simp) (by simp)
 have hbl:=hB.lt
 refine hj.use hA1 hB1 (fun e=>by omega) (fun h=>by omega) Ct hi (by omega) fun M2 hA2 k2=>?_
 have e:G8 gu qs=qs:=ajT (ajq Ct hi (by omega)).len hB.len fun j hj=>by
  rw[Zt Ct hi hj,xJ,aal (hi.at j).1]
 rw[e] at hA2
 refine hQ M.next M2 (Nat.le_refl _) (hA2.mono (fun e h=>?_) (by omega)) (k1.aY k2 (by simp))
 rcases h with h | h
 ·exact h.elim
 ·omega
section
variable {α:Type} {E:Enc α}
theorem ags {M:RM} {b T bytes:Nat} {zs:List AV} {u:AV} {xs ys:List α} {K:ak} (hb:b<M.next) (hh:M.heap b=some (.row (E.row xs) false T 0)) (hu:Sl E M u ys) (hx:1≤xs.length) (hs:1≤E.size)
  (hn:(xs.length + ys.length) * bytes≤140737488355328) (hn2:xs.length + ys.length≤140737488355328)
  (hK:∀ v' M',Sl E M' v' (xs++ys)→(∀ d∈aD v',d=b∨M.next≤d)→ag [] M M'→K v' M') : appW T E.size bytes zs false (.slc b 0 xs.length (.ex xs.length)) u M K:=by
 refine⟨ys.length,E.row ys,aM.nQ hu _, ?_,by omega, ?_⟩
 ·exact Nat.le_trans (Nat.mul_le_mul_right _ (Nat.le_add_left _ _)) hn
 have hlen:(E.row xs).length=xs.length * E.size:=E.fo xs
 have hld:M.loads b 0 (xs.length * E.size)=some (E.row xs):=by
  rw[RM.dx hh (by omega),List.drop_zero,← hlen,List.take_length]
 by_cases h0:ys.length=0
 ·have:ys=[]:=List.length_eq_zero_iff.1 h0
  subst this
  refine⟨.slc b 0 xs.length (.ex xs.length),M,by simp[qK],hK _ _ ?_ (by simp[aD]) (ag.refl _ _)⟩
  rw[List.append_nil]
  exact .slc _ _ _ _ _ hb hld
 ·refine⟨.slc M.next 0 (xs.length + ys.length) (.op E.size),M.push (.row (E.row xs++E.row ys) true T 0), ?_,hK _ _ ?_ (by simp[aD]) ((ag.refl _ _).push _)⟩
  ·have hone:(E.row xs++E.row ys).all oneCell=true:=by rw[List.all_append,E.qX,E.qX]; rfl
   simp only[qK,if_neg h0,if_neg (show ¬ xs.length + ys.length≤xs.length by omega),hld]
   rw[if_pos ⟨hn,by omega,hone⟩]
  ·have hl2:(E.row (xs++ys)).length=(xs.length + ys.length) * E.size:=by rw[E.fo,List.length_append]
   show aM _ E.size _ (E.row (xs++ys)) (xs++ys).length
   rw[List.length_append]
   refine .slc _ _ _ _ _ (by simp[RM.push]) ?_
   rw[← E.xQ,RM.dx (RM.aQ _) (by omega),List.drop_zero,← hl2,List.take_length]
end
structure oC (TS T:Nat) (B:Nat→Prop) (M:RM) (t:Nat) (ps:List Pt) (es:List aP) : Prop where
 lt:t<M.next
 row:∃ s v,M.heap t=some (.row [.ptr s 0,v] false TS 0)∧(∃ S:Nat→Prop,iA T S M s ps∧∀ d,S d→B d)∧Sl aB M v es∧B s∧∀ d∈aD v,B d
 nb:¬ B t
theorem oC.keep {TS T t:Nat} {B:Nat→Prop} {M M' : RM} {ps:List Pt} {es:List aP} {bs:List Nat} (h:oC TS T B M t ps es) (k:ag bs M M') (ht:t ∉ bs) (hb:∀ d∈bs,¬ B d) : oC TS T B M' t ps es:=by
 obtain⟨s,v,h1,⟨S,h2,h2'⟩,h3,h4,h5⟩:=h.row
 exact⟨Nat.lt_of_lt_of_le h.lt k.next,⟨s,v,k.aN h1 h.lt ht,⟨S,h2.keep k (fun hs=>hb s hs h4) (fun d hd hS=>hb d hd (h2' d hS)),h2'⟩,aM.keep h3 k (fun d hd hm=>hb d hm (h5 d hd)),h4,h5⟩,h.nb⟩
theorem oC.mono {TS T t:Nat} {B B' : Nat→Prop} {M:RM} {ps:List Pt} {es:List aP} (h:oC TS T B M t ps es) (hB:∀ d,B d→B' d) (hn:¬ B' t) : oC TS T B' M t ps es:=by
 obtain⟨s,v,h1,⟨S,h2,h2'⟩,h3,h4,h5⟩:=h.row
 exact⟨h.lt,⟨s,v,h1,⟨S,h2,fun d hd=>hB d (h2' d hd)⟩,h3,hB s h4,fun d hd=>hB d (h5 d hd)⟩,hn⟩
theorem oC.below {TS T t:Nat} {B:Nat→Prop} {M:RM} {ps:List Pt} {es:List aP} (h:oC TS T B M t ps es) : oC TS T (fun d=>B d∧d<M.next) M t ps es:=by
 obtain⟨s,v,h1,⟨S,h2,h2'⟩,h3,h4,h5⟩:=h.row
 exact⟨h.lt,⟨s,v,h1,⟨_,h2.below,fun d hd=>⟨h2' d hd.1,hd.2⟩⟩,h3,⟨h4,h2.lt⟩,fun d hd=>⟨h5 d hd,aM.lt h3 d hd⟩⟩,fun hh=>h.nb hh.1⟩
def Q8 (TS T:Nat) (c:au) : Prop:=∀ {M:RM} {Q:ak},(∀ t M',M.next≤t→oC TS T (fun d=>M.next≤d∧d<t) M' t gu []→ag [] M M'→Q (.ptr t 0) M')→c [] M Q
theorem adA {TS T:Nat} {cn:au} (hn:abw T cn) : Q8 TS T fun args M Q=>args=[]∧acS cn TS M Q:=by
 intro M Q hQ
 refine⟨rfl, ?_⟩
 unfold acS
 refine hn fun M1 h1 k1 n1=>?_
 rw[jI]
 refine⟨[.ptr M.next 0,dV],rfl, ?_⟩
 rw[dL rfl (by simp),bn]
 have k2:ag [] M1 (M1.push (.row [.ptr M.next 0,dV] false TS 0)):=(ag.refl _ _).push _
 refine hQ _ _ (by omega) ⟨by simp[RM.push],⟨M.next,dV,RM.aQ _,⟨fun _=>False,h1.keep k2 (by simp) (by simp),fun d hd=>hd.elim⟩,.nil,⟨Nat.le_refl _,by omega⟩,by simp[aD]⟩,fun h=>by omega⟩ (k1.trans k2)
def oz (ps:List Pt) (ds:List aC) : List Pt:=ds.foldl (fun u d=>(nY u d).2) ps
theorem ZH {ps:List Pt} {ds:List aC} {i:Nat} (h:i<ds.length) : oz ps (ds.take (i + 1))=(nY (oz ps (ds.take i)) ds[i]).2:=by
 rw[List.take_succ_eq_append_getElem h,oz,List.foldl_append]; rfl
theorem aa1 {k:Nat} {ps:List Pt} {d:aC} (h:SI k ps) : SI (k + 1) (nY ps d).2:=⟨by rw[afZ,h.len],amk h.wf,afQ h.few⟩
theorem _root_.Go.Ab.aC.SI.mono {k l:Nat} {ps:List Pt} (h:SI k ps) (hl:k≤l) : SI l ps:=⟨h.len,h.wf,fun p hp=>Nat.le_trans (h.few p hp) hl⟩
theorem zM {k:Nat} : ∀ {ds:List aC} {ps:List Pt},SI k ps→SI (k + ds.length) (oz ps ds)
 | [],ps,h=>h
 | d :: ds,ps,h=>by
   have:=zM (ds:=ds) (aa1 (d:=d) h)
   exact this.mono (by simp; omega)
def jy (e:pG) : aP:=(e.1,(e.2.2.1,(e.2.2.2.1,e.2.2.2.2)))
def jb (ps:List Pt) (es:List aP) (e:pG) (ks:List aC) : List aP :=
 (if decide (e.2.1=1) && !fw ps e.1 then tY jc (es++[jy e]) else es).filter fun x=>!decide (x.1∈ks)
def qc (ps:List Pt) (e:pG) (ks:List aC) : List Pt:=oz ps (e.1 :: ks)
theorem Qq:∀ {ks:List aC} {d:aC} {p:Option aC},jm d p ks=true→∀ k∈ks,good k=true
 | [],_,_,_,k,hk=>by simp at hk
 | x :: ks,d,p,h,k,hk=>by
   simp only[jm,Bool.and_eq_true] at h
   rcases List.mem_cons.1 hk with rfl | hk
   ·exact h.1.1.1
   ·exact Qq h.2 k hk
theorem sH {e:pG} {ks:List aC} (h:dX e ks=true) : good e.1=true∧ks.length≤64∧(∀ k∈ks,good k=true)∧jm e.1 none ks=true∧Et e=true:=by
 simp only[dX,Bool.and_eq_true,decide_eq_true_eq] at h
 exact⟨h.1.1.1.1,h.1.1.2,Qq h.1.2,h.1.2,h.2⟩
theorem aeK (e:pG) : sZ [(N .i64 0),(N .u64 0),(St []),(St []),(St [])] [(0,2,.agg (aO e.1)),(2,1,St e.2.2.1),(3,1,St e.2.2.2.1),(4,1,St e.2.2.2.2)]=some (aB.cells (jy e)):=rfl
def JK (TS T:Nat) (c:au) : Prop:=∀ {M:RM} {t k:Nat} {B:Nat→Prop} {ps:List Pt} {es:List aP} {e:pG} {kv:AV} {ks:List aC} {Q:ak},oC TS T B M t ps es→SI k ps→k + 65≤4000→es.length≤50000→Sl dM M kv ks→t ∉ aD kv →
 (dX e ks=false→∀ M',ag [] M M'→Q (.tup [Bo false,N .i64 1]) M') →
 (dX e ks=true→∀ M',oC TS T (fun d=>B d∨M.next≤d) M' t (qc ps e ks) (jb ps es e ks)→ag [t] M M'→Q (.tup [Bo (!ko (qc ps e ks) ps || !decide (jb ps es e ks=es)),N .i64 0]) M')→c [.ptr t 0,.agg (gH e kv)] M Q
theorem acW {TS T TE TD TN nc nd:Nat} {cG cC cA cH cL cS cD cW cQ:au} {cv:FuncId→au} (hG:wK cG) (hC:Ku T cC) (hA:acU T cA) (hH:VQ T cH) (hL:FH TN cL) (hS:SQ (.fn (.func nc) [] []) jc TN cS)
  (hD:∀ b e kv ks,ks.length≤1000000→NK TN (Jl TE b e kv ks) (fun x=>decide (x.1∈ks)) (.fn (.func nd) [] [.ptr b 0]) cD) (hW:L8 T cW) (hQ' : yf cQ) :
  JK TS T fun args M Q=>∃ a0 a1,args=[a0,a1]∧zR TE cG cC TD cA cH TN cL cS nc nd cD cW cQ a0 a1 M Q:=by
 intro M0 t k B ps es e kv ks Q hst hsi hk hes SY htk hbad hok
 refine⟨_,_,rfl, ?_⟩
 unfold zR
 simp only[gT,gU,fG,ig,dG]
 rw[dL (PN SY) (by simp),bn]
 have k0:ag [] M0 (M0.push (.row (gH e kv) false TE 0)):=(ag.refl _ _).push _
 have h0:(M0.push (.row (gH e kv) false TE 0)).heap M0.next=some (.row (gH e kv) false TE 0):=RM.aQ _
 have hlt:M0.next<(M0.push (.row (gH e kv) false TE 0)).next:=by simp[RM.push]
 have hs:Sl dM (M0.push (.row (gH e kv) false TE 0)) kv ks:=aM.keep SY k0 (by simp)
 have hkl:∀ d∈aD kv,d<M0.next:=aM.lt SY
 have n0:=k0.next
 generalize M0.push (.row (gH e kv) false TE 0)=M at *
 generalize hb0:M0.next=b at *
 rw[dF (n:=7) h0 (by simp[EvE.len]; rfl)]
 refine hG hs fun M1 k1=>?_
 have k01:=k0.trans k1
 rw[bR]
 refine aH (fun hg=>?_) (fun hg=>?_)
 ·exact hbad (by simpa using hg) M1 k01
 have hge:dX e ks=true:=by simpa using hg
 obtain⟨hgd,hkl64,hkg,_,_⟩:=sH hge
 have hok:=hok hge
 have n1:=k1.next
 obtain⟨s,v,r1,⟨S,r2,r2'⟩,r3,r4,r5⟩:=hst.row
 have htl:=hst.lt
 have e1:=k1.aN h0 hlt (by simp)
 have t1:=k01.aN r1 htl (by simp)
 have set1:=(r2.below).keep k01 (by simp) (by simp)
 have slt:=r2.lt
 rw[aG,aS,aj t1 rfl]
 -- the set is copied
 refine hC set1 hsi (by omega) fun s' M2 hs' set2 k2=>?_
 have n2:=k2.next
 have hs'lt:=set2.lt
 have e2:=k2.aN e1 (by omega) (by simp)
 have k02:=k01.trans k2
 rw[aS,DZ e2,lv (x:=.agg (aO e.1)) (size:=2) rfl rfl rfl,bn]
 have k3:ag [] M2 (M2.push (.row (AV.agg (aO e.1)).cells false TD 0)):=(ag.refl _ _).push _
 have l3:(M2.push (.row (AV.agg (aO e.1)).cells false TD 0)).heap M2.next=some (.row (dM.row [e.1]) false TD 0):=by
  rw[RM.aQ]; rfl
 have n3:M2.next<(M2.push (.row (AV.agg (aO e.1)).cells false TD 0)).next:=by simp[RM.push]
 have e3:=k3.aN e2 (by omega) (by simp)
 have Xy:=set2.keep k3 (by simp) (by simp)
 have kv3:Sl dM (M2.push (.row (AV.agg (aO e.1)).cells false TD 0)) kv ks:=aM.keep SY (k02.trans k3) (by simp)
 have k03:=k02.trans k3
 generalize M2.push (.row (AV.agg (aO e.1)).cells false TD 0)=M3 at *
 generalize hb2:M2.next=b2 at *
 rw[aS,aj e3 rfl]
 refine ags (E:=dM) (xs:=[e.1]) (by omega) l3 kv3 (by simp) (by decide) (by simp; omega) (by simp; omega) fun dv M4 hdv hdb k4=>?_
 have hds:(e.1 :: ks).length≤65:=by simp; omega
 have k34:ag [] M3 M4:=k4
 have n4:=k4.next
 have e4:=k4.aN e3 (by omega) (by simp)
 have aAN:=Xy.keep k4 (by simp) (by simp)
 have k04:=k03.trans k4
 have hdv:Sl dM M4 dv (e.1 :: ks):=hdv
 have hdl:=aM.lt hdv
 have hdg:∀ d∈e.1 :: ks,good d=true:=fun d hd=>by
  rcases List.mem_cons.1 hd with rfl | hd
  ·exact hgd
  ·exact hkg d hd
 have azU:s' ∉ aD dv:=fun hm=>by
  rcases hdb s' hm with h | h <;> omega
 generalize hds' : e.1 :: ks=ds at *
 rw[aM.len hdv]
 refine aK (fun m ys M6=>∃ i:Nat,m=ds.length - i∧ys=[N .i64 (i:Int)]∧i≤ds.length∧ag [s'] M4 M6∧iA T (fun e=>s'<e) M6 s' (oz ps (ds.take i))) _ ⟨0,rfl,rfl,Nat.zero_le _,ag.refl _ _,aAN⟩ ?_
 rintro next m ys M6 hnext ⟨i,rfl,rfl,hi,k6,Xp⟩
 dsimp only[aa]
 have ayV:Sl dM M6 dv ds:=aM.keep hdv k6 (fun b hb hm=>by simp at hm; subst hm; exact azU hb)
 have si6:SI (k + (ds.take i).length) (oz ps (ds.take i)):=zM hsi
 have hti:(ds.take i).length≤65:=by rw[List.length_take]; omega
 rw[fM]
 refine aH (fun Xc=>?_) (fun pg=>?_)
 ·have Xc:i<ds.length:=of_decide_eq_true Xc
  rw[tq ayV Xc,bn,iK (n:=2) (x:=.agg (aO ds[i])) (l:=[N .i64 0,N .u64 0]) (RM.aQ _) rfl rfl rfl]
  have k7:ag [] M6 ((M6.push (.row [N .i64 0,N .u64 0] false TD 0)).put M6.next (.row (AV.agg (aO ds[i])).cells false TD 0)):=((ag.refl _ _).push _).new _ (Nat.le_refl _)
  have hk7:((M6.push (.row [N .i64 0,N .u64 0] false TD 0)).put M6.next (.row (AV.agg (aO ds[i])).cells false TD 0)).heap M6.next=some (.row (aO ds[i]) false TD 0):=aR _
  generalize (M6.push (.row [N .i64 0,N .u64 0] false TD 0)).put M6.next (.row (AV.agg (aO ds[i])).cells false TD 0)=M7 at *
  rw[dF (n:=2) hk7 rfl]
  have ayF:=Xp.keep k7 (by simp) (by simp)
  have n7:=k7.next
  have s6:=Xp.lt
  refine hA ayF si6.wf fun M8 azf k8=>?_
  have hgood:=UH (ps:=oz ps (ds.take i)) (d:=ds[i]) (fun p hp=>by have:=si6.few p hp; omega) (hdg _ (List.getElem_mem Xc))
  have h10:(nY (oz ps (ds.take i)) ds[i]).1=0:=by rw[hgood]
  rw[h10,dY,show((0:Int) != 0)=false from rfl,bI,add1 (by omega)]
  refine hnext _ _ _ (by omega) ⟨i + 1,rfl,rfl,by omega,(k6.trans (k7.mono (cs:=[s']) (by simp))).trans k8, ?_⟩
  rw[ZH Xc]
  exact azf.mono (fun d hd=>by rcases hd with hd | hd <;> omega) (by omega)
 have hie:i=ds.length:=by
  have:¬ i<ds.length:=of_decide_eq_false pg
  omega
 subst hie
 rw[List.take_length] at Xp si6
 clear hnext pg
 have az3:oz ps ds=qc ps e ks:=by rw[← hds']; rfl
 rw[az3] at Xp si6
 have si6:=si6.mono (l:=k + 65) (by omega)
 have n6:=k6.next
 have k06:ag [] M0 M6:=k04.aY k6 (fun d hd=>by simp at hd; omega)
 have e6:=k6.aN e4 (by omega) (by simp; omega)
 have t6:=k06.aN r1 htl (by simp)
 have v6:Sl aB M6 v es:=aM.keep r3 k06 (by simp)
 have am4:=(r2.below).keep k06 (by simp) (by simp)
 have kv6:Sl dM M6 kv ks:=aM.keep SY k06 (by simp)
 rw[aG,aF,aj (i:=0 + 1) t6 rfl]
 have avq:=Xp.below
 refine bT (fun zs M'=>∃ (w:AV) (es1:List aP),zs=[w]∧Sl aB M' w es1∧es1.length≤50001∧es1=(if decide (e.2.1=1) && !fw ps e.1 then tY jc (es++[jy e]) else es)∧ag [] M6 M') ?_ ?_
 ·rintro zs M9 ⟨w,es1,rfl,hw,hwl,ayQ,k9⟩
  dsimp only[aa]
  have n9:=k9.next
  refine hL hw (by omega) fun c M10 oc k10=>?_
  have n10:=k10.next
  have RY:=k9.trans k10
  have ais:=k06.trans RY
  have azc:Jl TE b e kv ks M10:=⟨by omega,RY.aN e6 (by omega) (by simp),aM.keep kv6 RY (by simp)⟩
  refine hD b e kv ks (by omega) azc (fun Ma Mb ks' hP kk hsub=>hP.keep kk (fun hm=>by have:=(oc.blk b (hsub b hm)).1; omega) (fun d hd hm=>by have:=hkl d hd; have:=(oc.blk d (hsub d hm)).1; omega)) oc (by omega) fun x M11 hx hxb k11=>?_
  have HY:ag [] M6 M11:=RY.aY k11 (fun d hd=>.inl (by have:=(oc.blk d hd).1; omega))
  have abS:=k06.trans HY
  have bV:=HY.aN t6 (by omega) (by simp)
  have akA:=avq.keep HY (by simp) (by simp)
  have awp:=am4.keep HY (by simp) (by simp)
  have v11:Sl aB M11 v es:=aM.keep v6 HY (by simp)
  rw[aG,aS,aj bV rfl]
  refine hW akA awp (fun p hp=>by have:=si6.few p hp; omega) (fun q hq=>⟨(hsi.wf q hq).1,by have:=hsi.few q hq; omega⟩) fun M12 k12=>?_
  have hxl:(es1.filter fun x=>!decide (x.1∈ks)).length≤es1.length:=List.length_filter_le _ _
  have t12:=k12.aN bV (by have:=HY.next; omega) (by simp)
  have hfin:es1.filter (fun x=>!decide (x.1∈ks))=jb ps es e ks:=by rw[ayQ]; rfl
  rw[hfin] at hx hxl
  rw[bR]
  refine zU (p:=!decide (jb ps es e ks=es)) (fun _ k hk=>?_) ?_
  ·rw[aG,aF,aj (i:=0 + 1) t12 rfl]
   refine hQ' (aM.keep hx k12 (by simp)) (aM.keep v11 k12 (by simp)) (by omega) ?_
   rw[bR]
   exact hk
  have x12:Sl aB M12 x (jb ps es e ks):=aM.keep hx k12 (by simp)
  rw[aG,aS,fU t12 (by simp) rfl rfl,aG,aF]
  rw[fU (aR _) (by simp) (aM.cells x12) (aM.one x12)]
  have kk:ag [t] M12 ((M12.put t (.row ([AV.ptr s 0,v].set 0 (.ptr s' 0)) false TS 0)).put t (.row (([AV.ptr s 0,v].set 0 (.ptr s' 0)).set (0 + 1) x) false TS 0)):=((ag.refl _ _).put _ (.inr (by simp))).put _ (.inr (by simp))
  have hh:((M12.put t (.row ([AV.ptr s 0,v].set 0 (.ptr s' 0)) false TS 0)).put t (.row (([AV.ptr s 0,v].set 0 (.ptr s' 0)).set (0 + 1) x) false TS 0)).heap t=some (.row [.ptr s' 0,x] false TS 0):=aR _
  have hnx:((M12.put t (.row ([AV.ptr s 0,v].set 0 (.ptr s' 0)) false TS 0)).put t (.row (([AV.ptr s 0,v].set 0 (.ptr s' 0)).set (0 + 1) x) false TS 0)).next=M12.next:=rfl
  generalize (M12.put t (.row ([AV.ptr s 0,v].set 0 (.ptr s' 0)) false TS 0)).put t (.row (([AV.ptr s 0,v].set 0 (.ptr s' 0)).set (0 + 1) x) false TS 0)=M13 at *
  have n12:=k12.next
  have n611:=HY.next
  refine hok M13 ⟨by omega,⟨s',x,hh,⟨fun d=>s'<d∧d<M6.next,(akA.keep k12 (by simp) (by simp)).keep kk (by simp; omega) (fun d hd h=>by simp at hd; omega),fun d hd=>.inr (by omega)⟩,aM.keep x12 kk (fun d hd hm=>?_),.inr (by omega),fun d hd=>.inr (by have:=(oc.blk d (hxb d hd)).1; omega)⟩,fun hB=>?_⟩ ((abS.trans k12).mono (by simp) |>.trans kk)
  ·simp at hm
   subst hm
   have:=(oc.blk d (hxb d hd)).1
   omega
  ·rcases hB with hB | hB
   ·exact hst.nb hB
   ·omega
 intro J hJ
 have e2v:∀ {M' : RM},ag [] M6 M'→M'.heap b=some (.row (gH e kv) false TE 0):=fun k=>k.aN e6 (by omega) (by simp)
 have op1:((e.2.1:Int) == 1)=decide (e.2.1=1):=by by_cases h:e.2.1=1 <;> simp[h]
 rw[aS,aj e6 rfl,bU,op1]
 refine EI (P:=fun M'=>ag [] M6 M') (p:=!fw ps e.1) (ag.refl _ _) (fun _ k hk=>?_) fun M7 k7=>?_
 ·rw[aG,aS,aj t6 rfl,aS,DZ e6]
  refine hH am4 (fun q hq=>⟨(hsi.wf q hq).1,by have:=hsi.few q hq; omega⟩) fun M7 k7=>?_
  rw[bR]
  exact hk M7 k7
 refine aH (fun hc=>?_) (fun hc=>?_)
 ·have e7:=e2v k7
  rw[aS,DZ e7,aS,aj e7 rfl,aS,aj e7 rfl,aS,aj e7 rfl,jI]
  refine⟨_,aeK e, ?_⟩
  rw[lv (x:=.agg (aB.cells (jy e))) (size:=5) rfl rfl rfl,ku]
  have k8:ag [] M7 (M7.push (.row (AV.agg (aB.cells (jy e))).cells false TN 0)):=(ag.refl _ _).push _
  have h8:(M7.push (.row (AV.agg (aB.cells (jy e))).cells false TN 0)).heap M7.next=some (.row (aB.cells (jy e)) false TN 0):=RM.aQ _
  have n8:M7.next<(M7.push (.row (AV.agg (aB.cells (jy e))).cells false TN 0)).next:=by simp[RM.push]
  generalize M7.push (.row (AV.agg (aB.cells (jy e))).cells false TN 0)=M8 at *
  generalize hb7:M7.next=b7 at *
  have k68:=k7.trans k8
  refine hL (aM.keep v6 k68 (by simp)) (by omega) fun c M9 oc k9=>?_
  have k69:=k68.trans k9
  have e9:=e2v k69
  have n9:=k9.next
  rw[DZ e9]
  refine⟨rfl, ?_⟩
  rw[aj e9 rfl]
  refine⟨rfl, ?_⟩
  rw[aj e9 rfl]
  refine⟨rfl, ?_⟩
  rw[aj e9 rfl]
  refine⟨rfl, ?_⟩
  rw[lv (x:=.agg (aB.cells (jy e))) (size:=5) rfl rfl rfl,ad2]
  have h9:=k9.aN h8 n8 (by simp)
  refine⟨⟨h9,rfl⟩, ?_⟩
  have slx:Sl aB M9 (.slc b7 0 1 (.ex 1)) [jy e]:=by
   refine .slc _ _ _ _ _ (by omega) ?_
   rw[RM.dx h9 (by rw[aB.len]; decide),List.drop_zero,Enc.row_one]
   have:(aB.cells (jy e)).length=1 * aB.size:=by rw[aB.len,Nat.one_mul]
   rw[← this,List.take_length]
  refine uy (E:=aB) oc n9 (by decide) slx (by simp; omega) (by simp; omega) fun c2 M10 oc2 k10 n10 _=>?_
  have RY:ag [] M6 M10:=k69.aY k10 (fun d hd=>.inl (by have:=(oc.blk d hd).1; have:=k68.next; omega))
  refine hS oc2 (by simp; omega) fun M11 oc3 k11=>?_
  have HY:ag [] M6 M11:=RY.aY k11 (fun d hd=>.inl (by have:=(oc2.blk d hd).1; have:=k68.next; omega))
  have hsl:(tY jc (es++[jy e])).length=(es++[jy e]).length:=(tZ kg _).length_eq
  exact hJ _ _ ⟨c2,_,rfl,oc3.fu,by rw[hsl]; simp; omega,by rw[if_pos hc],HY⟩
 ·exact hJ _ _ ⟨v,es,rfl,aM.keep v6 k7 (by simp),by omega,by rw[if_neg (by rw[hc]; decide)],k7⟩
abbrev Ev:=pG × List aC
def lY:sJ Ev:=sJ.pre EvE (dM.Cf.slice)
theorem yY {M:RM} {v:AV} {l:List Ev} {S:Nat→Prop} (h:gD lY M v l S) {i:Nat} (hi:i<l.length) :
  ∃ b o kv,(∀ (kd:IntKind) (K:AV→Prop),ax v (N kd (i:Int)) 7 K=K (.ptr b o))∧(∀ K:AV→Prop,aI M (.ptr b o) 7 K=K (.agg (gH l[i].1 kv)))∧(∀ K:AV→Prop,aI M (.ptr b o) 2 K=K (.agg (aO l[i].1.1)))∧Sl dM M kv l[i].2∧∀ d∈aD kv,S d:=by
 obtain⟨b,o,cs,_,_,hidx,hld,ds,hcs,kv,hds,hkv⟩:=h.at (i:=i) 7 (i:Int) hi rfl rfl
 subst hds
 subst hcs
 refine⟨b,o,kv,hidx,fun K=>?_,fun K=>?_,gD.sl hkv, ?_⟩
 ·rw[fZ,hld]
  simp
 ·have e2:(gH l[i].1 kv).take 2=aO l[i].1.1:=rfl
  rw[fZ,tT hld 2 (by decide),e2]
  simp
 ·obtain⟨_,_,h2,_⟩:=hkv
  exact h2
theorem afu {M:RM} {e:pG} {kv:AV} {ks:List aC} {S:Nat→Prop} (h:Sl dM M kv ks) (hS:∀ d∈aD kv,S d) : lY.rel M (gH e kv) (e,ks) S:=⟨[kv],rfl,kv,rfl,gD.ajV h hS⟩
def Oc (TS T TN:Nat) (c:au) : Prop:=∀ {M:RM} {t:Nat} {B:Nat→Prop} {ps:List Pt} {es:List aP} {Q:ak},oC TS T B M t ps es→es.length≤1000000→(∀ v M',Ow aB M' M.next TN v es→ag [] M M'→Q v M')→c [.ptr t 0] M Q
theorem XZ {TS T TN:Nat} {cL:au} (hL:FH TN cL) : Oc TS T TN fun args M Q=>∃ a0,args=[a0]∧xB cL a0 M Q:=by
 intro M t B ps es Q h hl hQ
 refine⟨_,rfl, ?_⟩
 unfold xB
 obtain⟨s,v,r1,_,r3,_,_⟩:=h.row
 rw[aG,aF,aj (i:=0 + 1) r1 rfl]
 exact hL r3 hl hQ
def mW (out:List Ev) (x:Ev) : List Ev:=if !(!dX x.1 x.2 || out.any fun y=>decide (y.1.1=x.1.1)) then out++[x] else out
def nC (l:List Ev) : List Ev:=l.foldl mW []
theorem DN {l:List Ev} {i:Nat} (h:i<l.length) : nC (l.take (i + 1))=mW (nC (l.take i)) l[i]:=by
 rw[List.take_succ_eq_append_getElem h,nC,List.foldl_append]; rfl
theorem ZP (out:List Ev) (x:Ev) : (mW out x).length≤out.length + 1:=by
 unfold mW; split <;> simp
theorem Bl (l:List Ev) : ∀ i,(nC (l.take i)).length≤i
 | 0=>Nat.le_refl _
 | i + 1=>by
   by_cases h:i<l.length
   ·rw[DN h]
    have:=Bl l i
    have:=ZP (nC (l.take i)) l[i]
    omega
   ·rw[List.take_of_length_le (by omega)]
    have:=Bl l i
    rw[List.take_of_length_le (by omega)] at this
    omega
theorem Vb:∀ (l:List Ev) (out:List Ev),(∀ x∈out,dX x.1 x.2=true)→∀ x∈l.foldl mW out,dX x.1 x.2=true
 | [],out,h=>h
 | y :: l,out,h=>Vb l (mW out y) fun x hx=>by
   unfold mW at hx
   split at hx
   ·rename_i hc
    rcases List.mem_append.1 hx with hx | hx
    ·exact h x hx
    ·simp only[List.mem_singleton] at hx
     subst hx
     simp only[Bool.not_eq_true',Bool.or_eq_false_iff,Bool.not_eq_false'] at hc
     exact hc.1
   ·exact h x hx
def af6 (TE:Nat) (c:au) : Prop:=∀ {M:RM} {v:AV} {l:List Ev} {Q:ak},gD lY M v l (fun d=>d<M.next)→l.length≤10000 →
 (∀ v' M',gD lY M' v' (nC l) (fun d=>d<M'.next)→ag [] M M'→Q v' M')→c [v] M Q
theorem aix {TE:Nat} {cG:au} (hG:wK cG) : af6 TE fun args M Q=>∃ a0,args=[a0]∧adW TE cG a0 M Q:=by
 intro M v l Q hv hl hQ
 refine⟨_,rfl, ?_⟩
 unfold adW
 simp only[gT,gU,fG,dG]
 refine⟨_,_,_,_,rfl,rfl,by decide,by decide,by decide,by decide, ?_⟩
 dsimp only
 rw[bn]
 have kM:ag [] M (M.push (.row (bW [(N .i64 0),(N .u64 0),(N .i64 0),(St []),(St []),(St []),(.sc (.slice none 0 0))] 0) false TE 0)):=(ag.refl _ _).push _
 have oM:mE lY (M.push (.row (bW [(N .i64 0),(N .u64 0),(N .i64 0),(St []),(St []),(St []),(.sc (.slice none 0 0))] 0) false TE 0)) M.next TE (.slc M.next 0 0 (.ex 0)) [] (fun d=>d<M.next):=⟨[],Own.lit M (Nat.le_refl _),.nil⟩
 refine aK (fun m ys M3=>∃ (i:Nat) (w:AV),m=l.length - i∧ys=[w,N .i64 (i:Int)]∧i≤l.length∧ag [] M M3∧mE lY M3 M.next TE w (nC (l.take i)) (fun d=>d<M.next)) _ ⟨0,_,rfl,rfl,Nat.zero_le _,kM,oM⟩ ?_
 rintro next m ys M3 hnext ⟨i,w,rfl,rfl,hi,k3,ow⟩
 dsimp only[aa]
 have hv3:gD lY M3 v l (fun d=>d<M.next):=hv.keep k3 (by simp)
 have n3:=k3.next
 rw[hv3.len,fM]
 refine aH (fun hlt=>?_) (fun hge=>?_)
 ·have hlt:i<l.length:=of_decide_eq_true hlt
  refine bT (fun zs M'=>∃ w',zs=[w']∧ag [] M M'∧mE lY M' M.next TE w' (nC (l.take (i + 1))) (fun d=>d<M.next)) ?_ ?_
  ·rintro zs M' ⟨w',rfl,k',o'⟩
   dsimp only[aa]
   rw[add1 (by omega)]
   exact hnext _ _ _ (by omega) ⟨i + 1,w',rfl,rfl,by omega,k',o'⟩
  intro J hJ
  rw[DN hlt] at hJ
  have hol:=Bl l i
  obtain⟨b,o,kv,hidx,hl7,hl2,hkv,hkb⟩:=yY hv3 hlt
  rw[hidx,hl7]
  refine hG hkv fun M4 k4=>?_
  rw[bR]
  have ow4:=ow.keep k4 (by simp) (by simp)
  generalize nC (l.take i)=out at *
  have k34:=k3.trans k4
  have n4:=k34.next
  have hv4:gD lY M4 v l (fun d=>d<M.next):=hv.keep k34 (by simp)
  have owS:gD lY M4 w out (fun d=>d<M4.next):=(ow4.mono (fun d hd=>by omega)).slD (fun d _ h=>h)
  obtain⟨b4,o4,kv4,Ec,WH,ayj,Uk,aAl⟩:=yY hv4 hlt
  refine aK (fun m ys M5=>∃ j:Nat,m=out.length - j∧ys=[Bo (!dX l[i].1 l[i].2 || (out.take j).any fun y=>decide (y.1.1=l[i].1.1)),N .i64 (j:Int)]∧j≤out.length∧M5=M4) _ ⟨0,rfl,by simp,Nat.zero_le _,rfl⟩ ?_
  rintro jv m ys M5 dQ ⟨j,rfl,rfl,hj,rfl⟩
  dsimp only[aa]
  rw[owS.len,fM]
  refine aH (fun hlt2=>?_) (fun pg=>?_)
  ·have hlt2:j<out.length:=of_decide_eq_true hlt2
   obtain⟨b5,o5,kv5,rA,aed,azH,_,_⟩:=yY owS hlt2
   refine orP (P:=fun M'=>M'=M5) (p:=decide (out[j].1.1=l[i].1.1)) rfl (fun _ k hk=>?_) fun M' hM'=>?_
   ·rw[rA,aF,Nat.add_zero,azH,Ec,aF,Nat.add_zero,ayj,qz rfl rfl (Co _ _),Bool.bne_false]
    exact hk M5 rfl
   subst hM'
   rw[add1 (by omega)]
   refine dQ _ _ _ (by omega) ⟨j + 1,rfl, ?_,by omega,rfl⟩
   rw[List.take_succ_eq_append_getElem hlt2,List.any_append,List.any_cons,List.any_nil,Bool.or_false,Bool.or_assoc]
  ·have hje:j=out.length:=by
    have:¬ j<out.length:=of_decide_eq_false pg
    omega
   subst hje
   rw[List.take_length,bR]
   refine aH (fun hc=>?_) (fun hc=>?_)
   ·rw[Ec,WH,lv (x:=.agg (gH l[i].1 kv4)) (size:=7) rfl (PN Uk) rfl,bn]
    have hd:=ow4.blk
    refine mE.app (R:=lY) ow4 (afu Uk aAl) (by omega) (by decide) (fun d hd' h=>by have:=(hd d hd').1; omega) (fun d h=>by omega) (by omega) (by omega) ?_
    intro w' M6 o6 k6 n6 _ _
    refine hJ _ _ ⟨w',rfl,k34.aY k6 (fun d hd'=>.inl (hd d hd').1), ?_⟩
    rw[mW,if_pos hc]
    exact o6
   ·refine hJ _ _ ⟨w,rfl,k34, ?_⟩
    rw[mW,if_neg (by rw[hc]; decide)]
    exact ow4
 ·have he:i=l.length:=by
   have:¬ i<l.length:=of_decide_eq_false hge
   omega
  subst he
  rw[List.take_length] at ow
  exact hQ w M3 ((ow.mono (fun d hd=>by omega)).slD (fun d _ h=>h)) k3
theorem aeB {k:Nat} {ps:List Pt} {d e:aC} (h:SI k ps) (hk:k<4096) (hg:good d=true) : fw (nY ps d).2 e=true↔fw ps e=true∨e=d:=by
 have hl:∀ p∈ps,p.2.length<4096:=fun p hp=>by have:=h.few p hp; omega
 rw[fw,fw,Bool.and_eq_true,Bool.and_eq_true,ahW h.len h.wf hl hg]
 constructor
 ·rintro⟨h1,h2 | ⟨h2,h3⟩⟩
  ·exact .inl ⟨h1,h2⟩
  ·refine .inr (Prod.ext ?_ h3)
   have:=(vS h1).1
   have:=(vS hg).1
   omega
 ·rintro(⟨h1,h2⟩ | rfl)
  ·exact⟨h1,.inl h2⟩
  ·exact⟨hg,.inr ⟨rfl,rfl⟩⟩
theorem ML {e:aC} : ∀ {ds:List aC} {ps:List Pt} {k:Nat},SI k ps→k + ds.length<4096→(∀ d∈ds,good d=true)→(fw (oz ps ds) e=true↔fw ps e=true∨e∈ds)
 | [],ps,k,h,hk,hg=>by simp[oz]
 | d :: ds,ps,k,h,hk,hg=>by
   have:oz ps (d :: ds)=oz (nY ps d).2 ds:=rfl
   rw[this,ML (aa1 h) (by simp at hk; omega) (fun x hx=>hg x (by simp[hx])),aeB h (by simp at hk; omega) (hg d (by simp)),List.mem_cons]
   constructor
   ·rintro((h | h) | h)
    ·exact .inl h
    ·exact .inr (.inl h)
    ·exact .inr (.inr h)
   ·rintro(h | h | h)
    ·exact .inl (.inl h)
    ·exact .inl (.inr h)
    ·exact .inr h
theorem abx (ps:List Pt) (es:List aP) (e:pG) (ks:List aC) : (jb ps es e ks).length≤es.length + 1:=by
 unfold jb
 refine Nat.le_trans (List.length_filter_le _ _) ?_
 split
 ·rw[(tZ kg _).length_eq]; simp
 ·omega
structure aBa (i:Nat) (ps:List Pt) (es:List aP) (dead:List aC) : Prop where
 si:SI (65 * i) ps
 few:es.length≤i
 dl:dead.length≤64 * i
 seen:∀ d∈dead,fw ps d=true
 gone:∀ x∈es,x.1 ∉ dead
theorem ahJ (n:Int) : ∃ m:Nat,m≤1023∧JU .i64 n 1023=(m:Int):=by
 unfold JU
 refine⟨(BitVec.ofInt 64 n &&& BitVec.ofInt 64 1023).toNat, ?_, ?_⟩
 ·rw[BitVec.toNat_and]
  exact Nat.le_trans Nat.and_le_right (by decide)
 ·have:(BitVec.ofInt 64 n &&& BitVec.ofInt 64 1023).toNat≤1023:=by
   rw[BitVec.toNat_and]
   exact Nat.le_trans Nat.and_le_right (by decide)
  exact bE (by omega) (by show((BitVec.ofInt 64 n &&& BitVec.ofInt 64 1023).toNat:Int)<9223372036854775808; omega)
def keq (x y:aP) : Bool:=decide (x.2.1=y.2.1∧x.2.2.1=y.2.2.1∧x.1=y.1)
theorem Lu {α β:Type} [DecidableEq β] {k:α→β} {lt1:β→β→Bool} {lt2:α→α→Bool} (h:LO lt1) {x y:α} (h1:lex k lt1 lt2 x y=false) (h2:lex k lt1 lt2 y x=false) : k x=k y∧lt2 x y=false∧lt2 y x=false:=by
 unfold lex at h1 h2
 rw[Bool.or_eq_false_iff] at h1 h2
 have e:=h.tri _ _ h1.1 h2.1
 have a:=h1.2
 have b:=h2.2
 rw[e,decide_eq_true rfl,Bool.true_and] at a b
 exact⟨e,a,b⟩
theorem aaZ {x y:aP} (h1:jc x y=false) (h2:jc y x=false) : keq x y=true:=by
 obtain⟨e1,a1,b1⟩:=Lu Cx h1 h2
 obtain⟨e2,a2,b2⟩:=Lu Cx a1 b1
 obtain⟨e3,a3,b3⟩:=Lu Qi a2 b2
 obtain⟨e4,_,_⟩:=Lu PW a3 b3
 exact decide_eq_true ⟨e1,e2,Prod.ext e4 e3⟩
def zB (xs:List aP) : Prop:=xs.Pairwise fun x y=>jc y x=false
theorem zB.at {xs:List aP} (h:zB xs) {i j:Nat} (hij:i≤j) (hj:j<xs.length) : jc xs[j] (xs[i]'(by omega))=false:=by
 rcases Nat.lt_or_ge i j with h1 | h1
 ·exact(List.pairwise_iff_getElem.1 h) i j (by omega) hj h1
 ·have:i=j:=by omega
  subst this
  exact kg.irrefl _
theorem PQ {k:Nat} {ps:List Pt} (h:SI k ps) (hk:k≤4096) : ∀ q∈ps,Asc q.2∧q.2.length≤1000000:=fun q hq=>⟨(h.wf q hq).1,by have:=h.few q hq; omega⟩
theorem aeN {M:RM} {size n:Nat} {v:AV} {cs:List AV} (h:aM M size v cs n) : known v=true:=by
 cases h <;> rfl
theorem akx {M:RM} {c p:Bool} {f:ak→Prop} {P:RM→Prop} {G:AV→RM→Prop} (h0:P M) (hf:c=true→∀ k:ak,(∀ M',P M'→k (Bo p) M')→f k) (hG:∀ M',P M'→G (Bo (c && p)) M') :
  ah (Bo c) true f (fun k=>k .undef M) (fun t M'=>aJ (Bo c) t (Bo false) fun u=>G u M'):=by
 cases c with
 | false=>rw[bM]; dsimp only; rw[bz]; exact hG M h0
 | true=>rw[bK]; exact hf rfl _ fun M' h=>by rw[bO]; exact hG M' h
def acb (TS T:Nat) (c:au) : Prop:=∀ {M:RM} {t k:Nat} {B:Nat→Prop} {ps:List Pt} {es:List aP} {Q:ak},oC TS T B M t ps es→SI k ps→k≤4096 →
 (∀ a M',M.next≤a→iA T (fun e=>a<e) M' a ps→ag [] M M'→Q (.ptr a 0) M')→c [.ptr t 0] M Q
theorem afh {TS T:Nat} {cc:au} (hc:Ku T cc) : acb TS T fun args M Q=>∃ a0,args=[a0]∧CE cc a0 M Q:=by
 intro M t k B ps es Q h hi hk hQ
 refine⟨_,rfl, ?_⟩
 unfold CE
 obtain⟨s,v,r1,⟨S,r2,_⟩,_,_,_⟩:=h.row
 rw[aG,aS,aj r1 rfl]
 exact hc r2 hi hk hQ
def Sa (TS T:Nat) (c:au) : Prop:=∀ {M:RM} {t k:Nat} {B:Nat→Prop} {ps:List Pt} {es:List aP} {Q:ak},oC TS T B M t ps es→SI k ps→k≤4096→es.length≤1000000 →
 (∀ a M',M.next≤a→oC TS T (fun d=>M.next≤d∧d<a) M' a ps es→ag [] M M'→Q (.ptr a 0) M')→c [.ptr t 0] M Q
theorem Z8 {TS T TN:Nat} {cc cl:au} (hc:Ku T cc) (hL:FH TN cl) : Sa TS T fun args M Q=>∃ a0,args=[a0]∧Bq cc cl TS a0 M Q:=by
 intro M t k B ps es Q h hi hk hl hQ
 refine⟨_,rfl, ?_⟩
 unfold Bq
 obtain⟨s,v,r1,⟨S,r2,_⟩,r3,_,_⟩:=h.row
 rw[aG,aS,aj r1 rfl,aG,aF,aj (i:=0 + 1) r1 rfl]
 refine hc r2 hi hk fun a M1 ha h1 k1=>?_
 rw[aj (i:=0 + 1) (k1.aN r1 h.lt (by simp)) rfl]
 refine⟨rfl, ?_⟩
 have hb1:=h1.below
 have alt:=h1.lt
 refine hL (aM.keep r3 k1 (by simp)) hl fun v' M2 h2 k2=>?_
 have n1:=k1.next
 have n2:=k2.next
 rw[jI]
 refine⟨[.ptr a 0,v'],aey rfl rfl (aeN h2.fu) (aM.cells h2.fu), ?_⟩
 rw[dL (by show(oneCell (.ptr a 0) && (oneCell v' && true))=true; rw[aM.one h2.fu]; rfl) (by simp),ku]
 have k3:ag [] M2 (M2.push (.row [.ptr a 0,v'] false TS 0)):=(ag.refl _ _).push _
 refine hQ _ _ (by omega) ⟨by simp[RM.push],⟨a,v',RM.aQ _,⟨_,(hb1.keep k2 (by simp) (by simp)).keep k3 (by simp) (by simp),fun d hd=>⟨by omega,by omega⟩⟩,aM.keep h2.fu k3 (by simp),⟨by omega,by omega⟩,fun d hd=>?_⟩,fun hh=>by omega⟩ ((k1.trans k2).trans k3)
 have:=h2.blk d hd
 exact⟨by omega,by omega⟩
def SN (TS T:Nat) (c:au) : Prop:=∀ {M:RM} {t u k l:Nat} {B C:Nat→Prop} {ps qs:List Pt} {es fs:List aP} {Q:ak},oC TS T B M t ps es→oC TS T C M u qs fs→SI k ps→SI l qs→k≤4096→l≤4096→es.length≤1000000 →
 (∀ M',ag [] M M'→Q (Bo ((decide (es=fs) && ko ps qs) && ko qs ps)) M')→c [.ptr t 0,.ptr u 0] M Q
theorem Z7 {TS T:Nat} {ce cw:au} (he:yf ce) (hW:L8 T cw) : SN TS T fun args M Q=>∃ a0 a1,args=[a0,a1]∧Cm ce cw a0 a1 M Q:=by
 intro M t u k l B C ps qs es fs Q h g hi gi hk gk hl hQ
 refine⟨_,_,rfl, ?_⟩
 unfold Cm
 simp only[gT,gU,fG,ig,dG]
 obtain⟨s,v,r1,⟨S,r2,_⟩,r3,_,_⟩:=h.row
 obtain⟨s',v',q1,⟨S',q2,_⟩,q3,_,_⟩:=g.row
 rw[aG,aF,aj (i:=0 + 1) r1 rfl,aG,aF,aj (i:=0 + 1) q1 rfl]
 refine he r3 q3 hl ?_
 refine akx (P:=fun M'=>ag [] M M') (p:=ko ps qs) (ag.refl _ _) (fun _ k hk'=>?_) fun M1 k1=>?_
 ·rw[aG,aS,aj r1 rfl,aG,aS,aj q1 rfl]
  exact hW r2 q2 (fun p hp=>(PQ hi hk p hp).2) (PQ gi gk) fun M' k'=>hk' M' k'
 refine akx (P:=fun M'=>ag [] M1 M') (p:=ko qs ps) (ag.refl _ _) (fun _ k hk'=>?_) fun M2 k2=>?_
 ·rw[aG,aS,aj (k1.aN q1 g.lt (by simp)) rfl,aG,aS,aj (k1.aN r1 h.lt (by simp)) rfl]
  exact hW (q2.keep k1 (by simp) (by simp)) (r2.keep k1 (by simp) (by simp)) (fun p hp=>(PQ gi gk p hp).2) (PQ hi hk) fun M' k'=>hk' M' k'
 exact hQ M2 (k1.trans k2)
abbrev mR:=List Pt × List aP
def tJ (s:mR) (x:Ev) : mR:=if dX x.1 x.2 then(qc s.1 x.1 x.2,jb s.1 s.2 x.1 x.2) else s
def nI (l:List Ev) : mR:=l.foldl tJ (gu,[])
theorem Km (l:List Ev) (x:Ev) : nI (l++[x])=tJ (nI l) x:=by rw[nI,List.foldl_append]; rfl
structure MF (i:Nat) (s:mR) : Prop where
 si:SI (65 * i) s.1
 few:s.2.length≤i
 up:zB s.2
theorem Vh {ps:List Pt} {es:List aP} {e:pG} {ks:List aC} (h:zB es) : zB (jb ps es e ks):=by
 unfold jb
 refine List.Pairwise.filter _ ?_
 split
 ·exact af3 kg _
 ·exact h
theorem MF.step {i:Nat} {s:mR} (h:MF i s) (x:Ev) : MF (i + 1) (tJ s x):=by
 unfold tJ
 split
 ·rename_i hg
  obtain⟨_,g2,_,_,_⟩:=sH hg
  refine⟨(zM h.si).mono (by simp; omega), ?_,Vh h.up⟩
  have:=abx s.1 s.2 x.1 x.2
  have:=h.few
  show(jb s.1 s.2 x.1 x.2).length≤i + 1
  omega
 ·exact⟨h.si.mono (by omega),by have:=h.few; omega,h.up⟩
theorem MF.empty:MF 0 (gu,[]):=⟨Ct,Nat.le_refl _,.nil⟩
theorem W9:∀ (l:List Ev),MF l.length (nI l):=fun l=>by
 suffices h:∀ (l:List Ev) (i:Nat) (s:mR),MF i s→MF (i + l.length) (l.foldl tJ s) by
  have:=h l 0 _ MF.empty
  rwa [Nat.zero_add] at this
 intro l
 induction l with
 | nil=>intro i s h; exact h
 | cons x l ih =>
   intro i s h
   have:=ih (i + 1) (tJ s x) (h.step x)
   rwa [show i + 1 + l.length=i + (x :: l).length by simp; omega] at this
def wY (n m:Nat) (back:Bool) (i:Nat) : Nat:=if back then n - 1 - (i + m) % n else(i + m) % n
theorem wh {n m i:Nat} {back:Bool} (h:i<n) : wY n m back i<n:=by
 have:=Nat.mod_lt (i + m) (show 0<n by omega)
 unfold wY; split <;> omega
def nV (l:List Ev) (m:Nat) (back:Bool) : List Ev:=(List.range l.length).map fun i=>l.getD (wY l.length m back i) (((0,0),(0,([],([],[])))),[])
theorem sP (l:List Ev) (m:Nat) (back:Bool) : (nV l m back).length=l.length:=by simp[nV]
theorem Fw {l:List Ev} {m:Nat} {back:Bool} {i:Nat} (h:i<l.length) : (nV l m back)[i]'(by rw[sP]; exact h)=l[wY l.length m back i]'(wh h):=by
 simp only[nV,List.getElem_map,List.getElem_range]
 rw[List.getD_eq_getElem?_getD,List.getElem?_eq_getElem (wh h)]; rfl
theorem afx {l:List Ev} {m:Nat} {back:Bool} {i:Nat} (h:i<l.length) : nI ((nV l m back).take (i + 1))=tJ (nI ((nV l m back).take i)) (l[wY l.length m back i]'(wh h)):=by
 rw[List.take_succ_eq_append_getElem (by rw[sP]; exact h),Km,Fw h]
def Rc (TS T:Nat) (c:au) : Prop:=∀ {M:RM} {v:AV} {l:List Ev} {n:Int} {m:Nat} {back:Bool} {Q:ak},gD lY M v l (fun d=>d<M.next)→l.length≤60→JU .i64 n 1023=(m:Int)→m≤1023 →
 (∀ t M',M.next≤t→oC TS T (fun d=>M.next≤d∧d<M'.next∧d≠t) M' t (nI (nV l m back)).1 (nI (nV l m back)).2→ag [] M M'→Q (.ptr t 0) M')→c [v,N .i64 n,Bo back] M Q
theorem acx {TS T:Nat} {cn cA:au} (hn:Q8 TS T cn) (hA:JK TS T cA) : Rc TS T fun args M Q=>∃ a0 a1 a2,args=[a0,a1,a2]∧Tv cn cA a0 a1 a2 M Q:=by
 intro M v l n m back Q hv hl hm hm2 hQ
 refine⟨_,_,_,rfl, ?_⟩
 unfold Tv
 simp only[gT,gU,fG,ig,dG]
 refine hn fun t M1 ht st1 k1=>?_
 refine aK (fun z ys M3=>∃ i:Nat,z=l.length - i∧ys=[N .i64 (i:Int)]∧i≤l.length∧ag [] M M3∧oC TS T (fun d=>M.next≤d∧d<M3.next∧d≠t) M3 t (nI ((nV l m back).take i)).1 (nI ((nV l m back).take i)).2) _
  ⟨0,rfl,rfl,Nat.zero_le _,k1,(st1.mono (B':=fun d=>M.next≤d∧d≠t) (fun d hd=>⟨hd.1,by omega⟩) (fun h=>h.2 rfl)).below.mono (fun d hd=>⟨hd.1.1,hd.2,hd.1.2⟩) (fun h=>h.2.2 rfl)⟩ ?_
 rintro next z ys M3 hnext ⟨i,rfl,rfl,hi,k3,st3⟩
 dsimp only[aa]
 have hv3:gD lY M3 v l (fun d=>d<M.next):=hv.keep k3 (by simp)
 rw[hv3.len,fM]
 refine aH (fun hlt=>?_) (fun hge=>?_)
 ·have hlt:i<l.length:=of_decide_eq_true hlt
  have n3:=k3.next
  refine bT (fun zs M'=>zs=[]∧ag [] M M'∧oC TS T (fun d=>M.next≤d∧d<M'.next∧d≠t) M' t (nI ((nV l m back).take (i + 1))).1 (nI ((nV l m back).take (i + 1))).2) ?_ ?_
  ·rintro zs M' ⟨rfl,k',st'⟩
   rw[add1 (by omega)]
   exact hnext _ _ _ (by omega) ⟨i + 1,rfl,rfl,by omega,k',st'⟩
  intro J hJ
  rw[Gx,hm,addN (by omega),hv3.len,YZ]
  refine⟨by omega, ?_⟩
  rw[show(((i + m:Nat) : Int)).tmod (l.length:Int)=(((i + m) % l.length:Nat) : Int) by rw[Int.tmod_eq_emod_of_nonneg (by omega)]; rfl]
  have hj:(i + m) % l.length<l.length:=Nat.mod_lt _ (by omega)
  have hI:MF i (nI ((nV l m back).take i)):=by
   have:=W9 ((nV l m back).take i)
   rwa [List.length_take,sP,Nat.min_eq_left hi] at this
  have htk:=afx (m:=m) (back:=back) hlt
  have hil:=wh (n:=l.length) (m:=m) (i:=i) (back:=back) hlt
  refine bT (fun zs M'=>zs=[N .i64 ((wY l.length m back i:Nat) : Int)]∧M'=M3) ?_ ?_
  ·rintro zs M' ⟨rfl,rfl⟩
   dsimp only[aa]
   rw[htk] at hJ
   clear htk
   generalize nI ((nV l m back).take i)=s at *
   obtain⟨b,o,kv,hidx,hl7,_,hkv,hkb⟩:=yY hv3 hil
   rw[hidx,hl7]
   generalize l[wY l.length m back i]'hil=x at *
   have hne:t ∉ aD kv:=fun h=>by have:=hkb t h; omega
   refine hA st3 hI.si (by omega) (by have:=hI.few; omega) hkv hne (fun hb M4 k4=>?_) (fun hg M4 st4 k4=>?_)
   ·refine hJ [] M4 ⟨rfl,k3.trans k4, ?_⟩
    unfold tJ
    rw[if_neg (by rw[hb]; decide)]
    have n4:=k4.next
    exact(st3.keep k4 (by simp) (by simp)).mono (fun d hd=>⟨hd.1,by omega,hd.2.2⟩) (fun h=>h.2.2 rfl)
   ·refine hJ [] M4 ⟨rfl,k3.aY k4 (fun d hd=>by simp at hd; omega), ?_⟩
    unfold tJ
    rw[if_pos hg]
    have lt3:=st3.lt
    have n4:=k4.next
    refine(st4.below.mono (B':=fun d=>M.next≤d∧d<M4.next∧d≠t) (fun d hd=>?_) (fun h=>h.2.2 rfl))
    obtain⟨h | h,h'⟩:=hd
    ·exact⟨h.1,h',h.2.2⟩
    ·exact⟨by omega,h',by omega⟩
  ·intro J2 hJ2
   cases back with
   | true =>
     rw[dC,hv3.len,dI (by omega) (by omega),iV (by omega) (by omega)]
     exact hJ2 _ _ ⟨rfl,rfl⟩
   | false =>
     rw[bI]
     exact hJ2 _ _ ⟨rfl,rfl⟩
 ·have he:i=l.length:=by
   have:¬ i<l.length:=of_decide_eq_false hge
   omega
  subst he
  rw[List.take_of_length_le (by rw[sP]; exact Nat.le_refl _)] at st3
  exact hQ t M3 ht st3 k3
theorem MO {α:Type} {p:α→Bool} {l:List α} {i:Nat} (h:i<l.length) : (l.take (i + 1)).filter p=(l.take i).filter p++(if p l[i] then[l[i]] else[]):=by
 rw[List.take_succ_eq_append_getElem h,List.filter_append,List.filter_cons,List.filter_nil]
theorem QP {α:Type} (p:α→Bool) (l:List α) (i:Nat) : ((l.take i).filter p).length≤i:=Nat.le_trans (List.length_filter_le _ _) (by rw[List.length_take]; omega)
theorem tQ (x:aP) : (aB.cells x).all oneCell=true:=rfl
theorem aeJ {M:RM} {b T:Nat} {x:aP} {p:Bool} (h:M.heap b=some (.row (aB.cells x) p T 0)) {K:AV→Prop} : aI M (.ptr b 0) 2 K=K (.agg (aO x.1)):=by
 have e2:((aB.cells x).drop 0).take 2=aO x.1:=rfl
 rw[fZ,RM.dx h (by rw[aB.len]; decide),e2]
 simp
theorem zS {α:Type} [DecidableEq α] : ∀ {xs ys:List α},xs.Nodup→(∀ x∈xs,x∈ys)→xs.length≤ys.length
 | [],_,_,_=>Nat.zero_le _
 | x :: xs,ys,hn,hs=>by
   have hx:x∈ys:=hs x (by simp)
   rw[List.nodup_cons] at hn
   have:=zS (xs:=xs) (ys:=ys.erase x) hn.2 fun y hy=>(List.mem_erase_of_ne (by rintro rfl; exact hn.1 hy)).2 (hs y (by simp[hy]))
   rw[List.length_erase_of_mem hx] at this
   have h0:0<ys.length:=List.length_pos_of_mem hx
   simp
   omega
theorem age {k:Nat} {ps:List Pt} (h:SI k ps) {j x:Nat} (hj:j<16) (hx:x∈(ps.getD j (0,[])).2) : fw ps ((j:Int),x)=true:=by
 have w:=(h.at j).1
 have h1:=w.2.1 x hx
 have h2:=w.2.2.2.1 x hx
 rw[fw,Bool.and_eq_true]
 refine⟨?_, ?_⟩
 ·simp only[good,Bool.and_eq_true,decide_eq_true_eq]
  omega
 ·rw[jY]
  exact .inr (by simpa using hx)
def dO (l:List Ev) : List aC:=l.flatMap fun x=>x.1.1 :: x.2
theorem PP {k:Nat} {ps:List Pt} {e:pG} {ks:List aC} (h:SI k ps) (hk:k + 65<4096) (hg:dX e ks=true) (d:aC) : fw (qc ps e ks) d=true↔fw ps d=true∨d∈e.1 :: ks:=by
 obtain⟨g1,g2,g3,_,_⟩:=sH hg
 refine ML h (by simp; omega) fun d hd=>?_
 rcases List.mem_cons.1 hd with rfl | hd
 ·exact g1
 ·exact g3 d hd
structure StU (s:mR) : Prop where
 seen:∀ x∈s.2,fw s.1 x.1=true
 one:s.2.Pairwise fun x y=>x.1≠y.1
structure StB (a t:mR) : Prop where
 rW:∀ x∈t.2,fw a.1 x.1=true→x∈a.2
 sets:∀ d,fw a.1 d=true→fw t.1 d=true
theorem StU.empty:StU (gu,[]):=⟨by simp,.nil⟩
theorem aew (d:aC) : fw gu d=false:=by
 rw[fw,xJ]
 cases good d with
 | false=>rfl
 | true =>
   simp only[Bool.true_and]
   unfold kF
   simp
   omega
theorem ZN (l:List Ev) : (nC l).length≤l.length:=by
 have:=Bl l l.length
 rwa [List.take_length] at this
theorem Od:∀ {l:List Ev},(∀ x∈l,dX x.1 x.2=true)→(dO l).length≤65 * l.length
 | [],_=>by simp[dO]
 | x :: l,h=>by
   have e:dO (x :: l)=(x.1.1 :: x.2)++dO l:=by simp[dO]
   have:=Od (l:=l) fun y hy=>h y (by simp[hy])
   obtain⟨_,g2,_,_,_⟩:=sH (h x (by simp))
   rw[e,List.length_append,List.length_cons,List.length_cons]
   omega
def arL (M:RM) (v:AV) (l:List Ev) : Prop:=∀ k,k≤l.length→∃ w,bB 7 v none (some (N .i64 (k:Int))) none=some w∧gD lY M w (l.take k) (fun d=>d<M.next)
def Live (l:List Ev) (x:aP) : Prop:=∃ e∈l,e.1.2.1=1∧jy e.1=x∧∀ f∈l,e.1.1 ∉ f.2
structure Ch (l:List Ev) (s:mR) : Prop where
 rW:∀ x,x∈s.2↔Live l x
 sets:∀ d,fw s.1 d=true↔d∈dO l
 up:zB s.2
 one:s.2.Pairwise fun x y=>x.1≠y.1
 si:∃ k,SI k s.1
theorem rX {l:List Ev} {d:aC} : d∈dO l↔∃ e∈l,d=e.1.1∨d∈e.2:=by
 unfold dO
 rw[List.mem_flatMap]
 constructor
 ·rintro⟨e,he,h⟩
  exact⟨e,he,List.mem_cons.1 h⟩
 ·rintro⟨e,he,h⟩
  exact⟨e,he,List.mem_cons.2 h⟩
theorem Live.mem {l m:List Ev} {x:aP} (h:Live l x) (hm:∀ e,e∈l↔e∈m) : Live m x:=by
 obtain⟨e,he,h1,h2,h3⟩:=h
 exact⟨e,(hm e).1 he,h1,h2,fun f hf=>h3 f ((hm f).2 hf)⟩
theorem Ch.mem {l m:List Ev} {s:mR} (h:Ch l s) (hm:∀ e,e∈l↔e∈m) : Ch m s where
 rW x:=(h.rW x).trans ⟨fun h=>h.mem hm,fun h=>h.mem fun e=>(hm e).symm⟩
 sets d:=by
  rw[h.sets,rX,rX]
  exact⟨fun⟨e,he,h⟩=>⟨e,(hm e).1 he,h⟩,fun⟨e,he,h⟩=>⟨e,(hm e).2 he,h⟩⟩
 up:=h.up
 one:=h.one
 si:=h.si
theorem Ch.stU {l:List Ev} {s:mR} (h:Ch l s) : StU s:=⟨fun x hx=>by
 obtain⟨e,he,_,rfl,_⟩:=(h.rW x).1 hx
 exact(h.sets _).2 (rX.2 ⟨e,he,.inl rfl⟩),h.one⟩
theorem _root_.Go.Ab.aC.SI.tight {k:Nat} {ps:List Pt} {D:List aC} (h:SI k ps) (hd:∀ d,fw ps d=true→d∈D) : SI D.length ps:=by
 refine⟨h.len,h.wf,fun p hp=>?_⟩
 obtain⟨i,hi,rfl⟩:=List.getElem_of_mem hp
 have XG:i<16:=by rw[← h.len]; exact hi
 have hw:=(h.wf _ hp).1
 have hn:((ps[i].2).map fun x=>(((i:Int),x) : aC)).Nodup:=by
  rw[List.Nodup,List.pairwise_map]
  exact List.Pairwise.imp (fun {a b} (h:a<b) e=>by cases e; omega) hw
 have:=zS hn (ys:=D) fun d hd'=>by
  obtain⟨x,hx,rfl⟩:=List.mem_map.1 hd'
  refine hd _ (age h XG ?_)
  rw[q8 hi]
  exact hx
 rwa [List.length_map] at this
theorem Ch.siD {l:List Ev} {s:mR} {D:List aC} (h:Ch l s) (hD:∀ d∈dO l,d∈D) : SI D.length s.1:=by
 obtain⟨k,hk⟩:=h.si
 exact hk.tight fun d hd=>hD d ((h.sets d).1 hd)
theorem Ch.len {l m:List Ev} {s:mR} (h:Ch l s) (hm:∀ e∈l,e∈m) : s.2.length≤m.length:=by
 have hn:(s.2.map fun x=>x.1).Nodup:=by
  rw[List.Nodup,List.pairwise_map]
  exact h.one
 have:=zS hn (ys:=m.map fun e=>e.1.1) fun d hd=>by
  obtain⟨x,hx,rfl⟩:=List.mem_map.1 hd
  obtain⟨e,he,_,rfl,_⟩:=(h.rW x).1 hx
  exact List.mem_map.2 ⟨e,hm e he,rfl⟩
 rwa [List.length_map,List.length_map] at this
theorem acN {ps:List Pt} {es:List aP} {e:pG} {ks:List aC} {x:aP} : x∈jb ps es e ks↔x.1 ∉ ks∧(x∈es∨(e.2.1=1∧fw ps e.1=false∧x=jy e)):=by
 unfold jb
 rw[List.mem_filter]
 constructor
 ·rintro⟨h1,h2⟩
  refine⟨by simpa using h2, ?_⟩
  split at h1
  ·rename_i hc
   simp only[Bool.and_eq_true,Bool.not_eq_true',decide_eq_true_eq] at hc
   rw[(tZ kg _).mem_iff,List.mem_append,List.mem_singleton] at h1
   rcases h1 with h1 | h1
   ·exact .inl h1
   ·exact .inr ⟨hc.1,hc.2,h1⟩
  ·exact .inl h1
 ·rintro⟨h1,h2⟩
  refine⟨?_,by simpa using h1⟩
  split
  ·rw[(tZ kg _).mem_iff,List.mem_append,List.mem_singleton]
   rcases h2 with h2 | ⟨_,_,h2⟩
   ·exact .inl h2
   ·exact .inr h2
  ·rename_i hc
   rcases h2 with h2 | ⟨h3,h4,_⟩
   ·exact h2
   ·exact absurd (by rw[h3,h4]; rfl) hc
theorem Ch.step {l:List Ev} {s:mR} {x:Ev} {k:Nat} (h:Ch l s) (hk:SI k s.1) (hk2:k + 65<4096) (hg:dX x.1 x.2=true) (hf:∀ e∈l,e.1.1≠x.1.1) : Ch (l++[x]) (tJ s x):=by
 have hU:=h.stU
 have e1:tJ s x=(qc s.1 x.1 x.2,jb s.1 s.2 x.1 x.2):=by unfold tJ; rw[if_pos hg]
 have hm:=PP hk hk2 hg
 rw[e1]
 refine⟨fun y=>?_,fun d=>?_,Vh h.up, ?_,⟨_,zM hk⟩⟩
 ·rw[acN,h.rW]
  constructor
  ·rintro⟨hy,⟨e,he,h1,rfl,h3⟩ | ⟨h1,h2,rfl⟩⟩
   ·refine⟨e,by simp[he],h1,rfl,fun f hf'=>?_⟩
    rcases List.mem_append.1 hf' with hf' | hf'
    ·exact h3 f hf'
    ·rw[List.mem_singleton] at hf'
     subst hf'
     exact hy
   ·refine⟨x,by simp,h1,rfl,fun f hf'=>?_⟩
    rcases List.mem_append.1 hf' with hf' | hf'
    ·intro hk'
     rw[(h.sets x.1.1).2 (rX.2 ⟨f,hf',.inr hk'⟩)] at h2
     cases h2
    ·rw[List.mem_singleton] at hf'
     subst hf'
     exact hy
  ·rintro⟨e,he,h1,rfl,h3⟩
   refine⟨h3 x (by simp), ?_⟩
   rcases List.mem_append.1 he with he | he
   ·exact .inl ⟨e,he,h1,rfl,fun f hf'=>h3 f (by simp[hf'])⟩
   ·rw[List.mem_singleton] at he
    subst he
    refine .inr ⟨h1, ?_,rfl⟩
    cases hs:fw s.1 e.1.1 with
    | false=>rfl
    | true =>
      obtain⟨f,hf',hd⟩:=rX.1 ((h.sets _).1 hs)
      rcases hd with hd | hd
      ·exact absurd hd.symm (hf f hf')
      ·exact absurd hd (h3 f (by simp[hf']))
 ·show fw (qc s.1 x.1 x.2) d=true↔_
  rw[hm,h.sets]
  have:dO (l++[x])=dO l++(x.1.1 :: x.2):=by simp[dO]
  rw[this,List.mem_append]
 ·show(jb s.1 s.2 x.1 x.2).Pairwise _
  unfold jb
  refine List.Pairwise.filter _ ?_
  split
  ·rename_i hc
   simp only[Bool.and_eq_true,Bool.not_eq_true',decide_eq_true_eq] at hc
   refine(tZ kg _).symm.pairwise ?_ (fun {a b} hab e=>hab e.symm)
   rw[List.pairwise_append]
   refine⟨h.one,by simp,fun a ha b hb e=>?_⟩
   simp only[List.mem_singleton] at hb
   subst hb
   have:=hU.seen a ha
   rw[e,show(jy x.1).1=x.1.1 from rfl,hc.2] at this
   cases this
  ·exact h.one
theorem Ch.empty:Ch [] (gu,[]):=⟨fun x=>by simp[Live],fun d=>by rw[aew]; simp[dO],.nil,.nil,⟨0,Ct⟩⟩
theorem Ch.run {l:List Ev} (hg:∀ x∈l,dX x.1 x.2=true) (hd:l.Pairwise fun x y=>x.1.1≠y.1.1) (hl:l.length≤60) : Ch l (nI l):=by
 suffices h:∀ n,n≤l.length→Ch (l.take n) (nI (l.take n)) by
  have:=h l.length (Nat.le_refl _)
  rwa [List.take_length] at this
 intro n
 induction n with
 | zero=>intro _; exact Ch.empty
 | succ n ih =>
   intro hn
   have h0:=ih (by omega)
   have e:l.take (n + 1)=l.take n++[l[n]]:=List.take_succ_eq_append_getElem (by omega)
   rw[e,Km]
   have hI:=W9 (l.take n)
   rw[List.length_take,Nat.min_eq_left (by omega)] at hI
   refine h0.step hI.si (by omega) (hg _ (List.getElem_mem _)) fun y hy=>?_
   obtain⟨i,hi,rfl⟩:=List.getElem_of_mem hy
   rw[List.length_take] at hi
   rw[List.getElem_take]
   exact(List.pairwise_iff_getElem.1 hd) i n (by omega) (by omega) (by omega)
theorem WZ:∀ {a b:List aP},zB a→zB b→(a.Pairwise fun x y=>x.1≠y.1)→(b.Pairwise fun x y=>x.1≠y.1)→(∀ x,x∈a↔x∈b)→a=b:=by
 intro a b ha hb oa ob hm
 have strict:∀ {c:List aP},zB c→(c.Pairwise fun x y=>x.1≠y.1)→c.Pairwise fun x y=>jc x y=true:=fun {c} hu ho=>by
  refine List.Pairwise.imp (fun {x y} h=>?_) (List.Pairwise.and hu ho)
  cases hxy:jc x y with
  | true=>rfl
  | false=>exact absurd (of_decide_eq_true (aaZ hxy h.1)).2.2 h.2
 have sa:=strict ha oa
 have sb:=strict hb ob
 clear ha hb oa ob
 induction a generalizing b with
 | nil =>
   cases b with
   | nil=>rfl
   | cons y b=>exact absurd ((hm y).2 (by simp)) (by simp)
 | cons x a ih =>
   cases b with
   | nil=>exact absurd ((hm x).1 (by simp)) (by simp)
   | cons y b =>
     rw[List.pairwise_cons] at sa sb
     have hxy:x=y:=by
      rcases List.mem_cons.1 ((hm x).1 (by simp)) with h | h
      ·exact h
      ·rcases List.mem_cons.1 ((hm y).2 (by simp)) with h' | h'
       ·exact h'.symm
       ·have h1:=sb.1 x h
        have h2:=sa.1 y h'
        have:=kg.trans _ _ _ h1 h2
        rw[kg.irrefl] at this
        cases this
     subst hxy
     rw[ih (fun z=>?_) sa.2 sb.2]
     constructor
     ·intro hz
      rcases List.mem_cons.1 ((hm z).1 (by simp[hz])) with h | h
      ·subst h
       have:=sa.1 z hz
       rw[kg.irrefl] at this
       cases this
      ·exact h
     ·intro hz
      rcases List.mem_cons.1 ((hm z).2 (by simp[hz])) with h | h
      ·subst h
       have:=sb.1 z hz
       rw[kg.irrefl] at this
       cases this
      ·exact h
theorem Ch.eq {l:List Ev} {s t:mR} (h:Ch l s) (g:Ch l t) : s.2=t.2∧ko s.1 t.1=true∧ko t.1 s.1=true:=by
 obtain⟨k,hk⟩:=h.si
 obtain⟨m,hm⟩:=g.si
 refine⟨WZ h.up g.up h.one g.one fun x=>by rw[h.rW,g.rW], ?_, ?_⟩
 ·exact(EY hk.wf hm.wf).2 fun d hd=>(g.sets d).2 ((h.sets d).1 hd)
 ·exact(EY hm.wf hk.wf).2 fun d hd=>(h.sets d).2 ((g.sets d).1 hd)
theorem ahS (l:List Ev) : (nC l).Pairwise fun x y=>x.1.1≠y.1.1:=by
 suffices h:∀ (l out:List Ev),(out.Pairwise fun x y=>x.1.1≠y.1.1)→(l.foldl mW out).Pairwise fun x y=>x.1.1≠y.1.1 from h l [] .nil
 intro l
 induction l with
 | nil=>intro out h; exact h
 | cons x l ih =>
   intro out h
   refine ih _ ?_
   unfold mW
   split
   ·rename_i hc
    simp only[Bool.not_eq_true',Bool.or_eq_false_iff,Bool.not_eq_false'] at hc
    rw[List.pairwise_append]
    refine⟨h,by simp,fun a ha b hb e=>?_⟩
    simp only[List.mem_singleton] at hb
    subst hb
    have:=List.any_eq_false.1 hc.2 a ha
    exact this (decide_eq_true e)
   ·exact h
theorem aoJ {M:RM} {c q r:Bool} {f0:ak→Prop} {f:RM→ak→Prop} {G:AV→RM→Prop} (hf0:c=true→∀ k:ak,k (Bo q) M→f0 k) (hf:c=true→q=false→∀ k:ak,k (Bo r) M→f M k) (hG:G (Bo (c && (q || r))) M) :
  ah (Bo c) true f0 (fun k=>k .undef M) fun t45 M1=>ah t45 false (f M1) (fun k=>k .undef M1) fun t54 M2=>ah (Bo c) true (fun k3=>aJ t45 (Bo true) t54 fun t55=>k3 t55 M2) (fun k=>k .undef M2) fun t55 M3=>aJ (Bo c) t55 (Bo false) fun t56=>G t56 M3:=by
 cases c with
 | false=>rw[bM]; dsimp only; rw[qF]; dsimp only; rw[bM]; dsimp only; rw[bz]; exact hG
 | true =>
   rw[bK]
   refine hf0 rfl _ ?_
   cases q with
   | true=>rw[di]; dsimp only; rw[bK]; dsimp only; rw[bO,bO]; exact hG
   | false =>
     rw[aT]
     refine hf rfl rfl _ ?_
     rw[bK]; dsimp only; rw[bz,bO]; exact hG
theorem abn {M:RM} {v:AV} {xs:List aP} (h:Sl aB M v xs) {i:Nat} (hi:i<xs.length) {kd:IntKind} {j:Nat} {x:AV} (hx:(aB.cells xs[i])[j]?=some x) {K:AV→Prop} : (ax v (N kd (i:Int)) 5 fun p=>aA p j fun q=>ai M q K)=K x:=by
 obtain⟨b,o,_,_,hidx,hld⟩:=Sl.at (E:=aB) (i:=i) h 5 (i:Int) hi rfl rfl
 rw[hidx,aF,fH]
 rw[kw hld hx]
 simp
def O3 (TS T TN:Nat) (c:au) : Prop:=∀ {M:RM} {t:Nat} {B:Nat→Prop} {ps:List Pt} {es:List aP} {s:List UInt8} {Q:ak},oC TS T B M t ps es→es.length≤50000→(∀ v M',Ow aB M' M.next TN v (es.filter fun x=>x.2.1 == s)→ag [] M M'→Q v M')→c [.ptr t 0,St s] M Q
theorem Zb {TS T TN:Nat} : O3 TS T TN fun args M Q=>∃ a0 a1,args=[a0,a1]∧wV TN a0 a1 M Q:=by
 intro M t B ps es s Q hst hlen hQ
 refine⟨_,_,rfl, ?_⟩
 unfold wV
 simp only[gT,gU,fG,ig,dG]
 obtain⟨s0,v,r1,_,r3,_,_⟩:=hst.row
 rw[aG,aF,aj (i:=0 + 1) r1 rfl,aM.len r3]
 refine aK (fun z ys M3=>∃ (i:Nat) (dv:AV),z=es.length - i∧ys=[dv,N .i64 (i:Int)]∧i≤es.length∧ag [] M M3∧Ow aB M3 M.next TN dv ((es.take i).filter fun x=>x.2.1 == s)) _
  ⟨0,dV,rfl,rfl,Nat.zero_le _,ag.refl _ _,.nil⟩ ?_
 rintro next z ys M3 hnext ⟨i,dv,rfl,rfl,hil,k3,o3⟩
 dsimp only[aa]
 rw[fM]
 refine aH (fun hlt=>?_) (fun hge=>?_)
 ·have hlt:i<es.length:=of_decide_eq_true hlt
  have n3:=k3.next
  have hfl:=QP (fun x:aP=>x.2.1 == s) es i
  refine bT (fun zs M'=>∃ dv',zs=[dv']∧ag [] M M'∧Ow aB M' M.next TN dv' ((es.take (i + 1)).filter fun x=>x.2.1 == s)) ?_ ?_
  ·rintro zs M' ⟨dv',rfl,k',o'⟩
   dsimp only[aa]
   rw[add1 (by omega)]
   exact hnext _ _ _ (by omega) ⟨i + 1,dv',rfl,rfl,by omega,k',o'⟩
  intro J hJ
  rw[MO hlt] at hJ
  rw[rU (aM.keep r3 k3 (by simp)) hlt]
  generalize ((es.take i).filter fun x=>x.2.1 == s)=acc at *
  generalize es[i]=x at *
  rw[bn,iK (n:=5) (x:=.agg (aB.cells x)) (l:=[(N .i64 0),(N .u64 0),(St []),(St []),(St [])]) (RM.aQ _) rfl rfl (tQ x)]
  have k4:ag [] M3 ((M3.push (.row [(N .i64 0),(N .u64 0),(St []),(St []),(St [])] false TN 0)).put M3.next (.row (AV.agg (aB.cells x)).cells false TN 0)):=((ag.refl _ _).push _).new _ (Nat.le_refl _)
  have h4:((M3.push (.row [(N .i64 0),(N .u64 0),(St []),(St []),(St [])] false TN 0)).put M3.next (.row (AV.agg (aB.cells x)).cells false TN 0)).heap M3.next=some (.row (aB.cells x) false TN 0):=aR _
  generalize (M3.push (.row [(N .i64 0),(N .u64 0),(St []),(St []),(St [])] false TN 0)).put M3.next (.row (AV.agg (aB.cells x)).cells false TN 0)=M4 at *
  generalize M3.next=b at *
  rw[aF,aj (i:=0 + 2) (x:=St x.2.1) h4 rfl,qE]
  have k04:=k3.trans k4
  have o4:=o3.keep k4 (by simp)
  refine aH (fun hc=>?_) (fun hc=>?_)
  ·rw[dF (n:=5) h4 rfl,lv (x:=.agg (aB.cells x)) (size:=5) rfl (tQ x) rfl,bn]
   refine yU (E:=aB) (a:=x) o4 (by have:=k04.next; omega) (by decide) (by omega) (by omega) fun v2 M7 o7 k7 n7 _=>?_
   refine hJ _ _ ⟨v2,rfl,k04.aY k7 (fun d hd=>.inl (o4.blk d hd).1), ?_⟩
   rw[hc,if_pos rfl]
   exact o7
  ·refine hJ _ _ ⟨dv,rfl,k04, ?_⟩
   rw[hc,if_neg (by decide),List.append_nil]
   exact o4
 ·have he:i=es.length:=by
   have:¬ i<es.length:=of_decide_eq_false hge
   omega
  subst he
  rw[List.take_length] at o3
  exact hQ dv M3 o3 k3
def ofP (s:List UInt8) (x:aP) : Bool:=(s != []) && (x.2.2.1 != s)
def setOf (d:aC) (c f a:List UInt8) : pG:=(d,(1,(c,(f,a))))
def Ut (es:List aP) (c f:List UInt8) : List aP:=(es.filter fun x=>x.2.1 == c).filter fun x=>!ofP f x
def yS (es:List aP) (c f:List UInt8) : List aC:=ako ltD ((Ut es c f).map fun x=>x.1)
def zq (c f:List UInt8) (x:aP) : Bool:=(x.2.1 == c) && ((f == []) || (x.2.2.1 == f))
def Zq (TN:Nat) (c:au) : Prop:=∀ {M:RM} {v:AV} {es:List aP} {s f:List UInt8} {Q:ak},Sl aB M v es→es.length≤50000→(∀ v' M',Ow aB M' M.next TN v' (es.filter (zq s f))→ag [] M M'→Q v' M')→c [v,St s,St f] M Q
theorem abQ {TN:Nat} : Zq TN fun args M Q=>∃ a0 a1 a2,args=[a0,a1,a2]∧afV TN a0 a1 a2 M Q:=by
 intro M v es s f Q hv hlen hQ
 refine⟨_,_,_,rfl, ?_⟩
 unfold afV
 simp only[gT,gU,fG,ig,dG]
 refine⟨_,_,_,_,rfl,rfl,by decide,by decide,by decide,by decide, ?_⟩
 dsimp only
 rw[bn]
 have k0:ag [] M (M.push (.row (bW [(N .i64 0),(N .u64 0),(St []),(St []),(St [])] 0) false TN 0)):=(ag.refl _ _).push _
 refine aK (fun z ys M3=>∃ (i:Nat) (dv:AV),z=es.length - i∧ys=[dv,N .i64 (i:Int)]∧i≤es.length∧ag [] M M3∧Ow aB M3 M.next TN dv ((es.take i).filter (zq s f))) _
  ⟨0,_,rfl,rfl,Nat.zero_le _,k0,Own.lit M (Nat.le_refl _)⟩ ?_
 rintro next z ys M3 hnext ⟨i,dv,rfl,rfl,hil,k3,o3⟩
 dsimp only[aa]
 have hv3:Sl aB M3 v es:=aM.keep hv k3 (by simp)
 rw[aM.len hv3,fM]
 refine aH (fun hlt=>?_) (fun hge=>?_)
 ·have hlt:i<es.length:=of_decide_eq_true hlt
  have n3:=k3.next
  have hfl:=QP (zq s f) es i
  refine bT (fun zs M'=>∃ dv',zs=[dv']∧ag [] M M'∧Ow aB M' M.next TN dv' ((es.take (i + 1)).filter (zq s f))) ?_ ?_
  ·rintro zs M' ⟨dv',rfl,k',o'⟩
   dsimp only[aa]
   rw[add1 (by omega)]
   exact hnext _ _ _ (by omega) ⟨i + 1,dv',rfl,rfl,by omega,k',o'⟩
  intro J hJ
  rw[MO hlt] at hJ
  rw[abn hv3 hlt (j:=2) (x:=St es[i].2.1) rfl,qE]
  refine aoJ (q:=f == []) (r:=es[i].2.2.1 == f) (fun _ k hk=>?_) (fun _ _ k hk=>?_) ?_
  ·rw[qE]; exact hk
  ·rw[abn hv3 hlt (j:=3) (x:=St es[i].2.2.1) rfl,qE]; exact hk
  refine aH (fun hc=>?_) (fun hc=>?_)
  ·rw[rU hv3 hlt,lv (x:=.agg (aB.cells es[i])) (size:=5) rfl (tQ _) rfl,bn]
   refine yU (E:=aB) (a:=es[i]) o3 (by have:=k3.next; omega) (by decide) (by omega) (by omega) fun v2 M7 o7 k7 n7 _=>?_
   refine hJ _ _ ⟨v2,rfl,k3.aY k7 (fun d hd=>.inl (o3.blk d hd).1), ?_⟩
   rw[show zq s f es[i]=true from hc,if_pos rfl]
   exact o7
  ·refine hJ _ _ ⟨dv,rfl,k3, ?_⟩
   rw[show zq s f es[i]=false from hc,if_neg (by decide),List.append_nil]
   exact o3
 ·have he:i=es.length:=by
   have:¬ i<es.length:=of_decide_eq_false hge
   omega
  subst he
  rw[List.take_length] at o3
  exact hQ dv M3 o3 k3
theorem MS {es:List aP} {c f:List UInt8} (hf:f≠[]) {x:aP} : x∈Ut es c f↔x∈es∧x.2.1=c∧x.2.2.1=f:=by
 unfold Ut ofP
 rw[List.mem_filter,List.mem_filter]
 have h1:(f != [])=true:=by simpa using hf
 rw[h1,Bool.true_and]
 constructor
 ·rintro⟨⟨h,h2⟩,h3⟩
  exact⟨h,by simpa using h2,by simpa using h3⟩
 ·rintro⟨h,h2,h3⟩
  exact⟨⟨h,by simpa using h2⟩,by simpa using h3⟩
theorem MB {es:List aP} {c f:List UInt8} (hf:f≠[]) {d:aC} : d∈yS es c f↔∃ x∈es,x.2.1=c∧x.2.2.1=f∧x.1=d:=by
 unfold yS
 rw[(acQ ak8 _).mem_iff,List.mem_map]
 constructor
 ·rintro⟨x,hx,rfl⟩
  obtain⟨h1,h2,h3⟩:=(MS hf).1 hx
  exact⟨x,h1,h2,h3,rfl⟩
 ·rintro⟨x,h1,h2,h3,rfl⟩
  exact⟨x,(MS hf).2 ⟨h1,h2,h3⟩,rfl⟩
theorem amm {w:List Ev} {s:mR} (h:Ch w s) {x:aP} (hx:x∈s.2) : ∃ e∈w,e.1.1=x.1:=by
 obtain⟨e,he,_,rfl,_⟩:=(h.rW x).1 hx
 exact⟨e,he,rfl⟩
structure Apart (w:List Ev) (s:mR) (c f a b cc:List UInt8) : Prop where
 ch:Ch w s
 good:∀ e∈w,dX e.1 e.2=true
 one:w.Pairwise fun x y=>x.1.1≠y.1.1
 len:w.length≤30
 dev:∀ e∈w,e.1.1.1<12∧∀ k∈e.2,k.1<12
 hf:f≠[]
 gx:dX (setOf (12,1) c f a) (yS s.2 c f)=true
 gy:dX (setOf (13,1) c f b) (yS s.2 c f)=true
 hc:cc.length≤512
section
variable {w:List Ev} {s:mR} {c f a b cc:List UInt8}
def evX (s:mR) (c f a:List UInt8) : Ev:=(setOf (12,1) c f a,yS s.2 c f)
def evY (s:mR) (c f b:List UInt8) : Ev:=(setOf (13,1) c f b,yS s.2 c f)
theorem Apart.aAb (h:Apart w s c f a b cc) : ∀ d∈yS s.2 c f,d.1<12:=fun d hd=>by
 obtain⟨x,hx,_,_,rfl⟩:=(MB h.hf).1 hd
 obtain⟨e,he,hd⟩:=amm h.ch hx
 rw[← hd]
 exact(h.dev e he).1
theorem Apart.two (h:Apart w s c f a b cc) {l:List Ev} (hm:∀ e,e∈l↔e∈w∨e=evX s c f a∨e=evY s c f b) (t:aP) : (Live l t∧t.2.1=c∧t.2.2.1=f)↔t=jy (evX s c f a).1∨t=jy (evY s c f b).1:=by
 have hk:=h.aAb
 have nk:∀ e,e∈l→∀ n:Int,12≤n→((n,1) : aC) ∉ e.2:=fun e he n hn hd=>by
  rcases(hm e).1 he with he | rfl | rfl
  ·have:=(h.dev e he).2 _ hd
   simp at this; omega
  ·have:=hk _ hd
   simp at this; omega
  ·have:=hk _ hd
   simp at this; omega
 constructor
 ·rintro⟨⟨e,he,h1,rfl,h3⟩,h4,h5⟩
  rcases(hm e).1 he with he' | rfl | rfl
  ·have hmem:jy e.1∈s.2:=(h.ch.rW _).2 ⟨e,he',h1,rfl,fun g hg=>h3 g ((hm g).2 (.inl hg))⟩
   exact absurd ((MB h.hf).2 ⟨_,hmem,h4,h5,rfl⟩) (h3 (evX s c f a) ((hm _).2 (.inr (.inl rfl))))
  ·exact .inl rfl
  ·exact .inr rfl
 ·rintro(rfl | rfl)
  ·exact⟨⟨evX s c f a,(hm _).2 (.inr (.inl rfl)),rfl,rfl,fun g hg=>nk g hg 12 (by decide)⟩,rfl,rfl⟩
  ·exact⟨⟨evY s c f b,(hm _).2 (.inr (.inr rfl)),rfl,rfl,fun g hg=>nk g hg 13 (by decide)⟩,rfl,rfl⟩
end
structure SH (TS T:Nat) (M:RM) (t:Nat) (B:Nat→Prop) (s:mR) : Prop where
 st:oC TS T B M t s.1 s.2
 lo:∀ d,B d→d<M.next
def Off (t:Nat) (B:Nat→Prop) (x:Nat) : Prop:=x≠t∧¬ B x
def Sep (t:Nat) (B:Nat→Prop) (u:Nat) (C:Nat→Prop) : Prop:=Off t B u∧Off u C t∧∀ d,B d→¬ C d
theorem Sep.symm {t u:Nat} {B C:Nat→Prop} (h:Sep t B u C) : Sep u C t B:=⟨h.2.1,h.1,fun d hd hb=>h.2.2 d hb hd⟩
theorem SH.of {TS T t:Nat} {M:RM} {B:Nat→Prop} {ps:List Pt} {es:List aP} (h:oC TS T B M t ps es) : SH TS T M t (fun d=>B d∧d<M.next) (ps,es):=⟨h.below,fun d hd=>hd.2⟩
theorem Off.grow {t x n:Nat} {B B' : Nat→Prop} (h:Off t B x) (hx:x<n) (hB:∀ d,B' d→B d∨n≤d) : Off t B' x:=⟨h.1,fun hb=>by
 rcases hB x hb with h' | h'
 ·exact h.2 h'
 ·omega⟩
theorem Sep.grow {t u n:Nat} {B B' C:Nat→Prop} (h:Sep t B u C) (hu:u<n) (hC:∀ d,C d→d<n) (hB:∀ d,B' d→B d∨n≤d) : Sep t B' u C :=
 ⟨h.1.grow hu hB,h.2.1,fun d hd hc=>by
  rcases hB d hd with h' | h'
  ·exact h.2.2 d h' hc
  ·have:=hC d hc; omega⟩
theorem SH.keep {TS T t u r:Nat} {M M' : RM} {B C:Nat→Prop} {s:mR} (h:SH TS T M u C s) (k:ag [t,r] M M') (hs:Sep t B u C) (hr:r=t∨B r) : SH TS T M' u C s:=by
 refine⟨h.st.keep k ?_ ?_,fun d hd=>Nat.lt_of_lt_of_le (h.lo d hd) k.next⟩
 ·intro hm
  simp only[List.mem_cons,List.not_mem_nil,or_false] at hm
  rcases hm with e | e
  ·exact hs.1.1 e
  ·rcases hr with hr | hr
   ·exact hs.1.1 (e.trans hr)
   ·exact hs.1.2 (e▸hr)
 ·intro d hd hc
  simp only[List.mem_cons,List.not_mem_nil,or_false] at hd
  rcases hd with rfl | rfl
  ·exact hs.2.1.2 hc
  ·rcases hr with hr | hr
   ·exact hs.2.1.2 (hr▸hc)
   ·exact hs.2.2 _ hr hc
theorem SH.jk {TS T u:Nat} {M M' : RM} {C:Nat→Prop} {s:mR} (h:SH TS T M u C s) (k:ag [] M M') : SH TS T M' u C s:=⟨h.st.keep k (by simp) (by simp),fun d hd=>Nat.lt_of_lt_of_le (h.lo d hd) k.next⟩
structure aBc (TE:Nat) (M:RM) (b:Nat) (e:pG) (kv:AV) (ks:List aC) : Prop where
 lt:b<M.next
 row:M.heap b=some (.row (gH e kv) false TE 0)
 kills:Sl dM M kv ks
section
variable {TS T:Nat}
end
theorem mU {M:RM} {v:AV} {l:List Ev} {S:Nat→Prop} (h:gD lY M v l S) {i:Nat} (hi:i<l.length) :
  ∃ b o kv,(∀ (kd:IntKind) (K:AV→Prop),ax v (N kd (i:Int)) 7 K=K (.ptr b o))∧M.loads b o 7=some (gH l[i].1 kv)∧Sl dM M kv l[i].2:=by
 obtain⟨b,o,cs,_,_,hidx,hld,ds,hcs,kv,hds,hkv⟩:=h.at (i:=i) 7 (i:Int) hi rfl rfl
 subst hds
 subst hcs
 exact⟨b,o,kv,hidx,hld,gD.sl hkv⟩
theorem pQ {M:RM} {b o k j:Nat} {cs:List AV} {x:AV} (h:M.loads b o k=some cs) (hj:cs[j]?=some x) {K:AV→Prop} (hK:K x) : ai M (.ptr b (o + j)) K:=by
 rw[fH]
 exact⟨x,kw h hj,hK⟩
def Ta (c:au) : Prop:=∀ {M:RM} {x y:aP} {Q:ak},(∀ M',ag [] M M'→Q (Bo (jc x y)) M')→c [.agg (aB.cells x),.agg (aB.cells y)] M Q
theorem avp {x y:aP} (h:x.2.1≠y.2.1) : jc x y=decide (x.2.1<y.2.1):=by
 rw[jc,lex]; simp[h]
theorem ava {x y:aP} (h:x.2.1=y.2.1) (h2:x.2.2.1≠y.2.2.1) : jc x y=decide (x.2.2.1<y.2.2.1):=by
 rw[jc,lex,lex]; simp[h,h2,List.lt_irrefl]
theorem avu {x y:aP} (h:x.2.1=y.2.1) (h2:x.2.2.1=y.2.2.1) : jc x y=zf x.1 y.1:=by
 rw[jc,lex,lex]; simp[h,h2,List.lt_irrefl,zf,lex]
theorem ZR {TN:Nat} {cl:au} (hl:Bn cl) : Ta fun args M Q=>∃ a0 a1,args=[a0,a1]∧NM TN cl a0 a1 M Q:=by
 intro M x y Q hQ
 refine⟨_,_,rfl, ?_⟩
 unfold NM
 rw[dL rfl (by rw[aB.len]; decide),bn,dL rfl (by rw[aB.len]; decide),bn]
 have k0:ag [] M ((M.push (.row (aB.cells x) false TN 0)).push (.row (aB.cells y) false TN 0)):=((ag.refl _ _).push _).push _
 have hx:((M.push (.row (aB.cells x) false TN 0)).push (.row (aB.cells y) false TN 0)).heap M.next=some (.row (aB.cells x) false TN 0):=lQ (RM.aQ _) (by simp[RM.push])
 have hy:((M.push (.row (aB.cells x) false TN 0)).push (.row (aB.cells y) false TN 0)).heap (M.push (.row (aB.cells x) false TN 0)).next=some (.row (aB.cells y) false TN 0):=RM.aQ _
 generalize (M.push (.row (aB.cells x) false TN 0)).push (.row (aB.cells y) false TN 0)=M1 at *
 generalize (M.push (.row (aB.cells x) false TN 0)).next=b2 at *
 rw[aF,aj (i:=0 + 2) (x:=St x.2.1) hx rfl,aF,aj (i:=0 + 2) (x:=St y.2.1) hy rfl,nG]
 refine aH (fun h=>?_) (fun h=>?_)
 ·have h:x.2.1≠y.2.1:=by simpa using h
  rw[aF,aj (i:=0 + 2) (x:=St x.2.1) hx rfl,aF,aj (i:=0 + 2) (x:=St y.2.1) hy rfl,MZ,rO,← avp h]
  exact hQ _ k0
 have h:x.2.1=y.2.1:=by simpa using h
 rw[aF,aj (i:=0 + 3) (x:=St x.2.2.1) hx rfl,aF,aj (i:=0 + 3) (x:=St y.2.2.1) hy rfl,nG]
 refine aH (fun h2=>?_) (fun h2=>?_)
 ·have h2:x.2.2.1≠y.2.2.1:=by simpa using h2
  rw[aF,aj (i:=0 + 3) (x:=St x.2.2.1) hx rfl,aF,aj (i:=0 + 3) (x:=St y.2.2.1) hy rfl,MZ,rO,← ava h h2]
  exact hQ _ k0
 have h2:x.2.2.1=y.2.2.1:=by simpa using h2
 rw[aS,aeJ hx,aS,aeJ hy]
 refine hl fun M2 k2=>?_
 rw[← avu h h2]
 exact hQ _ (k0.trans k2)
theorem TV {α:Type} {p:α→Bool} : ∀ {l:List α} {i:Nat},i≤l.length→(∀ k (hk:k<l.length),k<i→p l[k]=true)→(∀ (hi:i<l.length),p l[i]=false)→(l.takeWhile p).length=i
 | [],i,h,_,_=>by simp at h; subst h; rfl
 | x :: l,0,_,_,h2=>by
   have:=h2 (by simp)
   simp only[List.getElem_cons_zero] at this
   simp[this]
 | x :: l,i + 1,h,h1,h2=>by
   have hx:=h1 0 (by simp) (by omega)
   simp only[List.getElem_cons_zero] at hx
   have:=TV (p:=p) (l:=l) (i:=i) (by simpa using h) (fun k hk hki=>by have:=h1 (k + 1) (by simp; omega) (by omega); simpa using this) (fun hi=>by have:=h2 (by simp; omega); simpa using this)
   rw[List.takeWhile_cons_of_pos hx,List.length_cons,this]
def atE (x:aP) (l:List aP) : Nat:=(l.takeWhile fun y=>jc y x).length
def HV (l:List aP) (x:aP) : List aP:=l.take (atE x l)++x :: l.drop (atE x l)
theorem agP (l:List aP) (x:aP) : (HV l x).length=l.length + 1:=by
 unfold HV
 have:(l.take (atE x l)++l.drop (atE x l)).length=l.length:=by rw[List.take_append_drop]
 simp only[List.length_append,List.length_cons] at *
 omega
def JC (TN:Nat) (c:au) : Prop:=∀ {M:RM} {base:Nat} {v:AV} {l:List aP} {x:aP} {Q:ak},Ow aB M base TN v l→base≤M.next→l.length≤100000→(∀ v' M',Ow aB M' base TN v' (HV l x)→ag [] M M'→Q v' M')→c [v,.agg (aB.cells x)] M Q
theorem Vw {T:Nat} {cb:au} (ha:Ta cb) : JC T fun args M Q=>∃ a0 a1,args=[a0,a1]∧Gn T cb a0 a1 M Q:=by
 intro M base v l d Q ho hb hl hQ
 refine⟨_,_,rfl, ?_⟩
 unfold Gn
 simp only[gU,fG]
 rw[dL rfl (by rw[aB.len]; decide),bn]
 have h3:(M.push (.row (aB.cells d) false T 0)).heap M.next=some (.row (aB.cells d) false T 0):=RM.aQ _
 have k12:ag [] M (M.push (.row (aB.cells d) false T 0)):=(ag.refl _ _).push _
 have n1:(M.push (.row (aB.cells d) false T 0)).next=M.next + 1:=rfl
 generalize M.push (.row (aB.cells d) false T 0)=M2 at *
 have ho2:=ho.keep k12 (by simp)
 unfold HV at hQ
 refine aK (fun m ys M3=>∃ (i:Nat),m=l.length - i∧ys=[N .i64 (i:Int)]∧i≤l.length∧ag [] M2 M3∧∀ k (hk:k<l.length),k<i→jc l[k] d=true) _
  ⟨0,rfl,rfl,Nat.zero_le _,ag.refl _ _,fun k hk h=>by omega⟩ ?_
 rintro next m ys M3 hnext ⟨i,rfl,rfl,hi,k3,hah⟩
 dsimp only[aa]
 have k13:=k12.trans k3
 have ho3:=ho2.keep k3 (by simp)
 have s3:Sl aB M3 v l:=ho3.fu
 have n3:=k3.next
 have h33:=k3.aN h3 (by omega) (by simp)
 have fin:∀ M3,ag [] M2 M3→atE d l=i→(dH T 0 [(N .i64 0),(N .u64 0),(St []),(St []),(St [])] [] fun YR YI=>mI YR YI M3 fun t24 fO NE=>eT (bB 5 v none (some (N .i64 (i:Int))) none) fun t27=>aI fO (.ptr M.next 0) 5 fun t29 =>
   dH T 1 [(N .i64 0),(N .u64 0),(St []),(St []),(St [])] [(0,5,t29)] fun Xt Yy=>mI Xt Yy fO fun t30 lK II=>eT (bB 5 v (some (N .i64 (i:Int))) none none) fun t34=>appW T 5 64 [(N .i64 0),(N .u64 0),(St []),(St []),(St [])] false t24 t27 lK fun t28 eU =>
   aI eU (.ptr M.next 0) 5 fun KC=>(KC=t29∧dH T 1 [(N .i64 0),(N .u64 0),(St []),(St []),(St [])] [(0,5,t29)] fun XI Wi=>(uk II eU XI Wi t30∧eT (bB 5 v (some (N .i64 (i:Int))) none none) fun KZ=>(KZ=t34∧appW T 5 64 [(N .i64 0),(N .u64 0),(St []),(St []),(St [])] false t28 t30 eU fun t31 iy =>
   eT (bB 5 v (some (N .i64 (i:Int))) none none) fun Ld=>(Ld=t34∧appW T 5 64 [(N .i64 0),(N .u64 0),(St []),(St []),(St [])] false t31 t34 iy fun t35 iZ=>Q t35 iZ))))):=fun M3 k3 hat=>by
  have k13:=k12.trans k3
  have ho3:=ho2.keep k3 (by simp)
  have n3:=k3.next
  have h33:=k3.aN h3 (by omega) (by simp)
  obtain⟨v1,v2,e1,s1,e2,s2,hb1,hb2⟩:=SF (E:=aB) (k:=i) (by decide) ho3 hi
  have e1:bB 5 v none (some (N .i64 (i:Int))) none=some v1:=e1
  have e2:bB 5 v (some (N .i64 (i:Int))) none none=some v2:=e2
  have hvb:=ho3.blk
  rw[akj,ku,e1,cB]
  have o4:Ow aB (M3.push (.row [] false T 0)) M3.next T (.slc M3.next 0 0 (.ex 0)) []:=Ow.lit aB M3
  have k4:ag [] M3 (M3.push (.row [] false T 0)):=(ag.refl _ _).push _
  have n4:(M3.push (.row [] false T 0)).next=M3.next + 1:=rfl
  generalize M3.push (.row [] false T 0)=M4 at *
  have h4:=k4.aN h33 (by omega) (by simp)
  rw[dF (n:=5) h4 rfl,lv (x:=.agg (aB.cells d)) (size:=5) rfl (tQ d) rfl,ku,e2,cB]
  have h5:(M4.push (.row (AV.agg (aB.cells d)).cells false T 0)).heap M4.next=some (.row (aB.cells d) false T 0):=RM.aQ _
  have k5:ag [] M4 (M4.push (.row (AV.agg (aB.cells d)).cells false T 0)):=(ag.refl _ _).push _
  have n5:(M4.push (.row (AV.agg (aB.cells d)).cells false T 0)).next=M4.next + 1:=rfl
  generalize M4.push (.row (AV.agg (aB.cells d)).cells false T 0)=M5 at *
  have k45:=k4.trans k5
  refine uy (E:=aB) (ys:=l.take i) (o4.keep k5 (by simp)) (by omega) (by decide) (aM.keep s1 k45 (by simp)) (by simp; omega) (by simp; omega) ?_
  intro v6 M6 o6 k6 n6 _
  have hk6:∀ c,c<M3.next→c ∉ aD (.slc M3.next 0 0 (.ex 0)):=fun c hc hm=>by simp[aD] at hm; omega
  have h6:=k6.aN (k5.aN h4 (by omega) (by simp)) (by omega) (hk6 _ (by omega))
  have h66:=k6.aN h5 (by omega) (by simp[aD]; omega)
  rw[dF (n:=5) h6 rfl]
  refine⟨rfl, ?_⟩
  rw[lv (x:=.agg (aB.cells d)) (size:=5) rfl (tQ d) rfl]
  refine⟨⟨h66,rfl⟩, ?_⟩
  rw[cB]
  refine⟨rfl, ?_⟩
  rw[List.nil_append] at o6
  have sd:Sl aB M6 (.slc M4.next 0 1 (.ex 1)) [d]:=.slc _ _ _ _ _ (by omega) (by rw[RM.dx h66 (by show 0 + 1 * 5≤5; omega)]; rfl)
  refine uy (E:=aB) (ys:=[d]) o6 (by omega) (by decide) sd (by simp; omega) (by simp; omega) ?_
  intro v7 M7 o7 k7 n7 _
  rw[cB]
  refine⟨rfl, ?_⟩
  have hv6:=o6.blk
  have hv7:=o7.blk
  have s27:Sl aB M7 v2 (l.drop i):=by
   refine aM.keep (aM.keep (aM.keep s2 k45 (by simp)) k6 fun c hc=>?_) k7 fun c hc hm=>?_
   ·exact hk6 c (hvb c (hb2 c hc)).2
   ·have:=(hv6 c hm).1
    have:=(hvb c (hb2 c hc)).2
    omega
  refine uy (E:=aB) (ys:=l.drop i) o7 (by omega) (by decide) s27 (by simp; omega) (by simp; omega) ?_
  intro v8 M8 o8 k8 n8 _
  refine hQ v8 M8 ?_ ?_
  ·rw[hat]
   have:=o8.mono (base':=base) (by have:=k13.next; omega)
   have e:l.take i++[d]++l.drop i=l.take i++d :: l.drop i:=by simp
   rw[e] at this
   exact this
  ·have a1:ag [] M M5:=k13.trans k45
   have:=k13.next
   refine((a1.aY k6 fun c hc=>.inl (by simp[aD] at hc; omega)).aY k7 fun c hc=>.inl (by have:=(hv6 c hc).1; omega)).aY k8 fun c hc=>.inl (by have:=(hv7 c hc).1; omega)
 rw[aM.len s3,bN]
 by_cases hlt:i<l.length
 ·rw[show decide ((i:Int)<(l.length:Int))=true by simpa using hlt,bK]
  dsimp only
  rw[rU s3 hlt,dF (n:=5) h33 rfl]
  refine ha fun M4 k4=>?_
  rw[bO]
  refine aH (fun hg=>?_) (fun hg=>?_)
  ·rw[bG,dK (by omega)]
   refine hnext _ _ _ (by omega) ⟨i + 1,rfl,rfl,by omega,k3.trans k4,fun k hk hki=>?_⟩
   rcases Nat.lt_or_ge k i with h | h
   ·exact hah k hk h
   ·have:k=i:=by omega
    subst this; exact hg
  ·exact fin M4 (k3.trans k4) (TV hi hah fun _=>hg)
 ·rw[show decide ((i:Int)<(l.length:Int))=false by simp; omega,bM]
  dsimp only
  rw[bz,bI]
  exact fin M3 k3 (TV hi hah fun h=>absurd h hlt)
theorem YA:yf fun args M Q=>∃ a0 a1,args=[a0,a1]∧WB a0 a1 M Q:=by
 intro M v w xs ys Q h1 h2 hl hQ
 refine⟨_,_,rfl, ?_⟩
 unfold WB
 rw[aM.len h1,aM.len h2,dY]
 refine aH (fun hn=>?_) (fun hn=>?_)
 ·have:¬ xs=ys:=fun e=>by subst e; simp at hn
  rw[decide_eq_false this] at hQ
  exact hQ
 have hn:xs.length=ys.length:=by
  simp only[bne_eq_false_iff_eq] at hn
  omega
 refine aK (fun m zs M3=>∃ i:Nat,m=xs.length - i∧zs=[N .i64 (i:Int)]∧i≤xs.length∧M3=M∧(xs=ys↔xs.drop i=ys.drop i)) _ ⟨0,rfl,rfl,Nat.zero_le _,rfl,Iff.rfl⟩ ?_
 rintro next m zs M3 hnext ⟨i,rfl,rfl,hi,rfl,hm⟩
 dsimp only[aa]
 rw[aM.len h1,fM]
 refine aH (fun hlt=>?_) (fun hge=>?_)
 ·have hlt:i<xs.length:=of_decide_eq_true hlt
  rw[List.drop_eq_getElem_cons hlt,List.drop_eq_getElem_cons (show i<ys.length by omega),List.cons.injEq] at hm
  rw[rU h1 hlt,rU h2 (by omega),qz rfl rfl (aeW _ _)]
  refine aH (fun he=>?_) (fun he=>?_)
  ·have he:¬ xs[i]=ys[i]'(by omega):=by simpa using he
   rw[decide_eq_false (fun e=>he (hm.1 e).1)] at hQ
   exact hQ
  ·have he:xs[i]=ys[i]'(by omega):=by simpa using he
   rw[add1 (by omega)]
   exact hnext _ _ _ (by omega) ⟨i + 1,rfl,rfl,by omega,rfl,hm.trans ⟨fun h=>h.2,fun h=>⟨he,h⟩⟩⟩
 ·have he:i=xs.length:=by
   have:¬ i<xs.length:=of_decide_eq_false hge
   omega
  subst he
  rw[List.drop_length,hn,List.drop_length] at hm
  rw[decide_eq_true (hm.2 rfl)] at hQ
  exact hQ
theorem akf {M:RM} {c p:Bool} {f:KR→Prop} {P:RM→Prop} {G:AV→RM→Prop} (h0:P M) (hf:c=true→∀ k:KR,(∀ M',P M'→k (Bo p) M' none)→f k) (hG:∀ M',P M'→G (Bo (c && p)) M') :
  ae (Bo c) true f (fun k=>k .undef M none) (fun t M' b=>aJ (Bo c) t (Bo false) fun u=>G u M'):=by
 cases c with
 | false=>rw[iH]; dsimp only; rw[bz]; exact hG M h0
 | true=>rw[ic]; exact hf rfl _ fun M' h=>by rw[bO]; exact hG M' h
theorem avk {M:RM} {c q r:Bool} {f1:KR→Prop} {f2:RM→KR→Prop} {G:AV→RM→Prop} (h1:c=true→∀ k:KR,k (Bo q) M none→f1 k) (h2:c=true→q=true→∀ k:KR,k (Bo r) M none→f2 M k) (hG:G (Bo (c && !(q && r))) M) :
  ae (Bo c) true f1 (fun k=>k .undef M none) (fun t45 M1 b1=>ae t45 true (f2 M1) (fun k=>k .undef M1 none) fun t56 M2 b2=>ae (Bo c) true (fun k'=>aJ t45 t56 (Bo false) fun t57=>eG t57 fun t58=>k' t58 M2 none) (fun k=>k .undef M2 none) fun t58 M3 b3=>aJ (Bo c) t58 (Bo false) fun t59=>G t59 M3):=by
 cases c with
 | false=>rw[iH]; dsimp only; rw[XU]; dsimp only; rw[iH]; dsimp only; rw[bz]; exact hG
 | true =>
   rw[ic]
   refine h1 rfl _ ?_
   cases q with
   | false=>rw[iH]; dsimp only; rw[ic]; dsimp only; rw[bz,bR]; rw[bO]; exact hG
   | true =>
     rw[ic]
     refine h2 rfl rfl _ ?_
     rw[ic]; dsimp only; rw[bO,bR,bO]; exact hG
def VS (e:Ev) (i k:Nat) (f:Ev) : Bool:=!decide (e.1.1∈f.2) && !(decide (k<i) && decide (f.1.1=e.1.1))
def yZ (l:List Ev) (e:Ev) (i:Nat) : Nat→Bool
 | 0=>e.1.2.1 == 1
 | k + 1=>yZ l e i k && (match l[k]? with | some f=>VS e i k f | none=>true)
def qN (l:List Ev) : Nat→List aP
 | 0=>[]
 | i + 1=>match l[i]? with
   | some e=>if yZ l e i l.length then HV (qN l i) (jy e.1) else qN l i
   | none=>qN l i
theorem X6 (l:List Ev) : ∀ i,(qN l i).length≤i
 | 0=>Nat.le_refl _
 | i + 1=>by
   have:=X6 l i
   rw[qN]
   split
   ·split
    ·rw[agP]; omega
    ·omega
   ·omega
def EN (TN:Nat) (c:au) : Prop:=∀ {M:RM} {v:AV} {l:List Ev} {S:Nat→Prop} {Q:ak},gD lY M v l S→(∀ d,S d→d<M.next)→l.length≤10000→(∀ e∈l,e.2.length≤1000000) →
 (∀ v' M',Ow aB M' M.next TN v' (qN l l.length)→ag [] M M'→Q v' M')→c [v] M Q
theorem QF {TN:Nat} {ch cp:au} (hh:LM ch) (hp:JC TN cp) : EN TN fun args M Q=>∃ a0,args=[a0]∧Jr TN ch cp a0 M Q:=by
 intro M v l S Q hv hS hlen hks hQ
 refine⟨_,rfl, ?_⟩
 unfold Jr
 simp only[gT,gU,fG,ig,dG]
 refine⟨_,_,_,_,rfl,rfl,by decide,by decide,by decide,by decide, ?_⟩
 dsimp only
 rw[bn]
 have k0:ag [] M (M.push (.row (bW [(N .i64 0),(N .u64 0),(St []),(St []),(St [])] 0) false TN 0)):=(ag.refl _ _).push _
 refine aK (fun z ys M3=>∃ (i:Nat) (dv:AV),z=l.length - i∧ys=[dv,N .i64 (i:Int)]∧i≤l.length∧ag [] M M3∧Ow aB M3 M.next TN dv (qN l i)) _
  ⟨0,_,rfl,rfl,Nat.zero_le _,k0,Own.lit M (Nat.le_refl _)⟩ ?_
 rintro next z ys M3 hnext ⟨i,dv,rfl,rfl,hil,k3,o3⟩
 dsimp only[aa]
 have hv3:=hv.keep k3 (by simp)
 rw[hv3.len,fM]
 refine aH (fun hlt=>?_) (fun hge=>?_)
 ·have hlt:i<l.length:=of_decide_eq_true hlt
  have n3:=k3.next
  have hrl:=X6 l i
  refine bT (fun zs M'=>∃ dv',zs=[dv']∧ag [] M M'∧Ow aB M' M.next TN dv' (qN l (i + 1))) ?_ ?_
  ·rintro zs M' ⟨dv',rfl,k',o'⟩
   dsimp only[aa]
   rw[add1 (by omega)]
   exact hnext _ _ _ (by omega) ⟨i + 1,dv',rfl,rfl,by omega,k',o'⟩
  ·intro J hJ
   obtain⟨b,o,kv,hidx,hld,hkv⟩:=mU hv3 hlt
   rw[hidx,aF]
   refine pQ (j:=2) hld (x:=N .i64 l[i].1.2.1) rfl ?_
   rw[bU,show(l[i].1.2.1 == 1)=yZ l l[i] i 0 from rfl]
   refine aK (fun z ys M4=>∃ k:Nat,z=l.length - k∧ys=[Bo (yZ l l[i] i k),N .i64 (k:Int)]∧k≤l.length∧ag [] M3 M4) _
    ⟨0,rfl,rfl,Nat.zero_le _,ag.refl _ _⟩ ?_
   rintro jv z ys M4 dQ ⟨k,rfl,rfl,hk,k4⟩
   dsimp only[aa]
   have hv4:=hv3.keep k4 (by simp)
   rw[hv4.len,fM]
   refine aH (fun hlt2=>?_) (fun pg=>?_)
   ·have hlt2:k<l.length:=of_decide_eq_true hlt2
    refine akf (P:=fun M5=>ag [] M3 M5) (p:=!decide (l[i].1.1∈l[k].2)) k4 (fun _ K hK=>?_) fun M5 k5=>?_
    ·obtain⟨b1,o1,kv1,nL,Nj,apD⟩:=mU hv4 hlt2
     obtain⟨b2,o2,kv2,iq,qL,Zy⟩:=mU hv4 hlt
     rw[nL,aF]
     refine pQ (j:=6) Nj (x:=kv1) rfl ?_
     rw[iq,aF,Nat.add_zero,fZ,tT qL 2 (by decide)]
     refine⟨_,rfl, ?_⟩
     refine hh apD (hks _ (List.getElem_mem hlt2)) fun M6 k6=>?_
     rw[bR]
     exact hK M6 (k4.trans k6)
    ·have hv5:=hv3.keep k5 (by simp)
     refine avk (q:=decide (k<i)) (r:=decide (l[k].1.1=l[i].1.1)) (fun _ K hK=>?_) (fun _ _ K hK=>?_) ?_
     ·rw[fM]; exact hK
     ·obtain⟨b1,o1,kv1,nL,Nj,apD⟩:=mU hv5 hlt2
      obtain⟨b2,o2,kv2,iq,qL,Zy⟩:=mU hv5 hlt
      rw[nL,aF,Nat.add_zero,fZ,tT Nj 2 (by decide)]
      refine⟨_,rfl, ?_⟩
      rw[iq,aF,Nat.add_zero,fZ,tT qL 2 (by decide)]
      refine⟨_,rfl, ?_⟩
      rw[qz rfl rfl (show eH [1,1] (List.take 2 (gH l[k].1 kv1)) (List.take 2 (gH l[i].1 kv2))=some (decide (l[k].1.1=l[i].1.1)) from Co _ _),Bool.bne_false]
      exact hK
     ·rw[add1 (by omega)]
      refine dQ _ _ _ (by omega) ⟨k + 1,rfl, ?_,by omega,k5⟩
      rw[yZ,List.getElem?_eq_getElem hlt2]
      simp only[VS,Bool.and_assoc]
   ·have hke:k=l.length:=by
     have:¬ k<l.length:=of_decide_eq_false pg
     omega
    subst hke
    obtain⟨b2,o2,kv2,iq,qL,Zy⟩:=mU hv4 hlt
    have n4:=k4.next
    have o4:=o3.keep k4 (by simp)
    refine aH (fun hc=>?_) (fun hc=>?_)
    ·rw[iq,aF,Nat.add_zero,fZ,tT qL 2 (by decide)]
     refine⟨_,rfl, ?_⟩
     rw[iq,aF]
     refine pQ (j:=3) qL (x:=St l[i].1.2.2.1) rfl ?_
     rw[iq,aF]
     refine pQ (j:=4) qL (x:=St l[i].1.2.2.2.1) rfl ?_
     rw[iq,aF]
     refine pQ (j:=5) qL (x:=St l[i].1.2.2.2.2) rfl ?_
     rw[jI]
     refine⟨aB.cells (jy l[i].1),rfl, ?_⟩
     refine hp o4 (by omega) (by omega) fun v' M5 o5 k5=>?_
     refine hJ _ _ ⟨v',rfl,(k3.trans k4).trans k5, ?_⟩
     rw[qN,List.getElem?_eq_getElem hlt]
     simp only[hc,if_true]
     exact o5
    ·refine hJ _ _ ⟨dv,rfl,k3.trans k4, ?_⟩
     rw[qN,List.getElem?_eq_getElem hlt]
     simp only[hc]
     exact o4
 ·have he:i=l.length:=by
   have:¬ i<l.length:=of_decide_eq_false hge
   omega
  subst he
  exact hQ dv M3 o3 k3
def nm (es:List aP) (i:Nat) : List UInt8:=(es.getD i ((0,0),([],[],[]))).2.1
theorem VJ {es:List aP} {i:Nat} (h:i<es.length) : nm es i=es[i].2.1:=by rw[nm,q8 h]
def jX (es:List aP) : Nat→List (List UInt8)
 | 0=>[]
 | i + 1=>if i=0∨nm es (i - 1)≠nm es i then jX es i++[nm es i] else jX es i
theorem IG (es:List aP) : ∀ i,(jX es i).length≤i
 | 0=>Nat.le_refl _
 | i + 1=>by
   have:=IG es i
   rw[jX]
   split
   ·simp; omega
   ·omega
theorem JS (es:List aP) : ∀ i,(jX es (i + 1)).getLast?=some (nm es i)
 | 0=>by rw[jX,if_pos (.inl rfl)]; simp
 | i + 1=>by
   rw[jX]
   split
   ·simp
   ·rename_i h
    have h:nm es i=nm es (i + 1):=by
     apply Classical.byContradiction; intro hh; exact h (.inr (by simpa using hh))
    rw[JS es i,h]
theorem aiz (es:List aP) (i:Nat) : (jX es (i + 1))≠[]:=fun h=>by
 have:=JS es i
 rw[h] at this; cases this
def JJ (TS T T9:Nat) (c:au) : Prop:=∀ {M:RM} {t:Nat} {B:Nat→Prop} {ps:List Pt} {es:List aP} {Q:ak},oC TS T B M t ps es→es.length≤50000→(∀ v M',Ow xV M' M.next T9 v (jX es es.length)→ag [] M M'→Q v M')→c [.ptr t 0] M Q
theorem Vp {TS T TN T9:Nat} : JJ TS T T9 fun args M Q=>∃ a0,args=[a0]∧vY TN T9 a0 M Q:=by
 intro M t B ps es Q hst hlen hQ
 refine⟨_,rfl, ?_⟩
 unfold vY
 simp only[gT,gU,fG,ig,dG]
 obtain⟨s0,v,r1,_,r3,_,_⟩:=hst.row
 rw[aG,aF,aj (i:=0 + 1) r1 rfl,aM.len r3]
 refine aK (fun z ys M3=>∃ (i:Nat) (dv:AV),z=es.length - i∧ys=[dv,N .i64 (i:Int)]∧i≤es.length∧ag [] M M3∧Ow xV M3 M.next T9 dv (jX es i)) _
  ⟨0,dV,rfl,rfl,Nat.zero_le _,ag.refl _ _,.nil⟩ ?_
 rintro next z ys M3 hnext ⟨i,dv,rfl,rfl,hil,k3,o3⟩
 dsimp only[aa]
 rw[fM]
 refine aH (fun hlt=>?_) (fun hge=>?_)
 ·have hlt:i<es.length:=of_decide_eq_true hlt
  have n3:=k3.next
  have hcl:=IG es i
  refine bT (fun zs M'=>∃ dv',zs=[dv']∧ag [] M M'∧Ow xV M' M.next T9 dv' (jX es (i + 1))) ?_ ?_
  ·rintro zs M' ⟨dv',rfl,k',o'⟩
   dsimp only[aa]
   rw[add1 (by omega)]
   exact hnext _ _ _ (by omega) ⟨i + 1,dv',rfl,rfl,by omega,k',o'⟩
  intro J hJ
  rw[rU (aM.keep r3 k3 (by simp)) hlt]
  have hx:=VJ hlt
  generalize es[i]=x at *
  rw[bn,iK (n:=5) (x:=.agg (aB.cells x)) (l:=[(N .i64 0),(N .u64 0),(St []),(St []),(St [])]) (RM.aQ _) rfl rfl (tQ x)]
  have k4:ag [] M3 ((M3.push (.row [(N .i64 0),(N .u64 0),(St []),(St []),(St [])] false TN 0)).put M3.next (.row (AV.agg (aB.cells x)).cells false TN 0)):=((ag.refl _ _).push _).new _ (Nat.le_refl _)
  have h4:((M3.push (.row [(N .i64 0),(N .u64 0),(St []),(St []),(St [])] false TN 0)).put M3.next (.row (AV.agg (aB.cells x)).cells false TN 0)).heap M3.next=some (.row (aB.cells x) false TN 0):=aR _
  generalize (M3.push (.row [(N .i64 0),(N .u64 0),(St []),(St []),(St [])] false TN 0)).put M3.next (.row (AV.agg (aB.cells x)).cells false TN 0)=M4 at *
  generalize M3.next=b at *
  have o4:=o3.keep k4 (by simp)
  have k04:=k3.trans k4
  rw[aM.len o4.fu,bU]
  refine orP (P:=fun M'=>M'=M4) (p:=decide (nm es (i - 1)≠nm es i)) rfl (fun hc K hK=>?_) fun M5 hM5=>?_
  ·have hi0:i≠0:=fun e=>by
    subst e; simp[jX] at hc
   have hlp:0<(jX es i).length:=by
    simp only[beq_eq_false_iff_ne,ne_eq] at hc; omega
   rw[aM.len o4.fu,dI hlp (by omega)]
   obtain⟨b1,o1,_,_,hidx,hcell⟩:=Sl.uB (E:=xV) (i:=(jX es i).length - 1) o4.fu (((jX es i).length - 1:Nat) : Int) (by omega) rfl rfl
   have hlast:(jX es i)[(jX es i).length - 1]'(by omega)=nm es (i - 1):=by
    have:=JS es (i - 1)
    rw[show i - 1 + 1=i by omega,List.getLast?_eq_getElem?,List.getElem?_eq_getElem (by omega)] at this
    exact Option.some.inj this
   rw[hidx,fH,hcell (St (nm es (i - 1))) (by rw[hlast]; rfl)]
   simp only[Option.some.injEq,exists_eq_left']
   rw[aF,aj (i:=0 + 2) (x:=St x.2.1) h4 rfl,nG]
   refine hK M4 rfl |> fun h=>?_
   rw[show(nm es (i - 1) != x.2.1)=decide (nm es (i - 1)≠nm es i) by rw[hx]; by_cases h:nm es (i - 1)=x.2.1 <;> simp[h]]
   exact h
  ·subst hM5
   have hc0:((((jX es i).length:Nat) : Int) == 0)=decide (i=0):=by
    cases i with
    | zero=>simp[jX]
    | succ i =>
      have:=List.length_pos_iff.2 (aiz es i)
      rw[decide_eq_false (by omega),beq_eq_false_iff_ne]
      omega
   rw[hc0]
   refine aH (fun hc=>?_) (fun hc=>?_)
   ·simp only[Bool.or_eq_true,decide_eq_true_eq] at hc
    rw[aF,aj (i:=0 + 2) (x:=St x.2.1) h4 rfl,lv (x:=St x.2.1) (size:=1) rfl rfl rfl,bn]
    refine yU (E:=xV) (a:=x.2.1) o4 (by have:=k04.next; omega) (by decide) (by omega) (by omega) fun v2 M7 o7 k7 n7 _=>?_
    refine hJ _ _ ⟨v2,rfl,k04.aY k7 (fun d hd=>.inl (o4.blk d hd).1), ?_⟩
    rw[jX,if_pos hc,hx]
    exact o7
   ·refine hJ _ _ ⟨dv,rfl,k04, ?_⟩
    rw[jX,if_neg (by simpa using hc)]
    exact o4
 ·have he:i=es.length:=by
   have:¬ i<es.length:=of_decide_eq_false hge
   omega
  subst he
  exact hQ dv M3 o3 k3
def Cv (T9:Nat) (c:au) : Prop:=∀ {M:RM} {v:AV} {es:List aP} {Q:ak},Sl aB M v es→es.length≤50000→(∀ v' M',Ow xV M' M.next T9 v' (jX es es.length)→ag [] M M'→Q v' M')→c [v] M Q
theorem Oh {T9:Nat} : Cv T9 fun args M Q=>∃ a0,args=[a0]∧GG T9 a0 M Q:=by
 intro M v es Q hv hlen hQ
 refine⟨_,rfl, ?_⟩
 unfold GG
 simp only[gT,gU,fG,ig,dG]
 refine⟨_,_,_,_,rfl,rfl,by decide,by decide,by decide,by decide, ?_⟩
 dsimp only
 rw[bn]
 have k0:ag [] M (M.push (.row (bW [(St [])] 0) false T9 0)):=(ag.refl _ _).push _
 refine aK (fun z ys M3=>∃ (i:Nat) (dv:AV),z=es.length - i∧ys=[dv,N .i64 (i:Int)]∧i≤es.length∧ag [] M M3∧Ow xV M3 M.next T9 dv (jX es i)) _
  ⟨0,_,rfl,rfl,Nat.zero_le _,k0,Own.lit M (Nat.le_refl _)⟩ ?_
 rintro next z ys M3 hnext ⟨i,dv,rfl,rfl,hil,k3,o3⟩
 dsimp only[aa]
 have hv3:Sl aB M3 v es:=aM.keep hv k3 (by simp)
 rw[aM.len hv3,fM]
 refine aH (fun hlt=>?_) (fun hge=>?_)
 ·have hlt:i<es.length:=of_decide_eq_true hlt
  have n3:=k3.next
  have hcl:=IG es i
  have hx:=VJ hlt
  refine bT (fun zs M'=>∃ dv',zs=[dv']∧ag [] M M'∧Ow xV M' M.next T9 dv' (jX es (i + 1))) ?_ ?_
  ·rintro zs M' ⟨dv',rfl,k',o'⟩
   dsimp only[aa]
   rw[add1 (by omega)]
   exact hnext _ _ _ (by omega) ⟨i + 1,dv',rfl,rfl,by omega,k',o'⟩
  intro J hJ
  rw[bU]
  refine orP (P:=fun M'=>M'=M3) (p:=decide (nm es (i - 1)≠nm es i)) rfl (fun hc K hK=>?_) fun M5 hM5=>?_
  ·have hi0:1≤i:=by
    simp only[beq_eq_false_iff_ne,ne_eq] at hc; omega
   obtain⟨b1,o1,_,_,nL,Nj⟩:=Sl.at (E:=aB) (i:=i) hv3 5 (i:Int) hlt rfl rfl
   obtain⟨b2,o2,_,_,iq,qL⟩:=Sl.at (E:=aB) (i:=i - 1) hv3 5 ((i - 1:Nat) : Int) (by omega) rfl rfl
   rw[nL,aF]
   refine pQ (j:=2) Nj (x:=St es[i].2.1) rfl ?_
   rw[dI hi0 (by omega),iq,aF]
   refine pQ (j:=2) qL (x:=St (es[i - 1]'(by omega)).2.1) rfl ?_
   rw[nG,← VJ hlt,← VJ (show i - 1<es.length by omega),show(nm es i != nm es (i - 1))=decide (nm es (i - 1)≠nm es i) by by_cases h:nm es (i - 1)=nm es i <;> simp[h]; exact fun e=>h e.symm]
   exact hK M3 rfl
  ·subst hM5
   rw[show((i:Int) == 0)=decide (i=0) by by_cases h:i=0 <;> simp[h]]
   refine aH (fun hc=>?_) (fun hc=>?_)
   ·simp only[Bool.or_eq_true,decide_eq_true_eq] at hc
    obtain⟨b1,o1,_,_,nL,Nj⟩:=Sl.at (E:=aB) (i:=i) hv3 5 (i:Int) hlt rfl rfl
    rw[nL,aF]
    refine pQ (j:=2) Nj (x:=St es[i].2.1) rfl ?_
    rw[lv (x:=St es[i].2.1) (size:=1) rfl rfl rfl,bn]
    refine yU (E:=xV) (a:=es[i].2.1) o3 (by omega) (by decide) (by omega) (by omega) fun v2 M7 o7 k7 n7 _=>?_
    refine hJ _ _ ⟨v2,rfl,k3.aY k7 (fun d hd=>.inl (o3.blk d hd).1), ?_⟩
    rw[jX,if_pos hc,hx]
    exact o7
   ·refine hJ _ _ ⟨dv,rfl,k3, ?_⟩
    rw[jX,if_neg (by simpa using hc)]
    exact o3
 ·have he:i=es.length:=by
   have:¬ i<es.length:=of_decide_eq_false hge
   omega
  subst he
  exact hQ dv M3 o3 k3
def Ng (TD:Nat) (c:au) : Prop:=∀ {M:RM} {v:AV} {l:List Ev} {S:Nat→Prop} {Q:ak},gD lY M v l S→(dO l).length≤90000→l.length≤10000 →
 (∀ v' M',Ow dM M' M.next TD v' (sN [] (dO l))→ag [] M M'→Q v' M')→c [v] M Q
theorem MN {l:List Ev} {i:Nat} (h:i<l.length) : dO (l.take (i + 1))=dO (l.take i)++l[i].1.1 :: l[i].2:=by
 rw[List.take_succ_eq_append_getElem h,dO,dO,List.flatMap_append,List.flatMap_singleton]
theorem aeS {l:List Ev} : ∀ i,(dO (l.take i)).length≤(dO l).length:=fun i=>by
 have:dO l=dO (l.take i)++dO (l.drop i):=by
  unfold dO
  rw[← List.flatMap_append,List.take_append_drop]
 rw[this,List.length_append]; omega
theorem aaI (u v w:List aC) : sN u (v++w)=sN (sN u v) w:=List.foldl_append
theorem XT {TD:Nat} {ca:au} (ha:Ud TD ca) : Ng TD fun args M Q=>∃ a0,args=[a0]∧YT ca a0 M Q:=by
 intro M v l S Q hv hdl hlen hQ
 refine⟨_,rfl, ?_⟩
 unfold YT
 refine aK (fun z ys M3=>∃ (i:Nat) (dv:AV),z=l.length - i∧ys=[dv,N .i64 (i:Int)]∧i≤l.length∧ag [] M M3∧Ow dM M3 M.next TD dv (sN [] (dO (l.take i)))) _
  ⟨0,dV,rfl,rfl,Nat.zero_le _,ag.refl _ _,.nil⟩ ?_
 rintro next z ys M3 hnext ⟨i,dv,rfl,rfl,hil,k3,o3⟩
 dsimp only[aa]
 have hv3:=hv.keep k3 (by simp)
 rw[hv3.len,fM]
 refine aH (fun hlt=>?_) (fun hge=>?_)
 ·have hlt:i<l.length:=of_decide_eq_true hlt
  have n3:=k3.next
  have hd1:=aeS (l:=l) (i + 1)
  rw[MN hlt,List.length_append,List.length_cons] at hd1
  have hu1:=FR (u:=[]) (v:=dO (l.take i))
  obtain⟨b,o,kv,hidx,hld,hkv⟩:=mU hv3 hlt
  rw[hidx,aF,Nat.add_zero,fZ,tT hld 2 (by decide)]
  refine⟨_,rfl, ?_⟩
  refine ha (d:=l[i].1.1) o3 n3 (by simp at hu1; omega) fun v4 M4 o4 k4=>?_
  refine aK (fun z ys M5=>∃ (j:Nat) (dv:AV),z=l[i].2.length - j∧ys=[dv,N .i64 (j:Int)]∧j≤l[i].2.length∧ag [] M M5∧Ow dM M5 M.next TD dv (sN (sN [] (dO (l.take i))) (l[i].1.1 :: l[i].2.take j))) _
   ⟨0,v4,rfl,rfl,Nat.zero_le _,k3.trans k4,o4⟩ ?_
  rintro jv z ys M5 dQ ⟨j,dv5,rfl,rfl,hj,k5,o5⟩
  dsimp only[aa]
  have hv5:=hv.keep k5 (by simp)
  obtain⟨b2,o2,kv2,iq,qL,Zy⟩:=mU hv5 hlt
  rw[iq,aF]
  refine pQ (j:=6) qL (x:=kv2) rfl ?_
  rw[aM.len Zy,fM]
  refine aH (fun hlt2=>?_) (fun pg=>?_)
  ·have hlt2:j<l[i].2.length:=of_decide_eq_true hlt2
   rw[iq,aF]
   refine pQ (j:=6) qL (x:=kv2) rfl ?_
   rw[tq Zy hlt2]
   have hu2:=FR (u:=sN [] (dO (l.take i))) (v:=l[i].1.1 :: l[i].2.take j)
   have n5:=k5.next
   refine ha o5 n5 (by simp at hu1 hu2; omega) fun v6 M6 o6 k6=>?_
   rw[add1 (by omega)]
   refine dQ _ _ _ (by omega) ⟨j + 1,v6,rfl,rfl,by omega,k5.trans k6, ?_⟩
   rw[List.take_succ_eq_append_getElem hlt2,← List.cons_append,aaI]
   exact o6
  ·have hje:j=l[i].2.length:=by
    have:¬ j<l[i].2.length:=of_decide_eq_false pg
    omega
   subst hje
   rw[List.take_length,← aaI,← MN hlt] at o5
   rw[add1 (by omega)]
   exact hnext _ _ _ (by omega) ⟨i + 1,dv5,rfl,rfl,by omega,k5,o5⟩
 ·have he:i=l.length:=by
   have:¬ i<l.length:=of_decide_eq_false hge
   omega
  subst he
  rw[List.take_length] at o3
  exact hQ dv M3 o3 k3
def gV (s:List UInt8) : List UInt8:=bi s.length++s
def iL (x:aP) : List UInt8:=bi x.1.1.toNat++bi x.1.2++gV x.2.1++gV x.2.2.1++gV x.2.2.2
def zy (ps:List Pt) (es:List aP) : List UInt8:=gV (encS ps)++bi es.length++es.flatMap iL
def tH (x:aP) : Prop:=0≤x.1.1∧x.1.1<16∧x.1.2<2 ^ 64∧x.2.1.length≤600∧x.2.2.1.length≤600∧x.2.2.2.length≤600
theorem lU {s:List UInt8} (h:s.length<2 ^ 64) : (gV s).length≤s.length + 10:=by
 have:=dJ h
 rw[gV,List.length_append]; omega
theorem ai7 {x:aP} (h:tH x) : (iL x).length≤2000:=by
 obtain⟨h1,h2,h3,h4,h5,h6⟩:=h
 have a1:=dJ (v:=x.1.1.toNat) (by omega)
 have a2:=dJ h3
 have a3:=lU (s:=x.2.1) (by omega)
 have a4:=lU (s:=x.2.2.1) (by omega)
 have a5:=lU (s:=x.2.2.2) (by omega)
 simp only[iL,List.length_append]
 omega
theorem Dv {es:List aP} (h:∀ x∈es,tH x) : ∀ i,((es.take i).flatMap iL).length≤2000 * i
 | 0=>by simp
 | i + 1=>by
   have ih:=Dv h i
   by_cases hi:i<es.length
   ·rw[List.take_succ_eq_append_getElem hi,List.flatMap_append,List.length_append,List.flatMap_singleton]
    have:=ai7 (h _ (List.getElem_mem hi))
    omega
   ·rw[List.take_of_length_le (by omega)] at ih ⊢
    omega
theorem U3 {es:List aP} {i:Nat} (h:i<es.length) (p:List UInt8) : p++(es.take (i + 1)).flatMap iL=(p++(es.take i).flatMap iL)++iL es[i]:=by
 rw[List.take_succ_eq_append_getElem h,List.flatMap_append,List.flatMap_singleton,List.append_assoc]
theorem NN {M:RM} {zs:List AV} (s:List UInt8) : nQ M 1 zs false (St s)=some (s.length,ek s):=by
 simp only[nQ,if_true]
def Ni (T:Nat) (c:au) : Prop:=∀ {M:RM} {v:AV} {L s:List UInt8} {Q:ak},Sl BY M v L→L.length + s.length≤1000000000 →
 (∀ r M',Own M' M.next T 1 r (ek (L++gV s)) (L++gV s).length→ag [] M M'→Q r M')→c [v,St s] M Q
theorem XY {T:Nat} {cu:au} (hu:Gi T cu) : Ni T fun args M Q=>∃ a0 a1,args=[a0,a1]∧Y8 cu T a0 a1 M Q:=by
 intro M v L s Q hv hl hQ
 refine⟨_,_,rfl, ?_⟩
 unfold Y8
 have hv:aM M 1 v (BY.row L) L.length:=hv
 rw[CR] at hv
 rw[mP,gz,dB (by omega) (by omega)]
 refine hu (v:=s.length) hv (mM _) (by omega) (by omega) fun r M1 o1 k1=>?_
 have n1:=k1.next
 have u10:=dJ (v:=s.length) (by omega)
 refine uz o1 n1 (Nat.le_refl _) (NN s) (by simp) (mM _) (by omega) (by omega) fun v' M' o2 k2 _ _=>?_
 refine hQ v' M' ?_ (k1.aY k2 fun d hd=>.inl (o1.blk d hd).1)
 rw[show ek (L++gV s)=List.map By L++ek (bi s.length)++ek s by rw[gV,mD,mD,List.append_assoc],show(L++gV s).length=L.length + (bi s.length).length + s.length by simp[gV]; omega]
 exact o2
theorem qp.aAR {T base:Nat} {M:RM} {v:AV} {L L' : List UInt8} {zs:List AV} {K:ak} (h:qp T M base v L) (hb:base≤M.next) (hl:L.length + L'.length≤1000000000)
  (hK:∀ v' M',qp T M' base v' (L++L')→ag (aD v) M M'→(∀ d∈aD v,base≤d)→K v' M') : appW T 1 1 zs false v (St L') M K:=by
 rcases h with h | ⟨b,rfl,h1,h2,h3⟩
 ·refine uz h hb (Nat.le_refl _) (NN L') (by simp) (mM _) (by omega) (by omega) ?_
  intro v' M' o k _ _
  refine hK v' M' (.inl ?_) k (fun d hd=>(h.blk d hd).1)
  rw[mD,List.length_append]; exact o
 ·refine⟨L'.length,ek L',NN L',by omega,by omega, ?_⟩
  by_cases h0:L'.length=0
  ·have:L'=[]:=List.length_eq_zero_iff.1 h0
   subst this
   refine⟨.slc b 0 L.length (.ex L.length),M,by simp[qK],hK _ _ (.inr ⟨b,by simp,h1,h2,by simpa using h3⟩) (ag.refl _ _) (by simp[aD]; exact h1)⟩
  ·have hld:M.loads b 0 (L.length * 1)=some (ek L):=by
    rw[RM.dx h3 (by simp),Nat.mul_one,List.drop_zero,List.take_of_length_le (by simp)]
   refine⟨.slc M.next 0 (L.length + L'.length) (.op 1),M.push (.row (ek L++ek L') true T 0), ?_,hK _ _ (.inl ?_) ((ag.refl _ _).push _) (by simp[aD]; exact h1)⟩
   ·have hone:(ek L++ek L').all oneCell=true:=by rw[List.all_append,mM,mM]; rfl
    simp only[qK,if_neg h0,if_neg (show ¬ L.length + L'.length≤L.length by omega),hld]
    rw[if_pos ⟨by omega,by omega,hone⟩]
   ·rw[List.length_append,mD]
    exact .op _ _ _ hb (by simp[RM.push]) (RM.aQ _) (by simp)
def OA (T:Nat) (c:au) : Prop:=∀ {M:RM} {s:List UInt8} {Q:ak},s.length≤900000000→(∀ r M',qp T M' M.next r (gV s)→ag [] M M'→Q r M')→c [St s] M Q
theorem Wn {T:Nat} {cu:au} (hu:Hq T cu) : OA T fun args M Q=>∃ a0,args=[a0]∧E8 cu T a0 M Q:=by
 intro M s Q hl hQ
 refine⟨_,rfl, ?_⟩
 unfold E8
 rw[mP,gz,dB (by omega) (by omega)]
 refine hu s.length (by omega) fun r M1 o1 k1=>?_
 have n1:=k1.next
 have u10:=dJ (v:=s.length) (by omega)
 refine qp.aAR o1 n1 (by omega) fun v' M2 o2 k2 hb=>?_
 exact hQ v' M2 o2 (k1.aY k2 fun d hd=>.inl (hb d hd))
def zu (TS T TB:Nat) (c:au) : Prop:=∀ {M:RM} {t:Nat} {B:Nat→Prop} {ps:List Pt} {es:List aP} {Q:ak},oC TS T B M t ps es→(∀ p∈ps,Bd p)→(∀ x∈es,tH x)→es.length≤340000 →
 (∀ r M',Own M' M.next TB 1 r (ek (zy ps es)) (zy ps es).length→(encS ps).length≤200000000→ag [] M M'→Q r M')→c [.ptr t 0] M Q
theorem Vm {TS T TB TN:Nat} {ce ct cu:au} (he:Bb T TB ce) (ht:Ni TB ct) (hu:Gi TB cu) : zu TS T TB fun args M Q=>∃ a0,args=[a0]∧x9 ce ct cu TN a0 M Q:=by
 intro M t B ps es Q hst hbd hok hlen hQ
 refine⟨_,rfl, ?_⟩
 unfold x9
 obtain⟨s0,v,r1,⟨S,r2,_⟩,r3,_,_⟩:=hst.row
 have htl:=hst.lt
 rw[aG,aS,aj (i:=0) r1 rfl,aG,aF,aj (i:=0 + 1) r1 rfl,aM.len r3,gz,dB (by omega) (by omega)]
 refine he r2 hbd fun b1 M1 o1 hel k1=>?_
 have n1:=k1.next
 have r11:=k1.aN r1 htl (by simp)
 rw[aj (i:=0 + 1) r11 rfl]
 refine⟨rfl, ?_⟩
 rw[Sl.str (Own.sl o1)]
 refine ht (L:=[]) (s:=encS ps) .nil (by simp; omega) fun b2 M2 o2 k2=>?_
 have n2:=k2.next
 have r12:=k2.aN r11 (by omega) (by simp)
 rw[aj (i:=0 + 1) r12 rfl]
 refine⟨rfl, ?_⟩
 rw[List.nil_append] at o2
 have tl:=lU (s:=encS ps) (by omega)
 have o2':=o2.mono (base':=M.next) n1
 refine hu.app o2' (by omega) (by omega) (by omega) fun b3 M3 o3 k3=>?_
 have n3:=k3.next
 have k03:=(k1.trans k2).trans k3
 have r13:=k3.aN r12 (by omega) (by simp)
 rw[aG,aF,aj (i:=0 + 1) r13 rfl,aM.len r3]
 have u10:=dJ (v:=es.length) (by omega)
 have hpl:(gV (encS ps)++bi es.length).length≤200000020:=by rw[List.length_append]; omega
 unfold zy at hQ
 generalize gV (encS ps)++bi es.length=p at *
 refine aK (fun z ys M4=>∃ (i:Nat) (dv:AV),z=es.length - i∧ys=[dv,N .i64 (i:Int)]∧i≤es.length∧ag [] M M4∧Own M4 M.next TB 1 dv (ek (p++(es.take i).flatMap iL)) (p++(es.take i).flatMap iL).length) _
  ⟨0,b3,rfl,rfl,Nat.zero_le _,k03,by simpa using o3⟩ ?_
 rintro next z ys M4 hnext ⟨i,dv,rfl,rfl,hil,k4,o4⟩
 dsimp only[aa]
 rw[fM]
 refine aH (fun hlt=>?_) (fun hge=>?_)
 ·have hlt:i<es.length:=of_decide_eq_true hlt
  have n4:=k4.next
  have hfl:=Dv hok i
  have hLl:(p++(es.take i).flatMap iL).length≤200000020 + 2000 * 340000:=by rw[List.length_append]; omega
  have hstep:∀ w M',ag [] M M'→Own M' M.next TB 1 w (ek ((p++(es.take i).flatMap iL)++iL es[i])) ((p++(es.take i).flatMap iL)++iL es[i]).length→next [w,N .i64 ((i + 1:Nat) : Int)] M':=fun w M' k o=>by
   refine hnext _ _ _ (by omega) ⟨i + 1,w,rfl,rfl,by omega,k, ?_⟩
   rw[U3 hlt]; exact o
  rw[rU (aM.keep r3 k4 (by simp)) hlt]
  generalize p++(es.take i).flatMap iL=L at *
  obtain⟨e1,e2,e3,e4,e5,e6⟩:=hok _ (List.getElem_mem hlt)
  generalize es[i]=x at *
  rw[bn,iK (n:=5) (x:=.agg (aB.cells x)) (l:=[(N .i64 0),(N .u64 0),(St []),(St []),(St [])]) (RM.aQ _) rfl rfl (tQ x)]
  have k5:ag [] M4 ((M4.push (.row [(N .i64 0),(N .u64 0),(St []),(St []),(St [])] false TN 0)).put M4.next (.row (AV.agg (aB.cells x)).cells false TN 0)):=((ag.refl _ _).push _).new _ (Nat.le_refl _)
  have h5:((M4.push (.row [(N .i64 0),(N .u64 0),(St []),(St []),(St [])] false TN 0)).put M4.next (.row (AV.agg (aB.cells x)).cells false TN 0)).heap M4.next=some (.row (aB.cells x) false TN 0):=aR _
  have l5:M4.next<((M4.push (.row [(N .i64 0),(N .u64 0),(St []),(St []),(St [])] false TN 0)).put M4.next (.row (AV.agg (aB.cells x)).cells false TN 0)).next:=by rw[ny]; simp[RM.push]
  have o5:=o4.keep k5 (by simp)
  have k05:=k4.trans k5
  generalize (M4.push (.row [(N .i64 0),(N .u64 0),(St []),(St []),(St [])] false TN 0)).put M4.next (.row (AV.agg (aB.cells x)).cells false TN 0)=M5 at *
  generalize M4.next=b at *
  obtain⟨dn,hdn⟩:=Int.eq_ofNat_of_zero_le e1
  have n5:=k05.next
  rw[aS,aS,aj (i:=0) (x:=N .i64 x.1.1) h5 rfl,gz,dB (by omega) (by omega),aS,aF,aj (i:=0 + 1) (x:=N .u64 (x.1.2:Int)) h5 rfl]
  rw[show x.1.1=((x.1.1.toNat:Nat) : Int) by omega]
  refine hu.app o5 n5 (by omega) (by omega) fun b6 M6 o6 k6=>?_
  have a1:=dJ (v:=x.1.1.toNat) (by omega)
  have h6:=k6.aN h5 l5 (by simp)
  have n6:=k6.next
  rw[aj (i:=0 + 1) (x:=N .u64 (x.1.2:Int)) h6 rfl]
  refine⟨rfl, ?_⟩
  refine hu.app o6 (by omega) (by rw[List.length_append]; omega) e3 fun b7 M7 o7 k7=>?_
  have a2:=dJ e3
  have h7:=k7.aN h6 (by omega) (by simp)
  have n7:=k7.next
  rw[aF,aj (i:=0 + 2) (x:=St x.2.1) h7 rfl,aF,aj (i:=0 + 3) (x:=St x.2.2.1) h7 rfl,aF,aj (i:=0 + 4) (x:=St x.2.2.2) h7 rfl]
  refine ht (Own.sl o7) (by simp only[List.length_append]; omega) fun b8 M8 o8 k8=>?_
  have a3:=lU (s:=x.2.1) (by omega)
  have h8:=k8.aN h7 (by omega) (by simp)
  have n8:=k8.next
  rw[aj (i:=0 + 3) (x:=St x.2.2.1) h8 rfl]
  refine⟨rfl, ?_⟩
  rw[aj (i:=0 + 4) (x:=St x.2.2.2) h8 rfl]
  refine⟨rfl, ?_⟩
  refine ht (Own.sl o8) (by simp only[List.length_append]; omega) fun b9 M9 o9 k9=>?_
  have a4:=lU (s:=x.2.2.1) (by omega)
  have h9:=k9.aN h8 (by omega) (by simp)
  have n9:=k9.next
  rw[aj (i:=0 + 4) (x:=St x.2.2.2) h9 rfl]
  refine⟨rfl, ?_⟩
  refine ht (Own.sl o9) (by simp only[List.length_append]; omega) fun b10 M10 o10 k10=>?_
  rw[add1 (by omega)]
  refine hstep b10 M10 ((((((k05.trans k6).trans k7).trans k8).trans k9).trans k10)) ?_
  rw[show L++iL x=L++bi x.1.1.toNat++bi x.1.2++gV x.2.1++gV x.2.2.1++gV x.2.2.2 by simp[iL]]
  exact o10.mono (by omega)
 ·have he:i=es.length:=by
   have:¬ i<es.length:=of_decide_eq_false hge
   omega
  subst he
  rw[List.take_length] at o4
  exact hQ dv M4 o4 hel k4
def Kq (TB:Nat) (c:au) : Prop:=∀ {M:RM} {u v:AV} {w:List aC} {es:List aP} {Q:ak},Sl dM M u w→(∀ d∈w,good d=true)→w.length≤5000→(wQ (gQ w)).length≤200000000→Sl aB M v es→(∀ x∈es,tH x)→es.length≤100000 →
 (∀ r M',qp TB M' M.next r (gV (wQ (gQ w))++bi es.length++es.flatMap iL)→ag [] M M'→Q r M')→c [u,v] M Q
theorem Vx {TB:Nat} {ce ct cu:au} (he:xE TB ce) (ht:OA TB ct) (hu:Hq TB cu) : Kq TB fun args M Q=>∃ a0 a1,args=[a0,a1]∧Ad ce ct cu TB a0 a1 M Q:=by
 intro M u v w es Q hw hg hwl hel hv hok hlen hQ
 refine⟨_,_,rfl, ?_⟩
 unfold Ad
 refine he hw hg hwl fun b1 M1 o1 k1=>?_
 have n1:=k1.next
 rw[Sl.str o1.sl]
 refine ht (by omega) fun b2 M2 o2 k2=>?_
 have n2:=k2.next
 have k02:=k1.trans k2
 have tl:=lU (s:=wQ (gQ w)) (by omega)
 have hv2:Sl aB M2 v es:=aM.keep hv k02 (by simp)
 rw[aM.len hv2,gz,dB (by omega) (by omega)]
 have u10:=dJ (v:=es.length) (by omega)
 have mono:∀ {M' : RM} {r:AV} {L:List UInt8},qp TB M' M1.next r L→qp TB M' M.next r L:=fun h=>by
  rcases h with h | ⟨b,rfl,h1,h2,h3⟩
  ·exact .inl (h.mono n1)
  ·exact .inr ⟨b,rfl,by omega,h2,h3⟩
 refine qZ hu k02 (mono o2) (by omega) (by omega) fun b3 M3 o3 k3 _=>?_
 have hpl:(gV (wQ (gQ w))++bi es.length).length≤200000020:=by rw[List.length_append]; omega
 generalize gV (wQ (gQ w))++bi es.length=p at *
 refine aK (fun z ys M4=>∃ (i:Nat) (dv:AV),z=es.length - i∧ys=[dv,N .i64 (i:Int)]∧i≤es.length∧ag [] M M4∧qp TB M4 M.next dv (p++(es.take i).flatMap iL)) _
  ⟨0,b3,rfl,rfl,Nat.zero_le _,k3,by simpa using o3⟩ ?_
 rintro next z ys M4 hnext ⟨i,dv,rfl,rfl,hil,k4,o4⟩
 dsimp only[aa]
 have hv4:Sl aB M4 v es:=aM.keep hv k4 (by simp)
 rw[aM.len hv4,fM]
 refine aH (fun hlt=>?_) (fun hge=>?_)
 ·have hlt:i<es.length:=of_decide_eq_true hlt
  have n4:=k4.next
  have hfl:=Dv hok i
  have hLl:(p++(es.take i).flatMap iL).length≤200000020 + 2000 * 100000:=by rw[List.length_append]; omega
  have hstep:∀ w M',ag [] M M'→qp TB M' M.next w ((p++(es.take i).flatMap iL)++iL es[i])→next [w,N .i64 ((i + 1:Nat) : Int)] M':=fun w M' k o=>by
   refine hnext _ _ _ (by omega) ⟨i + 1,w,rfl,rfl,by omega,k, ?_⟩
   rw[U3 hlt]; exact o
  generalize p++(es.take i).flatMap iL=L at *
  obtain⟨e1,e2,e3,e4,e5,e6⟩:=hok _ (List.getElem_mem hlt)
  have a1:=dJ (v:=es[i].1.1.toNat) (by omega)
  have a2:=dJ e3
  have a3:=lU (s:=es[i].2.1) (by omega)
  have a4:=lU (s:=es[i].2.2.1) (by omega)
  have a5:=lU (s:=es[i].2.2.2) (by omega)
  obtain⟨b,o,_,_,hidx,hld⟩:=Sl.at (E:=aB) (i:=i) hv4 5 (i:Int) hlt rfl rfl
  have aAc:∀ {M' : RM},ag [] M M'→Sl aB M' v es:=fun k=>aM.keep hv k (by simp)
  have hcell:∀ {M' : RM} {j:Nat} {x:AV} {K:AV→Prop},ag [] M M'→(aB.cells es[i])[j]?=some x→K x→ai M' (.ptr b (o + j)) K:=fun {M'} {j} {x} {K} k hj hK=>by
   obtain⟨b',o',_,_,au5,ayN⟩:=Sl.at (E:=aB) (i:=i) (aAc k) 5 (i:Int) hlt rfl rfl
   have hEq:AV.ptr b o=AV.ptr b' o':=by
    have h1:=hidx .i64 (fun a=>a=AV.ptr b o)
    have h2:=au5 .i64 (fun a=>a=AV.ptr b o)
    have:(AV.ptr b' o'=AV.ptr b o):=by rw[← h2,h1]
    exact this.symm
   cases hEq
   exact pQ ayN hj hK
  rw[hidx,aF,Nat.add_zero,aF]
  refine hcell (j:=0) k4 (x:=N .i64 es[i].1.1) rfl ?_
  rw[gz,dB (by omega) (by omega),hidx,aF,Nat.add_zero,aF]
  refine hcell (j:=1) k4 (x:=N .u64 (es[i].1.2:Int)) rfl ?_
  rw[show es[i].1.1=((es[i].1.1.toNat:Nat) : Int) by omega]
  refine hu es[i].1.1.toNat (by omega) fun r5 M5 o5 k5=>?_
  refine hcell (j:=1) (k4.trans k5) (x:=N .u64 (es[i].1.2:Int)) rfl ⟨rfl, ?_⟩
  have n5:=k5.next
  refine(o4.keep k5).app (by omega) o5.sl (by omega) fun b6 M6 o6 k6 hb6=>?_
  have k06:=(k4.trans k5).aY k6 (fun d hd=>.inl (hb6 d hd))
  refine hcell (j:=1) k06 (x:=N .u64 (es[i].1.2:Int)) rfl ⟨rfl, ?_⟩
  refine qZ hu k06 o6 e3 (by rw[List.length_append]; omega) fun b7 M7 o7 k7 _=>?_
  rw[hidx,aF]
  refine hcell (j:=2) k7 (x:=St es[i].2.1) rfl ?_
  rw[hidx,aF]
  refine hcell (j:=3) k7 (x:=St es[i].2.2.1) rfl ?_
  rw[hidx,aF]
  refine hcell (j:=4) k7 (x:=St es[i].2.2.2) rfl ?_
  have n7:=k7.next
  refine ht (by omega) fun r8 M8 o8 k8=>?_
  have k08:=k7.trans k8
  refine hcell (j:=3) k08 (x:=St es[i].2.2.1) rfl ⟨rfl, ?_⟩
  refine hcell (j:=4) k08 (x:=St es[i].2.2.2) rfl ⟨rfl, ?_⟩
  have n8:=k8.next
  refine(o7.keep k8).app (by omega) o8.sl (by simp only[List.length_append]; omega) fun b9 M9 o9 k9 hb9=>?_
  have k09:=k08.aY k9 (fun d hd=>.inl (hb9 d hd))
  have n9:=k9.next
  refine hcell (j:=3) k09 (x:=St es[i].2.2.1) rfl ⟨rfl, ?_⟩
  refine hcell (j:=4) k09 (x:=St es[i].2.2.2) rfl ⟨rfl, ?_⟩
  refine ht (by omega) fun r10 M10 o10 k10=>?_
  have ais:=k09.trans k10
  have n10:=k10.next
  refine hcell (j:=4) ais (x:=St es[i].2.2.2) rfl ⟨rfl, ?_⟩
  refine(o9.keep k10).app (by omega) o10.sl (by simp only[List.length_append]; omega) fun b11 M11 o11 k11 az1=>?_
  have abS:=ais.aY k11 (fun d hd=>.inl (az1 d hd))
  have n11:=k11.next
  refine hcell (j:=4) abS (x:=St es[i].2.2.2) rfl ⟨rfl, ?_⟩
  refine ht (by omega) fun r12 M12 o12 k12=>?_
  have XO:=abS.trans k12
  have n12:=k12.next
  refine(o11.keep k12).app (by omega) o12.sl (by simp only[List.length_append]; omega) fun b13 M13 o13 k13 X9=>?_
  have ayI:=XO.aY k13 (fun d hd=>.inl (X9 d hd))
  rw[add1 (by omega)]
  refine hstep b13 M13 ayI ?_
  rw[show L++iL es[i]=L++bi es[i].1.1.toNat++bi es[i].1.2++gV es[i].2.1++gV es[i].2.2.1++gV es[i].2.2.2 by simp[iL]]
  exact o13
 ·have he:i=es.length:=by
   have:¬ i<es.length:=of_decide_eq_false hge
   omega
  subst he
  rw[List.take_length] at o4
  exact hQ dv M4 o4 k4
end Go.Ab.Crw
