/- Part 6 of the ground of the proofs of this seat (texts C3 to V7). By an AI agent. -/
import Derived.Test.YtngfappichkflaaGreatSho5
import Derived.Lib.IndexMore
set_option maxRecDepth 10000
set_option linter.unusedVariables false
set_option linter.unusedSimpArgs false
namespace Go.Ab.Crw
open Go Go.Ab Go.Ab.aH
def LV (T:Nat) (c:ak) : Prop:=∀ {M:RM} {v:AV} {xs:List aD} {Q:aj},Sl aA M v xs→xs.length≤1000000→(∀ v' M',Ow aA M' M.next T v' xs→ag [] M M'→Q v' M')→c [v] M Q
theorem aaW {T:Nat} : LV T fun args M Q=>∃ a0,args=[a0]∧Au T a0 M Q:=by
 intro M v xs Q hs hl hQ
 refine⟨_,rfl, ?_⟩
 unfold Au
 have h5:aL M 5 v (aA.row xs) xs.length:=hs
 exact U2 (size:=5) (bytes:=64) h5 (Enc.wX _ _) (by decide) (by omega) (by omega) fun v' M' ho k=>hQ v' M' ho k
def Sb (c:ak) : Prop:=∀ {M:RM} {v:AV} {l:List aH} {d:aH} {Q:aj},Sl eX M v l→l.length≤1000000→(∀ (n:Int) M',(decide (n ≥ 0)=decide (d∈l))→ag [] M M'→Q (N .i64 n) M')→c [v,.agg (aR d)] M Q
theorem aaK {T:Nat} : Sb fun args M Q=>∃ a0 a1,args=[a0,a1]∧EQ T a0 a1 M Q:=by
 intro M0 v l d Q hs0 hl hQ
 refine⟨_,_,rfl, ?_⟩
 unfold EQ
 rw[dX rfl (by simp),bg]
 have k0:ag [] M0 (M0.push (.row (aR d) false T 0)):=(ag.refl _ _).push _
 have h0:(M0.push (.row (aR d) false T 0)).heap M0.next=some (.row (aR d) false T 0):=RM.aT _
 have hs:Sl eX (M0.push (.row (aR d) false T 0)) v l:=aL.keep hs0 k0 (by simp)
 generalize M0.push (.row (aR d) false T 0)=M at *
 generalize M0.next=b at *
 rw[aL.len hs]
 refine aG (fun m ys M3=>∃ i:Nat,m=l.length - i∧ys=[N .i64 (i:Int)]∧i≤l.length∧M3=M∧(d∈l↔d∈l.drop i)) _ ⟨0,rfl,rfl,Nat.zero_le _,rfl,Iff.rfl⟩ ?_
 rintro next m ys M3 hnext ⟨i,rfl,rfl,hi,rfl,hm⟩
 dsimp only[aa]
 rw[dB]
 refine aC (fun hlt=>?_) (fun hge=>?_)
 ·have hlt:i<l.length:=of_decide_eq_true hlt
  rw[List.drop_eq_getElem_cons hlt,List.mem_cons] at hm
  rw[eQ (n:=2) h0 rfl,wZ hs hlt,qK rfl rfl (FW _ _),Bool.bne_false]
  refine aC (fun he=>?_) (fun he=>?_)
  ·have he:d=l[i]:=of_decide_eq_true he
   refine hQ _ _ ?_ k0
   rw[decide_eq_true (show(i:Int) ≥ 0 by omega),decide_eq_true (hm.2 (.inl he))]
  ·have he:¬ d=l[i]:=of_decide_eq_false he
   rw[add1 (by omega)]
   exact hnext _ _ _ (by omega) ⟨i + 1,rfl,rfl,by omega,rfl,hm.trans ⟨fun h=>h.resolve_left he,.inr⟩⟩
 ·have he:i=l.length:=by
   have:¬ i<l.length:=of_decide_eq_false hge
   omega
  subst he
  rw[List.drop_length] at hm
  refine hQ _ _ ?_ k0
  rw[decide_eq_false (show ¬ (-1:Int) ≥ 0 by decide),decide_eq_false (fun h=>by simpa using hm.1 h)]
def H9 (c:ak) : Prop:=∀ {M:RM} {v:AV} {l:List aH} {d:aH} {Q:aj},Sl eX M v l→l.length≤1000000→(∀ M',ag [] M M'→Q (Bo (decide (d∈l))) M')→c [v,.agg (aR d)] M Q
theorem SS {T:Nat} {ci:ak} (hi:Sb ci) : H9 fun args M Q=>∃ a0 a1,args=[a0,a1]∧yz T ci a0 a1 M Q:=by
 intro M0 v l d Q hs0 hl hQ
 refine⟨_,_,rfl, ?_⟩
 unfold yz
 rw[dX rfl (by simp),bg]
 have k0:ag [] M0 (M0.push (.row (aR d) false T 0)):=(ag.refl _ _).push _
 rw[eQ (n:=2) (RM.aT _) rfl]
 refine hi (aL.keep hs0 k0 (by simp)) hl fun n M' hn k=>?_
 rw[iW,hn]
 exact hQ M' (k0.trans k)
def VH (P:RM→Prop) (p:aD→Bool) (c:List AV→RM→aj→Prop) : Prop:=∀ {M:RM} {x:aD} {Q:aj},P M→(∀ M',ag [] M M'→Q (Bo (p x)) M')→c [.agg (aA.cells x)] M Q
theorem pg {M:RM} {v:AV} {xs:List aD} (h:Sl aA M v xs) {i:Nat} (hi:i<xs.length) {kd:IntKind} {K:AV→Prop} : (ah v (N kd (i:Int)) 5 fun p=>aB M p 5 K)=K (.agg (aA.cells xs[i])):=by
 obtain⟨b,o,_,_,hidx,hld⟩:=Sl.at (E:=aA) (i:=i) h 5 (i:Int) hi rfl rfl
 rw[hidx,fB,hld]
 simp
def Te (P:RM→Prop) (p:aD→Bool) (fv:AV) (c:ak) : Prop:=∀ {M:RM} {v:AV} {xs:List aD} {Q:aj},P M→(∀ M M',P M→ag [] M M'→P M')→Sl aA M v xs→xs.length≤1000000 →
 (xs.any p=false→∀ M',ag [] M M'→Q (N .i64 (-1)) M')→(∀ (i:Nat) (hi:i<xs.length),p xs[i]=true→(∀ x∈xs.take i,p x=false)→∀ M',ag [] M M'→Q (N .i64 (i:Int)) M')→c [v,fv] M Q
theorem abd {P:RM→Prop} {p:aD→Bool} {fv:AV} {cv:FuncId→ak} (hp:VH P p (cO cv fv)) : Te P p fv fun args M Q=>∃ a0 a1,args=[a0,a1]∧uK cv a0 a1 M Q:=by
 intro M v xs Q hP hPk hs hl h0 h1
 refine⟨_,_,rfl, ?_⟩
 unfold uK
 rw[aL.len hs]
 refine aG (fun m ys M3=>∃ i:Nat,m=xs.length - i∧ys=[N .i64 (i:Int)]∧i≤xs.length∧ag [] M M3∧∀ x∈xs.take i,p x=false) _ ⟨0,rfl,rfl,Nat.zero_le _,ag.refl _ _,by simp⟩ ?_
 rintro next m ys M3 hnext ⟨i,rfl,rfl,hi,k3,hm⟩
 dsimp only[aa]
 rw[dB]
 refine aC (fun hlt=>?_) (fun hge=>?_)
 ·have hlt:i<xs.length:=of_decide_eq_true hlt
  rw[pg (aL.keep hs k3 (by simp)) hlt]
  refine hp (hPk _ _ hP k3) fun M4 k4=>?_
  refine aC (fun he=>h1 i hlt he hm M4 (k3.trans k4)) (fun he=>?_)
  rw[add1 (by omega)]
  refine hnext _ _ _ (by omega) ⟨i + 1,rfl,rfl,by omega,k3.trans k4,fun x hx=>?_⟩
  rw[List.take_succ_eq_append_getElem hlt,List.mem_append] at hx
  rcases hx with hx | hx
  ·exact hm x hx
  ·simp at hx; subst hx; exact he
 ·have he:i=xs.length:=by
   have:¬ i<xs.length:=of_decide_eq_false hge
   omega
  subst he
  rw[List.take_length] at hm
  exact h0 (by simpa using hm) M3 k3
theorem af8 {b o n k z:Nat} (h:k≤n) (h0:0<n) : cZ z (.slc b o n (.op z)) none (some (N .i64 (k:Int))) none=some (.slc b o k (.op z)):=by
 simp only[cZ,bnd]
 simp[h]
 omega
theorem Yp (zs:List AV) : ∀ k,(bO zs k).length=k * zs.length
 | 0=>by simp[bO]
 | k + 1=>by rw[bO,List.length_append,Yp zs k,Nat.succ_mul,Nat.add_comm]
theorem Y6 {zs:List AV} (h:zs.all oneCell=true) : ∀ k,(bO zs k).all oneCell=true
 | 0=>by simp[bO]
 | k + 1=>by rw[bO,List.all_append,h,Y6 h k]; rfl
def Oo (T:Nat) (P:RM→Prop) (p:aD→Bool) (fv:AV) (c:ak) : Prop:=∀ {M:RM} {base:Nat} {v:AV} {xs:List aD} {Q:aj},P M→(∀ M M' ks,P M→ag ks M M'→(∀ d∈ks,d∈aJ v)→P M')→Ow aA M base T v xs→xs.length≤60000 →
 (∀ v' M',Sl aA M' v' (xs.filter fun x=>!p x)→(∀ d∈aJ v',d∈aJ v)→ag (aJ v) M M'→Q v' M')→c [v,fv] M Q
theorem Zl {T TE:Nat} {P:RM→Prop} {p:aD→Bool} {fv:AV} {cv:FuncId→ak} {ci:ak} (hi:Te P p fv ci) (hp:VH P p (cO cv fv)) : Oo T P p fv fun args M Q=>∃ a0 a1,args=[a0,a1]∧tO ci TE cv a0 a1 M Q:=by
 intro M base v xs Q hP hPk ho hl hQ
 refine⟨_,_,rfl, ?_⟩
 unfold tO
 simp only[bF]
 have hs:Sl aA M v xs:=ho.eZ
 refine hi hP (fun M M' h k=>hPk M M' [] h k (by simp)) hs (by omega) (fun hn M1 k1=>?_) (fun i hlt hpi hm M1 k1=>?_)
 ·rw[bL,show((-1:Int) == -1)=true from rfl,dP]
  have e:(xs.filter fun x=>!p x)=xs:=List.filter_eq_self.2 fun x hx=>by
   have:=List.any_eq_false.1 hn x hx
   simpa using this
  exact hQ v M1 (by rw[e]; exact aL.keep hs k1 (by simp)) (fun d hd=>hd) (k1.mono (by simp))
 rw[bL,show((i:Int) == -1)=false by rw[beq_eq_false_iff_ne]; omega,bA,add1 (by omega)]
 obtain⟨b,rfl,h1,h2,h3,h4⟩:=Own.uO ho (by omega)
 have hsz:xs.toArray.size=xs.length:=by simp
 have hat:At aA T b xs.toArray M:=⟨by rw[h3],h2⟩
 have hel:∀ j (h:j<xs.length),xs.toArray[j]! = xs[j]:=fun j h=>by rw[KT (by simpa using h)]; simp
 have hpre0:xs.toArray.toList.take i=(xs.take (i + 1)).filter fun x=>!p x:=by
  rw[List.take_succ_eq_append_getElem hlt,List.filter_append,List.filter_eq_self.2 fun x hx=>by simpa using hm x hx]
  simp[hpi]
 refine aG (fun m ys M3=>∃ (k j:Nat) (d:Array aD),m=xs.length - j∧ys=[N .i64 (k:Int),N .i64 (j:Int)]∧j≤xs.length∧k<j∧At aA T b d M3∧ag [b] M M3∧d.size=xs.length∧d.toList.take k=(xs.take j).filter (fun x=>!p x)∧∀ q (h:q<xs.length),j≤q→d[q]! = xs[q]) _
  ⟨i,i + 1,xs.toArray,rfl,rfl,by omega,by omega,hat.keep k1,k1.mono (by simp),hsz,hpre0,fun q h _=>hel q h⟩ ?_
 rintro next m ys M3 hnext ⟨k,j,d,rfl,rfl,hj,hkj,h3',k3,hds,hpre,hold⟩
 dsimp only[aa]
 have ahz:∀ K:AV→Prop,bu (AV.slc b 0 xs.length (.op aA.size)) K=K (N .i64 (xs.length:Int)):=fun K=>by simp[lZ]
 rw[ahz,dB]
 have e5:aA.size=5:=rfl
 rw[e5] at *
 refine aC (fun hlt2=>?_) (fun mU=>?_)
 ·have hlt2:j<xs.length:=of_decide_eq_true hlt2
  refine aP (fun zs M'=>∃ (k' : Nat) (d' : Array aD),zs=[N .i64 (k' : Int)]∧k'<j + 1∧At aA T b d' M'∧ag [b] M M'∧d'.size=xs.length∧d'.toList.take k'=(xs.take (j + 1)).filter (fun x=>!p x)∧∀ q (h:q<xs.length),j + 1≤q→d'[q]! = xs[q]) ?_ ?_
  ·rintro zs M' ⟨k',d',rfl,c1,c2,c3,c4,c5,c6⟩
   dsimp only[aa]
   rw[add1 (by omega)]
   exact hnext _ _ _ (by omega) ⟨k',j + 1,d',rfl,rfl,by omega,c1,c2,c3,c4,c5,c6⟩
  intro J hJ
  rw[h3'.rd (z:=5) rfl hds.symm (by omega),hold j hlt2 (Nat.le_refl _),bg,iw (n:=5) (x:=.agg (aA.cells xs[j])) (l:=[(N .i64 0),(N .u64 0),(St []),(St []),(St [])]) (RM.aT _) rfl rfl rfl]
  have k4:ag [] M3 ((M3.push (.row [(N .i64 0),(N .u64 0),(St []),(St []),(St [])] false TE 0)).put M3.next (.row (AV.agg (aA.cells xs[j])).cells false TE 0)):=((ag.refl _ _).push _).new _ (Nat.le_refl _)
  have hk4:((M3.push (.row [(N .i64 0),(N .u64 0),(St []),(St []),(St [])] false TE 0)).put M3.next (.row (AV.agg (aA.cells xs[j])).cells false TE 0)).heap M3.next=some (.row (aA.cells xs[j]) false TE 0):=aU _
  have hn4:M3.next<((M3.push (.row [(N .i64 0),(N .u64 0),(St []),(St []),(St [])] false TE 0)).put M3.next (.row (AV.agg (aA.cells xs[j])).cells false TE 0)).next:=by simp[RM.push,RM.put]
  generalize (M3.push (.row [(N .i64 0),(N .u64 0),(St []),(St []),(St [])] false TE 0)).put M3.next (.row (AV.agg (aA.cells xs[j])).cells false TE 0)=M4 at *
  generalize M3.next=s at *
  rw[eQ (n:=5) hk4 rfl]
  have kk4:ag [b] M M4:=k3.trans (k4.mono (cs:=[b]) (by simp))
  have hP4:P M4:=hPk M M4 [b] hP kk4 (by simp[aJ])
  refine hp hP4 fun M5 k5=>?_
  have kk5:ag [b] M M5:=kk4.trans (k5.mono (cs:=[b]) (by simp))
  have aq2:=h3'.keep (k4.trans k5)
  have amM:(xs.take (j + 1)).filter (fun x=>!p x)=if p xs[j] then(xs.take j).filter (fun x=>!p x) else(xs.take j).filter (fun x=>!p x)++[xs[j]]:=by
   rw[List.take_succ_eq_append_getElem hlt2,List.filter_append]
   by_cases hpj:p xs[j]=true <;> simp[hpj]
  rw[bD]
  refine aC (fun hn=>?_) (fun hn=>?_)
  ·have hpj:p xs[j]=false:=by simpa using hn
   rw[eQ (n:=5) (k5.aQ hk4 hn4 (by simp)) rfl,At.idx (by omega)]
   refine aq2.st (z:=5) rfl (by omega) fun M6 h6 k6 _=>?_
   rw[add1 (by omega)]
   refine hJ _ _ ⟨k + 1,_,rfl,by omega,h6,kk5.trans k6,by simpa using hds, ?_,fun q h hq=>?_⟩
   ·have hkl:k<d.toList.length:=by rw[Array.length_toList]; omega
    rw[amM,hpj,← hpre,Array.toList_setIfInBounds,List.take_succ_eq_append_getElem (by rw[List.length_set]; exact hkl),List.getElem_set_self,List.take_set_of_le (Nat.le_refl _)]
    rfl
   ·rw[← hold q h (by omega),KT (by rw[Array.size_setIfInBounds]; omega),KT (by omega),Array.getElem_setIfInBounds_ne (by omega) (by omega)]
  ·have hpj:p xs[j]=true:=by simpa using hn
   exact hJ _ _ ⟨k,d,rfl,by omega,aq2,kk5,hds,by rw[amM,hpj]; exact hpre,fun q h hq=>hold q h (by omega)⟩
 ·have hj2:j=xs.length:=by
   have:¬ j<xs.length:=of_decide_eq_false mU
   omega
  subst hj2
  rw[List.take_length] at hpre
  have hrl:(aA.row d.toList).length=xs.length * 5:=by rw[Enc.eH,Array.length_toList,hds]; rfl
  have hst:M3.stores b (0 + k * 5) (bO [(N .i64 0),(N .u64 0),(St []),(St []),(St [])] (xs.length - k))=some (M3.put b (.row ((aA.row d.toList).take (0 + k * 5)++bO [(N .i64 0),(N .u64 0),(St []),(St []),(St [])] (xs.length - k)++(aA.row d.toList).drop (0 + k * 5 + (bO [(N .i64 0),(N .u64 0),(St []),(St []),(St [])] (xs.length - k)).length)) true T 0)):=by
   refine RM.Br h3'.heap ?_ (Nat.zero_le _) (Y6 rfl _)
   rw[Yp,hrl]
   show 0 + k * 5 + (xs.length - k) * 5≤xs.length * 5
   omega
  rw[sP (by omega),dO]
  refine .inl ⟨_,_,_,_,_,rfl,hst, ?_⟩
  dsimp only
  rw[af8 (by omega) (by omega),dO]
  have hlk:(xs.filter fun x=>!p x).length=k:=by rw[← hpre,List.length_take,Array.length_toList]; omega
  refine hQ _ _ ?_ (fun e he=>by simpa [aJ] using he) ?_
  ·have hrow:((aA.row d.toList).take (0 + k * 5))=aA.row (xs.filter fun x=>!p x):=by
    rw[← hpre,show 0 + k * 5=k * aA.size by show 0 + k * 5=k * 5; omega,Enc.vT]
   show aL _ 5 (.slc b 0 k (.op 5)) (aA.row (xs.filter fun x=>!p x)) (xs.filter fun x=>!p x).length
   rw[hlk]
   refine .slc _ _ _ _ _ h3'.lt ?_
   have hl:(aA.row (xs.filter fun x=>!p x)).length=k * 5:=by rw[Enc.eH,hlk]; rfl
   rw[RM.dH (aU _) (by rw[hrow]; simp[hl]),List.drop_zero,hrow,List.append_assoc,List.take_left' hl]
  ·have:ag [b] M3 (M3.put b (.row ((aA.row d.toList).take (0 + k * 5)++bO [(N .i64 0),(N .u64 0),(St []),(St []),(St [])] (xs.length - k)++(aA.row d.toList).drop (0 + k * 5 + (bO [(N .i64 0),(N .u64 0),(St []),(St []),(St [])] (xs.length - k)).length)) true T 0)):=(ag.refl _ _).put _ (.inr (by simp))
   simpa [aJ] using k3.trans this
def JI (TE:Nat) (b:Nat) (e:qI) (kv:AV) (ks:List aH) (M:RM) : Prop:=b<M.next∧M.heap b=some (.row (gz e kv) false TE 0)∧Sl eX M kv ks
theorem JI.keep {TE b:Nat} {e:qI} {kv:AV} {ks:List aH} {M M' : RM} {bs:List Nat} (h:JI TE b e kv ks M) (k:ag bs M M') (hb:b ∉ bs) (hk:∀ d∈aJ kv,d ∉ bs) : JI TE b e kv ks M':=by
 obtain⟨h1,h2,h3⟩:=h
 exact⟨Nat.lt_of_lt_of_le h1 k.next,k.aQ h2 h1 hb,aL.keep h3 k hk⟩
theorem abh {TE T b:Nat} {e:qI} {kv:AV} {ks:List aH} {cc:ak} (hc:H9 cc) (hl:ks.length≤1000000) {M:RM} {x:aD} {Q:aj} (hP:JI TE b e kv ks M) (hQ:∀ M',ag [] M M'→Q (Bo (decide (x.1∈ks))) M') :
  ∃ a0 a1,[AV.agg (aA.cells x),.ptr b 0]=[a0,a1]∧xq T cc a0 a1 M Q:=by
 obtain⟨h1,h2,h3⟩:=hP
 refine⟨_,_,rfl, ?_⟩
 unfold xq
 rw[dX rfl (by rw[aA.len]; decide),bg]
 have k0:ag [] M (M.push (.row (aA.cells x) false T 0)):=(ag.refl _ _).push _
 have hx:(M.push (.row (aA.cells x) false T 0)).heap M.next=some (.row (aA.cells x) false T 0):=RM.aT _
 have h2':=k0.aQ h2 h1 (by simp)
 have h3' : Sl eX (M.push (.row (aA.cells x) false T 0)) kv ks:=aL.keep h3 k0 (by simp)
 generalize M.push (.row (aA.cells x) false T 0)=M1 at *
 generalize M.next=s at *
 have e2:((aA.cells x).drop 0).take 2=aR x.1:=rfl
 have ld:∀ K:AV→Prop,aB M1 (.ptr s 0) 2 K=K (.agg (aR x.1)):=fun K=>by
  rw[fB,RM.dH hx (by rw[aA.len]; decide),e2]
  simp
 rw[bK,az h2' rfl,bK,ld]
 exact hc h3' hl fun M' k=>hQ M' (k0.trans k)
theorem afp (a b:aD) : dV [1,1,2,2,2] (aA.cells a) (aA.cells b)=some (decide (a=b)):=by
 obtain⟨⟨d,n⟩,x,y,z⟩:=a
 obtain⟨⟨d',n'⟩,x',y',z'⟩:=b
 show dV [1,1,2,2,2] [N .i64 d,N .u64 (n:Int),St x,St y,St z] [N .i64 d',N .u64 (n' : Int),St x',St y',St z']=_
 simp only[QB,Qq,GD]
 by_cases h1:d=d' <;> by_cases h2:n=n' <;> by_cases h3:x=x' <;> by_cases h4:y=y' <;> by_cases h5:z=z' <;> simp[h1,h2,h3,h4,h5]
 all_goals omega
def BM (c:ak) : Prop:=∀ {M:RM} {v w:AV} {xs ys:List aD} {Q:aj},Sl aA M v xs→Sl aA M w ys→xs.length≤1000000→Q (Bo (decide (xs=ys))) M→c [v,w] M Q
theorem aaV:BM fun args M Q=>∃ a0 a1,args=[a0,a1]∧Ao a0 a1 M Q:=by
 intro M v w xs ys Q h1 h2 hl hQ
 refine⟨_,_,rfl, ?_⟩
 unfold Ao
 rw[aL.len h1,aL.len h2,jH,aL.len h1]
 refine aC (fun hn=>?_) (fun hn=>?_)
 ·have:¬ xs=ys:=fun e=>by subst e; simp at hn
  rw[decide_eq_false this] at hQ
  exact hQ
 have hn:xs.length=ys.length:=by
  simp only[bne_eq_false_iff_eq] at hn
  omega
 refine aG (fun m zs M3=>∃ i:Nat,m=xs.length - i∧zs=[N .i64 (i:Int)]∧i≤xs.length∧M3=M∧(xs=ys↔xs.drop i=ys.drop i)) _ ⟨0,rfl,rfl,Nat.zero_le _,rfl,Iff.rfl⟩ ?_
 rintro next m zs M3 hnext ⟨i,rfl,rfl,hi,rfl,hm⟩
 dsimp only[aa]
 rw[dB]
 refine aC (fun hlt=>?_) (fun hge=>?_)
 ·have hlt:i<xs.length:=of_decide_eq_true hlt
  rw[List.drop_eq_getElem_cons hlt,List.drop_eq_getElem_cons (show i<ys.length by omega),List.cons.injEq] at hm
  rw[pg h1 hlt,pg h2 (by omega),qK rfl rfl (afp _ _)]
  refine aC (fun he=>?_) (fun he=>?_)
  ·have he:¬ xs[i]=ys[i]'(by omega):=by simpa using he
   rw[decide_eq_false (fun e=>he (hm.1 e).1)] at hQ
   exact hQ
  ·have he:xs[i]=ys[i]'(by omega):=by simpa using he
   rw[add1 (by omega)]
   exact hnext _ _ _ (by omega) ⟨i + 1,rfl,rfl,by omega,rfl,hm.trans ⟨fun h=>h.2,fun h=>⟨he,h⟩⟩⟩
 ·have he:i=xs.length:=by
   have:¬ i<xs.length:=of_decide_eq_false hge
   omega
  subst he
  rw[List.drop_length,hn,List.drop_length] at hm
  rw[decide_eq_true (hm.2 rfl)] at hQ
  exact hQ
end Go.Ab.Crw
namespace Go.Ab.aH
open Go Go.Ab
theorem YU:∀ (a b:Nat),bO [N .u64 0] (a + b)=bO [N .u64 0] a++bO [N .u64 0] b
 | 0,b=>by simp[bO]
 | a + 1,b=>by rw[show a + 1 + b=(a + b) + 1 by omega,bO,bO,YU a b]; simp
theorem Yy {M:RM} {b T k:Nat} {ps ys:List Nat} {u:AV} {zs:List AV} {K:aj} (hb:M.heap b=some (.row (bf.row ps++bO [N .u64 0] k) true T 0)) (hu:Sl bf M u ys) (hk:ys.length≤k) (hl:ys.length≤1000000)
  (hK:∀ M',M'.heap b=some (.row (bf.row (ps++ys)++bO [N .u64 0] (k - ys.length)) true T 0)→ag [b] M M'→M'.next=M.next→K (.slc b 0 (ps++ys).length (.op 1)) M') :
  appW T 1 8 zs false (.slc b 0 ps.length (.op 1)) u M K:=by
 have hn:=aL.qy hu zs
 have hrl:(bf.row ys).length=ys.length:=by rw[Enc.eH]; simp[bf]
 have hpl:(bf.row ps).length=ps.length:=by rw[Enc.eH]; simp[bf]
 refine⟨ys.length,bf.row ys,hn,by omega,by omega, ?_⟩
 by_cases h0:ys.length=0
 ·have:ys=[]:=List.length_eq_zero_iff.1 h0
  subst this
  refine⟨.slc b 0 ps.length (.op 1),M,by simp[vE], ?_⟩
  have:=hK M (by simpa using hb) (ag.refl _ _) rfl
  simpa using this
 ·have hfit:0 + (ps.length + ys.length) * 1≤(bf.row ps++bO [N .u64 0] k).length:=by
   rw[List.length_append,hpl,(tq k).1]; omega
  refine⟨.slc b 0 (ps.length + ys.length) (.op 1),M.put b (.row (bf.row (ps++ys)++bO [N .u64 0] (k - ys.length)) true T 0), ?_, ?_⟩
  ·simp only[vE,if_neg h0,hb]
   rw[if_pos (by simp),if_pos hfit,RM.Ai hb,rZ (by rw[hrl,List.length_append,hpl,(tq k).1]; omega) (by omega) (bf.wX ys)]
   simp only[Option.map_some]
   congr 4
   rw[Enc.qW]
   have e1:(bf.row ps++bO [N .u64 0] k).take (0 + ps.length * 1)=bf.row ps:=by rw[List.take_left' (by omega)]
   have e2:(bf.row ps++bO [N .u64 0] k).drop (0 + ps.length * 1 + (bf.row ys).length)=bO [N .u64 0] (k - ys.length):=by
    have:k=ys.length + (k - ys.length):=by omega
    rw[show bO [N .u64 0] k=bO [N .u64 0] ys.length++bO [N .u64 0] (k - ys.length) by rw[← YU]; congr 1,← List.append_assoc,List.drop_left' (by rw[List.length_append,hpl,(tq _).1,hrl]; omega)]
   rw[e1,e2]
  ·have:=hK _ (aU _) ((ag.refl _ _).put _ (.inr (by simp))) rfl
   rw[List.length_append] at this
   exact this
def Tq (T:Nat) (c:ak) : Prop:=∀ {M:RM} {bb TS:Nat} {v w:AV} {xs ys:List Nat} {Q:aj},M.heap bb=some (.row [v,w] false TS 0)→bb<M.next→Sl bf M v xs→Sl bf M w ys→xs.length≤1000000→ys.length≤1000000 →
 (∀ r M',Ow bf M' M.next T r (xs++ys)→ag [] M M'→Q r M')→c [.slc bb 0 2 (.ex 2)] M Q
theorem aaM {TS T:Nat} {cg:ak} (hg:adl T cg) : Tq T fun args M Q=>∃ a0,args=[a0]∧xU TS cg T a0 M Q:=by
 intro M bb TB v w xs ys Q hb hbl hv hw hx hy hQ
 refine⟨_,rfl, ?_⟩
 unfold xU
 simp only[y7]
 have at0:∀ K:AV→Prop,ah (.slc bb 0 2 (.ex 2)) (N .i64 ((0:Nat) : Int)) 1 K=K (.ptr bb 0):=fun K=>by
  rw[ma]; exact propext ⟨fun h=>h.2.2,fun h=>⟨by decide,by decide,h⟩⟩
 have Kq:∀ K:AV→Prop,ah (.slc bb 0 2 (.ex 2)) (N .i64 ((1:Nat) : Int)) 1 K=K (.ptr bb 1):=fun K=>by
  rw[ma]; exact propext ⟨fun h=>h.2.2,fun h=>⟨by decide,by decide,h⟩⟩
 rw[lZ]
 have len3:∀ (p0:Nat),p0=0∨p0=xs.length∨p0=xs.length + ys.length→True:=fun _ _=>trivial
 refine aG (fun m zs M3=>∃ i:Nat,m=2 - i∧i≤2∧zs=[N .i64 ((if i=0 then 0 else if i=1 then xs.length else xs.length + ys.length:Nat) : Int),N .i64 (i:Int)]∧M3=M) _ ⟨0,rfl,by omega,rfl,rfl⟩ ?_
 rintro next m zs M3 hnext ⟨i,rfl,hi,rfl,rfl⟩
 dsimp only[aa]
 rw[dL]
 obtain rfl | rfl | rfl:i=0∨i=1∨i=2:=by omega
 ·rw[show decide (((0:Nat) : Int)<((2:Nat) : Int))=true from rfl,dP,at0,az hb rfl,aL.len hv]
  simp only[if_true]
  rw[dw,show((0:Nat) : Int) + (xs.length:Int)=(xs.length:Int) by omega,aZ (by omega) (by omega),dL,show decide ((xs.length:Int)<0)=false by simp,bA,dw,gL (by omega)]
  exact hnext _ _ _ (by omega) ⟨1,rfl,by omega,rfl,rfl⟩
 ·rw[show decide (((1:Nat) : Int)<((2:Nat) : Int))=true from rfl,dP,Kq,az hb rfl,aL.len hw]
  simp only[if_true,show ¬ (1:Nat)=0 by omega,if_false]
  rw[dw,show(xs.length:Int) + (ys.length:Int)=((xs.length + ys.length:Nat) : Int) by omega,aZ (by omega) (by omega),dL,show decide (((xs.length + ys.length:Nat) : Int)<0)=false by simp; omega,bA,dw,gL (by omega)]
  exact hnext _ _ _ (by omega) ⟨2,rfl,by omega,rfl,rfl⟩
 ·rw[show decide (((2:Nat) : Int)<((2:Nat) : Int))=false from rfl,bA]
  simp only[show ¬ (2:Nat)=0 by omega,show ¬ (2:Nat)=1 by omega,if_false]
  refine hg (by omega) (fun h0=>?_) (fun hpos b M4 hb0 hb1 hrow k4=>?_)
  ·
   have e1:xs=[]:=List.length_eq_zero_iff.1 (by omega)
   have e2:ys=[]:=List.length_eq_zero_iff.1 (by omega)
   subst e1 e2
   rw[lZ]
   refine aG (fun m zs M5=>∃ i:Nat,m=2 - i∧i≤2∧zs=[di,N .i64 (i:Int)]∧M5=M3) _ ⟨0,rfl,by omega,rfl,rfl⟩ ?_
   rintro iq m zs M5 dm ⟨i,rfl,hi,rfl,rfl⟩
   dsimp only[aa]
   rw[dL]
   have app:∀ (u:AV) (K:aj),Sl bf M5 u []→K di M5→appW T 1 8 [N .u64 0] false di u M5 K:=fun u K hu hK=>by
    refine⟨0,[], ?_,by omega,by omega,di,M5,by simp[vE],hK⟩
    exact aL.qy hu _
   obtain rfl | rfl | rfl:i=0∨i=1∨i=2:=by omega
   ·rw[show decide (((0:Nat) : Int)<((2:Nat) : Int))=true from rfl,dP,at0,az hb rfl]
    refine app _ _ hv ?_
    rw[dw,gL (by omega)]
    exact dm _ _ _ (by omega) ⟨1,rfl,by omega,rfl,rfl⟩
   ·rw[show decide (((1:Nat) : Int)<((2:Nat) : Int))=true from rfl,dP,Kq,az hb rfl]
    refine app _ _ hw ?_
    rw[dw,gL (by omega)]
    exact dm _ _ _ (by omega) ⟨2,rfl,by omega,rfl,rfl⟩
   ·rw[show decide (((2:Nat) : Int)<((2:Nat) : Int))=false from rfl,bA]
    exact hQ di M5 .nil (ag.refl _ _)
  ·rw[lZ]
   have hbb:bb≠b:=by omega
   refine aG (fun m zs M5=>∃ i:Nat,m=2 - i∧i≤2∧zs=[.slc b 0 (if i=0 then([] : List Nat) else if i=1 then xs else xs++ys).length (.op 1),N .i64 (i:Int)]∧ag [b] M4 M5∧M5.next=M4.next ∧
     M5.heap b=some (.row (bf.row (if i=0 then[] else if i=1 then xs else xs++ys)++bO [N .u64 0] (xs.length + ys.length - (if i=0 then([] : List Nat) else if i=1 then xs else xs++ys).length)) true T 0)) _
    ⟨0,rfl,by omega,rfl,ag.refl _ _,rfl,by simpa [Enc.row] using hrow⟩ ?_
   rintro iq m zs M5 dm ⟨i,rfl,hi,rfl,k5,n5,Lr⟩
   dsimp only[aa]
   rw[dL]
   have hb4:=k4.aQ hb hbl (by simp)
   have hb5:=k5.aQ hb4 (by omega) (by simp; exact hbb)
   have hv5:Sl bf M5 v xs:=aL.keep (aL.keep hv k4 (by simp)) k5 (fun d hd hm=>by have:=aL.lt hv d hd; simp at hm; omega)
   have hw5:Sl bf M5 w ys:=aL.keep (aL.keep hw k4 (by simp)) k5 (fun d hd hm=>by have:=aL.lt hw d hd; simp at hm; omega)
   obtain rfl | rfl | rfl:i=0∨i=1∨i=2:=by omega
   ·rw[show decide (((0:Nat) : Int)<((2:Nat) : Int))=true from rfl,dP,at0,az hb5 rfl]
    simp only[if_true] at Lr ⊢
    refine Yy Lr hv5 (by simp) hx fun M6 Pn k6 n6=>?_
    rw[dw,gL (by omega)]
    refine dm _ _ _ (by omega) ⟨1,rfl,by omega,by simp,k5.trans k6,n6.trans n5, ?_⟩
    simp at Pn ⊢
    exact Pn
   ·rw[show decide (((1:Nat) : Int)<((2:Nat) : Int))=true from rfl,dP,Kq,az hb5 rfl]
    simp only[if_true,show ¬ (1:Nat)=0 by omega,if_false] at Lr ⊢
    refine Yy Lr hw5 (by omega) hy fun M6 Pn k6 n6=>?_
    rw[dw,gL (by omega)]
    refine dm _ _ _ (by omega) ⟨2,rfl,by omega,by simp,k5.trans k6,n6.trans n5, ?_⟩
    simp at Pn ⊢
    exact Pn
   ·rw[show decide (((2:Nat) : Int)<((2:Nat) : Int))=false from rfl,bA]
    simp only[show ¬ (2:Nat)=0 by omega,show ¬ (2:Nat)=1 by omega,if_false,List.length_append,Nat.sub_self,bO,List.append_nil] at Lr ⊢
    refine hQ _ M5 ?_ (k4.cz k5 (by simp; omega))
    rw[Ow,List.length_append]
    exact .op b _ _ (by omega) (by omega) Lr (by rw[Enc.eH,List.length_append])
theorem iF.put {T i u a:Nat} {S S' : Nat→Prop} {M M' : RM} {ps:List Pt} {l:List AV} {v' : AV} {xs:List Nat} {ks:List Nat} (h:iF T S M a ps) (hl:M.heap a=some (.row l false T 0)) (hi:i<16)
  (hb:M'.heap a=some (.row ((l.set (2 * i) (N .u64 (u:Int))).set (2 * i + 1) v') false T 0)) (hk:ag ks M M') (hks:∀ d∈ks,d=a∨¬ S d) (hs:Sl bf M' v' xs) (hc:nV v') (hv:∀ d∈aJ v',S' d) (hS:∀ d,S d→S' d) (ha:¬ S' a) : iF T S' M' a (ps.set i (u,xs)):=by
 obtain⟨l0,h1,h2,h3⟩:=h.row
 rw[hl] at h1
 obtain rfl:l=l0:=by simpa using h1
 refine⟨Nat.lt_of_lt_of_le h.lt hk.next,by rw[List.length_set]; exact h.len,⟨_,hb,by simp[h2],fun j hj=>?_⟩,ha⟩
 have hj' : j<ps.length:=by rw[List.length_set] at hj; exact hj
 have hj16:j<16:=by rw[← h.len]; exact hj'
 by_cases hji:j=i
 ·subst hji
  refine⟨v', ?_, ?_, ?_,hc,hv⟩
  ·rw[List.getElem?_set_ne (by omega),List.getElem?_set_self (by omega),List.getElem_set_self]
  ·rw[List.getElem?_set_self (by simp; omega)]
  ·rw[List.getElem_set_self]; exact hs
 ·obtain⟨w,b1,b2,b3,b4,b5⟩:=h3 j hj'
  refine⟨w, ?_, ?_, ?_,b4,fun d hd=>hS d (b5 d hd)⟩
  ·rw[List.getElem?_set_ne (by omega),List.getElem?_set_ne (by omega),List.getElem_set_ne (Ne.symm hji)]; exact b1
  ·rw[List.getElem?_set_ne (by omega),List.getElem?_set_ne (by omega)]; exact b2
  ·rw[List.getElem_set_ne (Ne.symm hji)]
   refine aL.keep b3 hk fun d hd hm=>?_
   rcases hks d hm with rfl | h'
   ·exact h.nb (b5 d hd)
   ·exact h' (b5 d hd)
def u6 (f g:List Nat→List Nat) (p q:Pt) : Pt:=settle (max p.1 q.1) (g (f (p.2++q.2)))
def uy (f g:List Nat→List Nat) (ps qs:List Pt) : Nat→List Pt
 | 0=>ps
 | i + 1=>(uy f g ps qs i).set i (u6 f g (ps.getD i (0,[])) (qs.getD i (0,[])))
theorem O3 {f g:List Nat→List Nat} {ps qs:List Pt} : ∀ {i j:Nat},i≤j→(uy f g ps qs i).getD j (0,[])=ps.getD j (0,[])
 | 0,j,_=>rfl
 | i + 1,j,h=>by rw[uy,getD_set_ne (by omega),O3 (by omega)]
def ada (P:List Nat→Prop) (P2:List Nat→Prop) (f g:List Nat→List Nat) (T:Nat) (c:ak) : Prop:=∀ {M:RM} {a b:Nat} {ps qs:List Pt} {S S' : Nat→Prop} {Q:aj},iF T S M a ps→iF T S' M b qs→(a=b→ps=qs)→¬ S' a →
 (∀ i,i<16→P ((ps.getD i (0,[])).2++(qs.getD i (0,[])).2)∧P2 (f ((ps.getD i (0,[])).2++(qs.getD i (0,[])).2)))→(∀ p∈ps,p.1≤4398046511104∧p.2.length≤100000)→(∀ p∈qs,p.1≤4398046511104∧p.2.length≤100000) →
 (∀ i,i<16→(g (f ((ps.getD i (0,[])).2++(qs.getD i (0,[])).2))).length≤1000000∧∀ x∈g (f ((ps.getD i (0,[])).2++(qs.getD i (0,[])).2)),x≤4398046511104) →
 (∀ M',iF T (fun e=>S e∨M.next≤e) M' a (uy f g ps qs 16)→ag [a] M M'→Q (.tup []) M')→c [.ptr a 0,.ptr b 0] M Q
theorem yO {ps:List Pt} {R:Pt→Prop} (h:∀ p∈ps,R p) (h0:R (0,[])) (i:Nat) : R (ps.getD i (0,[])):=by
 rw[List.getD_eq_getElem?_getD]
 by_cases hj:i<ps.length
 ·rw[List.getElem?_eq_getElem hj]; exact h _ (List.getElem_mem hj)
 ·rw[List.getElem?_eq_none (by omega)]; exact h0
theorem afo {TS TP TL TU:Nat} {P P2:List Nat→Prop} {f g:List Nat→List Nat} {cc cs ck ct:ak} (hc:Tq TU cc) (hs:aeG P f TU cs) (hk:Ou P2 g TU ck) (ht:IQ ct) :
  ada P P2 f g TS fun args M Q=>∃ a0 a1,args=[a0,a1]∧Gt TP TL cc cs ck ct a0 a1 M Q:=by
 intro M a b ps qs S S' Q hA hB hab hSa hP hbp hbq hres hQ
 refine⟨_,_,rfl, ?_⟩
 unfold Gt
 have hal:=hA.lt
 have hbl:=hB.lt
 refine aG (fun m ys M3=>∃ (i:Nat),m=16 - i∧ys=[N .i64 (i:Int)]∧i≤16∧ag [a] M M3∧iF TS (fun e=>S e∨M.next≤e) M3 a (uy f g ps qs i)) _
  ⟨0,rfl,rfl,Nat.zero_le _,ag.refl _ _,hA.mono (fun e h=>.inl h) (fun h=>by rcases h with h | h; exact hA.nb h; omega)⟩ ?_
 rintro next m ys M3 hnext ⟨i,rfl,rfl,hi,k3,hA3⟩
 dsimp only[aa]
 rw[dL]
 refine aC (fun hlt=>?_) (fun hge=>?_)
 ·have hlt:i<16:=by
   have:(i:Int)<16:=of_decide_eq_true hlt
   omega
  have n3:=k3.next
  -- the second set's part
  have hB3:∃ l w,M3.heap b=some (.row l false TS 0)∧l.length=32∧l[2 * i]?=some (N .u64 ((qs.getD i (0,[])).1:Int))∧l[2 * i + 1]?=some w∧Sl bf M3 w (qs.getD i (0,[])).2∧a ∉ aJ w:=by
   by_cases e:a=b
   ·subst e
    have e2:=hab rfl
    obtain⟨l,h1,h2,h3⟩:=hA3.row
    have hil:i<(uy f g ps qs i).length:=by rw[hA3.len]; exact hlt
    obtain⟨w,b1,b2,b3,b4,b5⟩:=h3 i hil
    have hD:=O3 (f:=f) (g:=g) (ps:=ps) (qs:=qs) (Nat.le_refl i)
    rw[List.getD_eq_getElem?_getD,List.getElem?_eq_getElem hil,Option.getD_some] at hD
    rw[hD,e2] at b1
    rw[hD,e2] at b3
    exact⟨l,w,h1,h2,b1,b2,b3,fun hm=>hA3.nb (b5 a hm)⟩
   ·obtain⟨l,h1,h2,h3⟩:=hB.row
    have hil:i<qs.length:=by rw[hB.len]; exact hlt
    obtain⟨w,b1,b2,b3,b4,b5⟩:=h3 i hil
    have hD:qs.getD i (0,[])=qs[i]:=by rw[List.getD_eq_getElem?_getD,List.getElem?_eq_getElem hil]; rfl
    rw[hD]
    exact⟨l,w,k3.aQ h1 hbl (by simp; exact fun h=>e h.symm),h2,b1,b2,aL.keep b3 k3 (fun d hd hm=>by simp at hm; subst hm; exact hSa (b5 d hd)),fun hm=>hSa (b5 a hm)⟩
  obtain⟨lb,qw,hb3,hlb32,q1,q2,q3,q4⟩:=hB3
  obtain⟨la,ha3,hla32,hrow⟩:=hA3.row
  have hil:i<(uy f g ps qs i).length:=by rw[hA3.len]; exact hlt
  obtain⟨pw,p1,p2,p3,p4,p5⟩:=hrow i hil
  have hD:=O3 (f:=f) (g:=g) (ps:=ps) (qs:=qs) (Nat.le_refl i)
  rw[List.getD_eq_getElem?_getD,List.getElem?_eq_getElem hil,Option.getD_some] at hD
  rw[hD] at p1 p3
  have bp:=yO hbp ⟨by decide,by decide⟩ i
  have bq:=yO hbq ⟨by decide,by decide⟩ i
  obtain⟨hPi,awC⟩:=hP i hlt
  obtain⟨hr1,hr2⟩:=hres i hlt
  have aqs:∀ M',ag [a] M M'→iF TS (fun e=>S e∨M.next≤e) M' a ((uy f g ps qs i).set i (u6 f g (ps.getD i (0,[])) (qs.getD i (0,[]))))→next [N .i64 ((i + 1:Nat) : Int)] M':=fun M' k h=>hnext _ _ _ (by omega) ⟨i + 1,rfl,rfl,by omega,k,h⟩
  generalize ps.getD i (0,[])=p at *
  generalize qs.getD i (0,[])=q at *
  obtain⟨pu,px⟩:=p
  obtain⟨qu,qx⟩:=q
  simp only[u6] at *
  rw[aO,bK,BX]
  refine⟨by omega,by omega, ?_⟩
  rw[aO,bK,BX]
  refine⟨by omega,by omega, ?_⟩
  rw[Int.toNat_natCast,Nat.zero_add,Nat.mul_comm i 2,fB]
  have hcut:M3.loads b (2 * i) 2=some [N .u64 (qu:Int),qw]:=by
   rw[RM.dH hb3 (by omega)]
   obtain⟨r1,r2⟩:=List.getElem?_eq_some_iff.1 q1
   obtain⟨r3,r4⟩:=List.getElem?_eq_some_iff.1 q2
   rw[List.drop_eq_getElem_cons r1,List.drop_eq_getElem_cons r3,r2,r4]; rfl
  refine⟨_,hcut, ?_⟩
  have hq1:=aL.one q3
  rw[qo,iw (n:=2) (x:=.agg [N .u64 (qu:Int),qw]) (l:=[N .u64 0,.sc (.slice none 0 0)]) (RM.aT _) rfl rfl (by simp[AV.cells,hq1]; rfl)]
  have k4:ag [] M3 ((M3.push (.row [N .u64 0,.sc (.slice none 0 0)] false TP 0)).put M3.next (.row (AV.agg [N .u64 (qu:Int),qw]).cells false TP 0)):=((ag.refl _ _).push _).new _ (Nat.le_refl _)
  have h4:((M3.push (.row [N .u64 0,.sc (.slice none 0 0)] false TP 0)).put M3.next (.row (AV.agg [N .u64 (qu:Int),qw]).cells false TP 0)).heap M3.next=some (.row [N .u64 (qu:Int),qw] false TP 0):=aU _
  have n4:((M3.push (.row [N .u64 0,.sc (.slice none 0 0)] false TP 0)).put M3.next (.row (AV.agg [N .u64 (qu:Int),qw]).cells false TP 0)).next=M3.next + 1:=rfl
  generalize (M3.push (.row [N .u64 0,.sc (.slice none 0 0)] false TP 0)).put M3.next (.row (AV.agg [N .u64 (qu:Int),qw]).cells false TP 0)=M4 at *
  have avV:=hA3.lt
  have ha4:=k4.aQ ha3 avV (by simp)
  rw[aO,aN,Nat.add_zero,az ha4 p1,bK,az h4 rfl,afv,if_pos rfl,Xk,aO,aN,Nat.add_zero,gY ha4 (by omega) rfl rfl]
  have k5:ag [a] M4 (M4.put a (.row (la.set (2 * i) (N .u64 ((max pu qu:Nat) : Int))) false TS 0)):=(ag.refl _ _).put _ (.inr (by simp))
  have ha5:(M4.put a (.row (la.set (2 * i) (N .u64 ((max pu qu:Nat) : Int))) false TS 0)).heap a=some (.row (la.set (2 * i) (N .u64 ((max pu qu:Nat) : Int))) false TS 0):=aU _
  have n5:(M4.put a (.row (la.set (2 * i) (N .u64 ((max pu qu:Nat) : Int))) false TS 0)).next=M4.next:=rfl
  generalize M4.put a (.row (la.set (2 * i) (N .u64 ((max pu qu:Nat) : Int))) false TS 0)=M5 at *
  have h5:=k5.aQ h4 (by omega) (by simp; omega)
  have p2' : (la.set (2 * i) (N .u64 ((max pu qu:Nat) : Int)))[2 * i + 1]?=some pw:=by rw[List.getElem?_set_ne (by omega)]; exact p2
  rw[aO,aN,az ha5 p2',bK,az h5 rfl]
  have axb:a ∉ aJ pw:=fun hm=>hA3.nb (p5 a hm)
  have k35:ag [a] M3 M5:=(k4.mono (by simp)).trans k5
  have sp5:Sl bf M5 pw px:=aL.keep p3 k35 (fun d hd hm=>by simp at hm; subst hm; exact axb hd)
  have sq5:Sl bf M5 qw qx:=aL.keep q3 k35 (fun d hd hm=>by simp at hm; subst hm; exact q4 hd)
  have hw1:=aL.one sp5
  have hwc:=aL.cells sp5
  have hqc:=aL.cells sq5
  refine⟨[pw,qw],by simp[DI,bO,hwc,hqc,hw1,hq1], ?_⟩
  dsimp only
  rw[qo]
  have k6:ag [] M5 (M5.push (.row [pw,qw] false TL 0)):=(ag.refl _ _).push _
  have h6:(M5.push (.row [pw,qw] false TL 0)).heap M5.next=some (.row [pw,qw] false TL 0):=RM.aT _
  have n6:(M5.push (.row [pw,qw] false TL 0)).next=M5.next + 1:=rfl
  generalize M5.push (.row [pw,qw] false TL 0)=M6 at *
  refine hc h6 (by omega) (aL.keep sp5 k6 (by simp)) (aL.keep sq5 k6 (by simp)) (by have:=bp.2; omega) (by have:=bq.2; omega) fun r M7 ho7 k7=>?_
  have n7:=k7.next
  have k57:=k6.trans k7
  have ha7:=k57.aQ ha5 (by omega) (by simp)
  rw[aO,aN,gY ha7 (by simp; omega) ho7.cells ho7.one]
  have k8:ag [a] M7 (M7.put a (.row ((la.set (2 * i) (N .u64 ((max pu qu:Nat) : Int))).set (2 * i + 1) r) false TS 0)):=(ag.refl _ _).put _ (.inr (by simp))
  have ha8:(M7.put a (.row ((la.set (2 * i) (N .u64 ((max pu qu:Nat) : Int))).set (2 * i + 1) r) false TS 0)).heap a=some (.row ((la.set (2 * i) (N .u64 ((max pu qu:Nat) : Int))).set (2 * i + 1) r) false TS 0):=aU _
  have n8:(M7.put a (.row ((la.set (2 * i) (N .u64 ((max pu qu:Nat) : Int))).set (2 * i + 1) r) false TS 0)).next=M7.next:=rfl
  generalize M7.put a (.row ((la.set (2 * i) (N .u64 ((max pu qu:Nat) : Int))).set (2 * i + 1) r) false TS 0)=M8 at *
  have har:a ∉ aJ r:=fun hm=>by have:=(ho7.blk a hm).1; omega
  have ho8:=ho7.keep k8 (fun d hd hm=>by simp at hm; subst hm; exact har hd)
  have g1:((la.set (2 * i) (N .u64 ((max pu qu:Nat) : Int))).set (2 * i + 1) r)[2 * i + 1]?=some r:=by rw[List.getElem?_set_self (by simp; omega)]
  have g0:((la.set (2 * i) (N .u64 ((max pu qu:Nat) : Int))).set (2 * i + 1) r)[2 * i]?=some (N .u64 ((max pu qu:Nat) : Int)):=by rw[List.getElem?_set_ne (by omega),List.getElem?_set_self (by omega)]
  rw[aO,aN,az ha8 g1]
  refine hs ho8 hPi fun M9 ho9 k9=>?_
  have ha9:=k9.aQ ha8 (by omega) har
  have n9:=k9.next
  rw[aO,aN,az ha9 g1]
  refine hk ho9 awC fun r' M10 s10 c10 b10 k10=>?_
  have n10:=k10.next
  have awx:=k10.aQ ha9 (by omega) har
  have har' : a ∉ aJ r':=fun hm=>har (b10 a hm)
  rw[aO,aN,sV ((la.set (2 * i) (N .u64 ((max pu qu:Nat) : Int))).set (2 * i + 1) r') awx (by simp; omega) (aL.cells s10) (aL.one s10) (by rw[List.set_set])]
  have k11:ag [a] M10 (M10.put a (.row ((la.set (2 * i) (N .u64 ((max pu qu:Nat) : Int))).set (2 * i + 1) r') false TS 0)):=(ag.refl _ _).put _ (.inr (by simp))
  have aw8:(M10.put a (.row ((la.set (2 * i) (N .u64 ((max pu qu:Nat) : Int))).set (2 * i + 1) r') false TS 0)).heap a=some (.row ((la.set (2 * i) (N .u64 ((max pu qu:Nat) : Int))).set (2 * i + 1) r') false TS 0):=aU _
  have n11:(M10.put a (.row ((la.set (2 * i) (N .u64 ((max pu qu:Nat) : Int))).set (2 * i + 1) r') false TS 0)).next=M10.next:=rfl
  generalize M10.put a (.row ((la.set (2 * i) (N .u64 ((max pu qu:Nat) : Int))).set (2 * i + 1) r') false TS 0)=M11 at *
  have s11:Sl bf M11 r' (g (f (px++qx))):=aL.keep s10 k11 (fun d hd hm=>by simp at hm; subst hm; exact har' hd)
  have g0' : ((la.set (2 * i) (N .u64 ((max pu qu:Nat) : Int))).set (2 * i + 1) r')[2 * i]?=some (N .u64 ((max pu qu:Nat) : Int)):=by rw[List.getElem?_set_ne (by omega),List.getElem?_set_self (by omega)]
  have g1' : ((la.set (2 * i) (N .u64 ((max pu qu:Nat) : Int))).set (2 * i + 1) r')[2 * i + 1]?=some r':=by rw[List.getElem?_set_self (by simp; omega)]
  refine ht aw8 g0' g1' s11 har' c10 hr1 (by have:=bp.1; have:=bq.1; omega) hr2 fun v' M12 avB s12 c12 b12 k12 n12=>?_
  rw[dw,gL (by omega)]
  have kr:∀ d∈aJ r,M.next≤d∧M3.next≤d:=fun d hd=>by have:=(ho7.blk d hd).1; omega
  -- all that was changed: the set's block,and new ones
  have arq:ag [a] M3 M12:=by
   have w7:ag [a] M3 M7:=k35.trans (k57.mono (by simp))
   have w8:=w7.trans k8
   have w9:=w8.cz k9 fun d hd=>.inl (kr d hd).2
   have w10:=w9.cz k10 fun d hd=>.inl (kr d hd).2
   exact(w10.trans k11).trans k12
  refine aqs M12 (k3.trans arq) (hA3.put ha3 hlt ?_ arq (fun d hd=>.inl (by simpa using hd)) s12 c12 (fun d hd=>.inr (kr d (b10 d (b12 d hd))).1) (fun d h=>h) (fun h=>by rcases h with h | h; exact hA.nb h; omega))
  rw[avB]
  rw[List.set_comm (i:=2 * i + 1) (j:=2 * i) _ _ (by omega),List.set_set,List.set_set]
  rfl
 ·have he:i=16:=by
   have:¬ (i:Int)<16:=of_decide_eq_false hge
   omega
  subst he
  exact hQ M3 hA3 k3
theorem KV {f g:List Nat→List Nat} {ps qs:List Pt} : ∀ i,(uy f g ps qs i).length=ps.length
 | 0=>rfl
 | i + 1=>by rw[uy,List.length_set,KV i]
theorem WW {f g:List Nat→List Nat} {ps qs:List Pt} (hl:ps.length=16) : ∀ {i j:Nat},i≤16→j<i→(uy f g ps qs i).getD j (0,[])=u6 f g (ps.getD j (0,[])) (qs.getD j (0,[]))
 | i + 1,j,hi,h=>by
   rw[uy]
   by_cases e:i=j
   ·subst e
    rw[Jf (by rw[KV]; omega)]
   ·rw[getD_set_ne e,WW hl (by omega) (by omega)]
theorem tF {p:Pt} {x:Nat} : fT p x=true↔(1≤x∧x≤p.1)∨x∈p.2:=by
 unfold fT
 simp only[Bool.or_eq_true,Bool.and_eq_true,decide_eq_true_eq]
theorem GY:∀ (xs:List Nat) (u x:Nat),(∀ y∈xs,1≤y)→(fT (settle u xs) x=true↔(1≤x∧x≤u)∨x∈xs)
 | [],u,x,_=>by rw[tF]; simp[settle,eO]
 | y :: xs,u,x,h=>by
   by_cases hy:y≤u + 1
   ·have e:settle u (y :: xs)=settle (max u y) xs:=by
     unfold settle
     rw[eO,if_pos hy]; rfl
    have h1:=h y (by simp)
    rw[e,GY xs (max u y) x (fun z hz=>h z (by simp[hz])),List.mem_cons]
    constructor
    ·rintro(⟨a,b⟩ | c)
     ·by_cases hx:x≤u
      ·exact .inl ⟨a,hx⟩
      ·exact .inr (.inl (by omega))
     ·exact .inr (.inr c)
    ·rintro(⟨a,b⟩ | c | c)
     ·exact .inl ⟨a,by omega⟩
     ·exact .inl ⟨by omega,by omega⟩
     ·exact .inr c
   ·have e:settle u (y :: xs)=(u,y :: xs):=by
     unfold settle
     rw[eO,if_neg hy]; rfl
    rw[e,tF]
theorem Xc {k n:Nat} {xs:List Nat} {x:Nat} : x∈gD k n xs↔x=n∨x∈xs:=by
 refine⟨Hu,fun h=>?_⟩
 unfold gD
 rcases h with h | h
 ·simp[h]
 ·rw[← List.take_append_drop k xs,List.mem_append] at h
  rw[List.mem_append,List.mem_cons]
  rcases h with h | h
  ·exact .inl h
  ·exact .inr (.inr h)
theorem aiy {p:Pt} {n x:Nat} (hp:qc p) (hn:1≤n) (hok:(iA p n).1=true) : fT (iA p n).2 x=true↔fT p x=true∨x=n:=by
 unfold iA at hok ⊢
 by_cases h:n∈p.2∨n≤p.1
 ·rw[if_pos h]
  constructor
  ·exact .inl
  ·rintro(h1 | rfl)
   ·exact h1
   ·rw[tF]
    rcases h with h | h
    ·exact .inr h
    ·exact .inl ⟨hn,h⟩
 ·rw[if_neg h] at hok ⊢
  by_cases h2:(settle p.1 (gD (below n p.2) n p.2)).2.length≤4096
  ·rw[if_pos h2]
   simp only
   rw[GY _ _ _ (fun y hy=>by rcases Xc.1 hy with rfl | hy; exact hn; have:=hp.2.1 y hy; omega),Xc,tF]
   constructor
   ·rintro(a | b | c)
    ·exact .inl (.inl a)
    ·exact .inr b
    ·exact .inl (.inr c)
   ·rintro((a | b) | c)
    ·exact .inl a
    ·exact .inr (.inr b)
    ·exact .inr (.inl c)
  ·rw[if_neg h2] at hok; cases hok
theorem ah0 {p:Pt} {n:Nat} : (iA p n).2.2.length≤p.2.length + 1:=by
 unfold iA
 split
 ·exact Nat.le_succ _
 ·split
  ·have h1:=GJ p.1 (gD (below n p.2) n p.2)
   have h2:=GL (x:=n) (below_le n p.2)
   simp only; omega
  ·exact Nat.le_succ _
theorem abD {p:Pt} {n:Nat} (h:p.2.length<4096) : (iA p n).1=true:=by
 unfold iA
 split
 ·rfl
 ·have h1:=GJ p.1 (gD (below n p.2) n p.2)
  have h2:=GL (x:=n) (below_le n p.2)
  rw[if_pos (by omega)]
theorem UI {ps:List Pt} {d:aH} (hl:∀ p∈ps,p.2.length<4096) (hg:good d=true) : l5 ps d=(0,ps.set d.1.toNat (iA (ps.getD d.1.toNat (0,[])) d.2).2):=by
 unfold l5
 rw[if_pos hg,abD (yO (R:=fun p=>p.2.length<4096) hl (by decide) _),if_pos rfl]
theorem afE {ps:List Pt} {d:aH} {k:Nat} (hl:∀ p∈ps,p.2.length≤k) : ∀ p∈(l5 ps d).2,p.2.length≤k + 1:=by
 unfold l5
 split
 ·split
  ·intro p hp
   rcases List.mem_or_eq_of_mem_set hp with hp | rfl
   ·have:=hl p hp; omega
   ·have h1:=ah0 (p:=ps.getD d.1.toNat (0,[])) (n:=d.2)
    have h2:=yO (R:=fun p=>p.2.length≤k) hl (Nat.zero_le _) d.1.toNat
    omega
  ·intro p hp; have:=hl p hp; omega
 ·intro p hp; have:=hl p hp; omega
section
variable {ps:List Pt} {d:aH}
theorem aiH (hg:good d=true) : 1≤d.2∧d.2≤1099511627776∧d.1.toNat<16:=by
 simp only[good,Bool.and_eq_true,decide_eq_true_eq] at hg
 omega
theorem agq (h16:ps.length=16) (hw:∀ p∈ps,qc p) (hl:∀ p∈ps,p.2.length<4096) (hg:good d=true) (j x:Nat) :
  fT ((l5 ps d).2.getD j (0,[])) x=true↔fT (ps.getD j (0,[])) x=true∨(j=d.1.toNat∧x=d.2):=by
 obtain⟨h1,h2,h3⟩:=aiH hg
 rw[UI hl hg]
 simp only
 by_cases e:d.1.toNat=j
 ·subst e
  rw[Jf (by omega),aiy (BL hw _) h1 (abD (yO (R:=fun p=>p.2.length<4096) hl (by decide) _))]
  simp
 ·rw[getD_set_ne e]
  simp[Ne.symm e]
end
def OwX (T:Nat) (M:RM) (base:Nat) (v:AV) (L:List UInt8) : Prop :=
 Own M base T 1 v (VW L) L.length∨∃ b,v=.slc b 0 L.length (.ex L.length)∧base≤b∧b<M.next∧M.heap b=some (.row (VW L) false T 0)
theorem OwX.keep {T base:Nat} {M M' : RM} {v:AV} {L:List UInt8} (h:OwX T M base v L) (hk:ag [] M M') : OwX T M' base v L:=by
 rcases h with h | ⟨b,rfl,h1,h2,h3⟩
 ·exact .inl (h.keep hk (by simp))
 ·exact .inr ⟨b,rfl,h1,Nat.lt_of_lt_of_le h2 hk.next,hk.aQ h3 h2 (by simp)⟩
structure PO (TP TU base:Nat) (M:RM) (v:AV) (out:List lc) (cs:List AV) (ws:Nat→AV) : Prop where
 own:Own M base TP 3 v cs out.length
 row:∀ (k:Nat) (hk:k<out.length),cs[3 * k]?=some (N .i64 (out[k].1.1:Int))∧cs[3 * k + 1]?=some (N .u64 (out[k].1.2:Int))∧cs[3 * k + 2]?=some (ws k)∧Ow bf M base TU (ws k) out[k].2
 apart:∀ i j,i<out.length→j<out.length→i≠j→∀ d∈aJ (ws i),d ∉ aJ (ws j)
 off:∀ i,i<out.length→∀ d∈aJ (ws i),d ∉ aJ v
section
variable {TP TU base:Nat} {M M' : RM} {v:AV} {out:List lc} {cs:List AV} {ws:Nat→AV}
theorem PO.empty (h:Own M base TP 3 v [] 0) : PO TP TU base M v [] [] (fun _=>di) :=
 ⟨h,fun k hk=>absurd hk (Nat.not_lt_zero _),fun i j hi=>absurd hi (Nat.not_lt_zero _),fun i hi=>absurd hi (Nat.not_lt_zero _)⟩
theorem PO.keep {ks:List Nat} (h:PO TP TU base M v out cs ws) (hk:ag ks M M') (hs:∀ d∈ks,d<base∨M.next≤d) : PO TP TU base M' v out cs ws:=by
 refine⟨h.own.keep hk (fun d hd hm=>by have:=h.own.blk d hd; have:=hs d hm; omega),fun k hk'=>?_,h.apart,h.off⟩
 obtain⟨a1,a2,a3,a4⟩:=h.row k hk'
 exact⟨a1,a2,a3,a4.keep hk fun d hd hm=>by have:=a4.blk d hd; have:=hs d hm; omega⟩
theorem PO.at (h:PO TP TU base M v out cs ws) {i:Nat} (hi:i<out.length) :
  ∃ b,v=.slc b 0 out.length (.op 3)∧base≤b∧b<M.next∧M.heap b=some (.row cs true TP 0)∧cs.length=out.length * 3∧∀ (kd:IntKind) (K:AV→Prop),ah v (N kd (i:Int)) 3 K=K (.ptr b (3 * i)):=by
 obtain⟨b,h1,h2,h3,h4,h5⟩:=Own.uO h.own (by omega)
 refine⟨b,h1,h2,h3,h4,h5,fun kd K=>?_⟩
 rw[h1,ma]
 simp only[Int.toNat_natCast]
 rw[show 0 + i * 3=3 * i by omega]
 exact propext ⟨fun h=>h.2.2,fun h=>⟨by omega,by omega,h⟩⟩
theorem PO.set (h:PO TP TU base M v out cs ws) {i b u:Nat} {w:AV} {xs:List Nat} {M1 M2:RM} {ks:List Nat} (hi:i<out.length) (hv:v=.slc b 0 out.length (.op 3)) (k1:ag ks M M1) (hks:∀ d∈ks,d∈aJ (ws i))
  (hw:Ow bf M1 base TU w xs) (hw2:w=ws i∨∀ d∈aJ w,M.next≤d) (hb:M2=M1.put b (.row ((cs.set (3 * i + 1) (N .u64 (u:Int))).set (3 * i + 2) w) true TP 0)) :
  PO TP TU base M2 v (out.set i ((out[i].1.1,u),xs)) ((cs.set (3 * i + 1) (N .u64 (u:Int))).set (3 * i + 2) w) (fun j=>if j=i then w else ws j)∧ag (b :: ks) M M2:=by
 obtain⟨b',e,hb1,hb2,hb3,hb4,_⟩:=h.at hi
 obtain rfl:b=b':=by rw[hv] at e; injection e
 have n1:=k1.next
 have kk:ag [b] M1 M2:=by subst hb; exact(ag.refl _ _).put _ (.inr (by simp))
 have hh:M2.heap b=some (.row ((cs.set (3 * i + 1) (N .u64 (u:Int))).set (3 * i + 2) w) true TP 0):=by subst hb; exact aU _
 have hbv:∀ j,j<out.length→b ∉ aJ (ws j):=fun j hj hm=>h.off j hj b hm (by rw[hv]; simp[aJ])
 have hbw:b ∉ aJ w:=by
  rcases hw2 with rfl | hw2
  ·exact hbv i hi
  ·exact fun hm=>by have:=hw2 b hm; omega
 refine⟨⟨?_,fun j hj=>?_,fun j1 j2 q1 q2 hne d (hd:d∈aJ (if j1=i then w else ws j1))=>show d ∉ aJ (if j2=i then w else ws j2) from ?_,fun j hj d hd=>?_⟩,(k1.mono (fun d hd=>List.mem_cons_of_mem _ hd)).trans (kk.mono (by simp))⟩
 ·rw[List.length_set,hv]
  exact .op _ _ _ hb1 (Nat.lt_of_lt_of_le hb2 (Nat.le_trans n1 kk.next)) hh (by simp; omega)
 ·have hj' : j<out.length:=by rw[List.length_set] at hj; exact hj
  obtain⟨a1,a2,a3,a4⟩:=h.row j hj'
  by_cases hji:j=i
  ·subst hji
   rw[List.getElem_set_self]
   simp only[if_true]
   refine⟨?_, ?_, ?_,hw.keep kk fun d hd hm=>?_⟩
   ·rw[List.getElem?_set_ne (by omega),List.getElem?_set_ne (by omega)]; exact a1
   ·rw[List.getElem?_set_ne (by omega),List.getElem?_set_self (by omega)]
   ·rw[List.getElem?_set_self (by rw[List.length_set]; omega)]
   ·simp at hm; subst hm; exact hbw hd
  ·rw[List.getElem_set_ne (Ne.symm hji)]
   simp only[if_neg hji]
   refine⟨?_, ?_, ?_,(a4.keep k1 fun d hd hm=>?_).keep kk fun d hd hm=>?_⟩
   ·rw[List.getElem?_set_ne (by omega),List.getElem?_set_ne (by omega)]; exact a1
   ·rw[List.getElem?_set_ne (by omega),List.getElem?_set_ne (by omega)]; exact a2
   ·rw[List.getElem?_set_ne (by omega),List.getElem?_set_ne (by omega)]; exact a3
   ·exact h.apart j i hj' hi hji d hd (hks d hm)
   ·simp at hm; subst hm; exact hbv j hj' hd
 ·rw[List.length_set] at q1 q2
  by_cases e1:j1=i
  ·rw[if_pos e1] at hd
   rw[if_neg (fun e=>hne (e1.trans e.symm))]
   rcases hw2 with rfl | hw2
   ·exact h.apart i j2 hi q2 (fun e=>hne (e1.trans e)) d hd
   ·intro hm
    have:=hw2 d hd
    have:=((h.row j2 q2).2.2.2.blk d hm).2
    omega
  ·rw[if_neg e1] at hd
   by_cases e2:j2=i
   ·rw[if_pos e2]
    rcases hw2 with rfl | hw2
    ·exact h.apart j1 i q1 hi e1 d hd
    ·intro hm
     have:=hw2 d hm
     have:=((h.row j1 q1).2.2.2.blk d hd).2
     omega
   ·rw[if_neg e2]
    exact h.apart j1 j2 q1 q2 hne d hd
 ·rw[List.length_set] at hj
  have hd:d∈aJ (if j=i then w else ws j):=hd
  by_cases e1:j=i
  ·rw[if_pos e1] at hd
   intro hm
   rw[hv] at hm
   simp[aJ] at hm
   subst hm; exact hbw hd
  ·rw[if_neg e1] at hd
   exact h.off j hj d hd
end
def ar9 (l:List aH) (i:Nat) (o:List lc) : List lc:=if i=0∨(l.getD i (0,0)).1≠(l.getD (i - 1) (0,0)).1 then o++[(((l.getD i (0,0)).1.toNat,0),[])] else o
def bump (p:lc) (n:Nat) : lc:=if p.2=[]∧n=p.1.2 + 1 then((p.1.1,n),[]) else(p.1,p.2++[n])
def Vz (o:List lc) (n:Nat) : List lc:=o.set (o.length - 1) (bump (o.getD (o.length - 1) ((0,0),[])) n)
def F7 (l:List aH) : Nat→List lc
 | 0=>[]
 | i + 1=>Vz (ar9 l i (F7 l i)) (l.getD i (0,0)).2
def Px (l:List aH) : List lc:=F7 l l.length
theorem Fw {α:Type} {l:List α} {i:Nat} {d:α} (h:i<l.length) : l.getD i d=l[i]:=by
 rw[List.getD_eq_getElem?_getD,List.getElem?_eq_getElem h]; rfl
theorem OX {d:aH} (h:good d=true) : 0≤d.1∧d.1<16∧d.2≤1099511627776∧1≤d.2:=by
 simp only[good,Bool.and_eq_true,decide_eq_true_eq] at h
 omega
theorem VV {o:List lc} {k:Nat} (h:∀ p∈o,(aq6 p).length≤k) : (o.flatMap aq6).length≤o.length * k:=by
 induction o with
 | nil=>simp
 | cons p o ih =>
   rw[List.flatMap_cons,List.length_append,List.length_cons,Nat.succ_mul]
   have h1:=h p (by simp)
   have h2:=ih fun q hq=>h q (by simp[hq])
   omega
section
variable {TP TU base:Nat} {M:RM} {v:AV} {out:List lc} {cs:List AV} {ws:Nat→AV}
end
theorem ahm {ps:List Pt} {d:aH} : (l5 ps d).2.length=ps.length:=by
 unfold l5
 split
 ·split
  ·simp only; rw[List.length_set]
  ·rfl
 ·rfl
structure axF (l:List aH) (i:Nat) (ps:List Pt) : Prop where
 len:ps.length=16
 wf:∀ p∈ps,qc p
 few:∀ p∈ps,p.2.length≤i
 has:∀ k (hk:k<l.length),k<i→good l[k]=true→iV ps l[k]=true
theorem DV {a b:aH} : Cq a b=true↔a.1<b.1∨(a.1=b.1∧a.2<b.2):=by
 simp[Cq]
theorem Ux {a:aH} : ¬ Cq a a=true:=by rw[DV]; omega
theorem adH {a b:aH} (h:Cq a b=true) : ¬ Cq b a=true:=by rw[DV] at *; omega
def Srt (l:List aH) : Prop:=l.Pairwise fun a b=>Cq a b=true
theorem ab1:∀ {xs ys:List aH},Srt xs→Srt ys→(∀ x,x∈xs↔x∈ys)→xs=ys
 | [],[],_,_,_=>rfl
 | [],y :: ys,_,_,h=>by have:=(h y).2 (by simp); simp at this
 | x :: xs,[],_,_,h=>by have:=(h x).1 (by simp); simp at this
 | x :: xs,y :: ys,h1,h2,h=>by
   have a1:=List.pairwise_cons.1 h1
   have a2:=List.pairwise_cons.1 h2
   have hxy:x=y:=by
    rcases List.mem_cons.1 ((h x).1 (by simp)) with e | e
    ·exact e
    ·rcases List.mem_cons.1 ((h y).2 (by simp)) with e' | e'
     ·exact e'.symm
     ·exact absurd (a1.1 y e') (adH (a2.1 x e))
   subst hxy
   rw[ab1 a1.2 a2.2 fun z=>⟨fun hz=>?_,fun hz=>?_⟩]
   ·rcases List.mem_cons.1 ((h z).1 (by simp[hz])) with rfl | e
    ·exact absurd (a1.1 z hz) Ux
    ·exact e
   ·rcases List.mem_cons.1 ((h z).2 (by simp[hz])) with rfl | e
    ·exact absurd (a2.1 z hz) Ux
    ·exact e
def nums (p:Pt) : List Nat:=List.range' 1 p.1++p.2
def YS (i:Nat) (p:Pt) : List aH:=(nums p).map fun n=>((i:Int),n)
def oN (ps:List Pt) : Nat→List aH
 | 0=>[]
 | i + 1=>oN ps i++YS i (ps.getD i (0,[]))
theorem XG {p:Pt} {n:Nat} : n∈nums p↔fT p n=true:=by
 rw[tF,nums,List.mem_append,List.mem_range'_1]
 constructor
 ·rintro(h | h)
  ·exact .inl (by omega)
  ·exact .inr h
 ·rintro(h | h)
  ·exact .inl (by omega)
  ·exact .inr h
theorem He {ps:List Pt} {d:aH} : ∀ {i:Nat},d∈oN ps i↔0≤d.1∧d.1<i∧fT (ps.getD d.1.toNat (0,[])) d.2=true
 | 0=>by simp[oN]; omega
 | i + 1=>by
   rw[oN,List.mem_append,He,YS,List.mem_map]
   constructor
   ·rintro(⟨h1,h2,h3⟩ | ⟨n,h,rfl⟩)
    ·exact⟨h1,by omega,h3⟩
    ·exact⟨by simp,by simp; omega,by simpa using XG.1 h⟩
   ·rintro⟨h1,h2,h3⟩
    by_cases h:d.1<i
    ·exact .inl ⟨h1,h,h3⟩
    ·have e:d.1.toNat=i:=by omega
     rw[e] at h3
     exact .inr ⟨d.2,XG.2 h3,Prod.ext (by simp; omega) rfl⟩
theorem aii {p:Pt} (h:qc p) : Asc (nums p):=by
 unfold nums Asc
 rw[List.pairwise_append]
 refine⟨List.pairwise_lt_range',h.1,fun a ha b hb=>?_⟩
 have:=List.mem_range'_1.1 ha
 have:=h.2.1 b hb
 omega
theorem Qo {ps:List Pt} (h:∀ p∈ps,qc p) : ∀ i,Srt (oN ps i)
 | 0=>.nil
 | i + 1=>by
   unfold Srt
   rw[oN,List.pairwise_append]
   refine⟨Qo h i, ?_,fun a ha b hb=>?_⟩
   ·rw[YS,List.pairwise_map]
    exact List.Pairwise.imp (fun {a b} (hab:a<b)=>by rw[DV]; exact .inr ⟨rfl,hab⟩) (aii (BL h i))
   ·have h1:=(He.1 ha).2.1
    rw[YS,List.mem_map] at hb
    obtain⟨n,_,rfl⟩:=hb
    exact DV.2 (.inl h1)
theorem af4 {ps:List Pt} (h:∀ p∈ps,qc p) (d:aH) : d∈oN ps 16↔iV ps d=true:=by
 rw[He,iV,Bool.and_eq_true]
 constructor
 ·rintro⟨h1,h2,h3⟩
  refine⟨?_,h3⟩
  have hw:=BL h d.1.toNat
  have:1≤d.2∧d.2≤1099511627776:=by
   rcases tF.1 h3 with h | h
   ·have:=hw.2.2.1; omega
   ·have:=hw.2.1 _ h; have:=hw.2.2.2.1 _ h; omega
  simp[good]; omega
 ·rintro⟨h1,h3⟩
  simp[good] at h1
  exact⟨by omega,by omega,h3⟩
def zL:List lc→Option Int→List aH→List lc
 | o,_,[]=>o
 | o,p,d :: ds=>zL (Vz (if p=some d.1 then o else o++[((d.1.toNat,0),[])]) d.2) (some d.1) ds
theorem Kj {l:List aH} : ∀ (k i:Nat),i + k=l.length→zL (F7 l i) (if i=0 then none else some (l.getD (i - 1) (0,0)).1) (l.drop i)=Px l
 | 0,i,h=>by
   rw[List.drop_of_length_le (by omega),zL,Px]
   congr 1
 | k + 1,i,h=>by
   have hi:i<l.length:=by omega
   have hD:l.getD i (0,0)=l[i]:=Fw hi
   have ih:=Kj (l:=l) k (i + 1) (by omega)
   rw[if_neg (show ¬ i + 1=0 by omega),Nat.add_sub_cancel,F7,hD] at ih
   rw[List.drop_eq_getElem_cons hi,zL,← ih]
   congr 2
   unfold ar9
   rw[hD]
   by_cases h0:i=0
   ·subst h0; simp
   ·rw[if_neg h0]
    by_cases he:l[i].1=(l.getD (i - 1) (0,0)).1
    ·rw[if_pos (by rw[he]),if_neg (by rintro(h | h); exact h0 h; exact h he)]
    ·rw[if_neg (fun h=>he (Option.some.inj h).symm),if_pos (.inr he)]
theorem Pf (o:List lc) (p:lc) (n:Nat) : Vz (o++[p]) n=o++[bump p n]:=by
 have e:(o++[p]).length - 1=o.length:=by simp
 unfold Vz
 rw[e,List.getD_eq_getElem?_getD,List.getElem?_append_right (Nat.le_refl _),List.set_append_right _ _ (Nat.le_refl _)]
 simp
theorem Uz (i:Int) : ∀ (xs:List Nat) (o:List lc) (p:lc) (rest:List aH),zL (o++[p]) (some i) (xs.map (fun n=>(i,n))++rest)=zL (o++[xs.foldl bump p]) (some i) rest
 | [],_,_,_=>rfl
 | x :: xs,o,p,rest=>by
   rw[List.map_cons,List.cons_append,zL,if_pos rfl,Pf,Uz i xs,List.foldl_cons]
theorem QT (i:Nat) : ∀ (k a:Nat),(List.range' (a + 1) k).foldl bump ((i,a),[])=((i,a + k),[])
 | 0,a=>rfl
 | k + 1,a=>by
   rw[List.range'_succ,List.foldl_cons,bump,if_pos ⟨rfl,rfl⟩,QT i k (a + 1)]
   congr 2; omega
theorem Ur (q:Nat × Nat) : ∀ (xs ys:List Nat),ys≠[]→xs.foldl bump (q,ys)=(q,ys++xs)
 | [],ys,_=>by simp
 | x :: xs,ys,h=>by
   rw[List.foldl_cons,bump,if_neg (fun h'=>h h'.1),Ur q xs _ (by simp),List.append_assoc]; rfl
theorem afI {i:Nat} {p:Pt} (h:qc p) : (nums p).foldl bump ((i,0),[])=((i,p.1),p.2):=by
 obtain⟨u,xs⟩:=p
 rw[nums,List.foldl_append,show(1:Nat)=0 + 1 from rfl,QT i u 0,Nat.zero_add]
 cases xs with
 | nil=>rfl
 | cons x xs =>
   have:=h.2.1 x (by simp)
   rw[List.foldl_cons,bump,if_neg (fun h'=>by simp only at h' this; omega),Ur _ _ _ (by simp)]
   rfl
theorem Mo {ps:List Pt} (h:∀ p∈ps,qc p) : ∀ i:Nat,∃ p:Option Int,(∀ j,p=some j→j<i)∧∀ rest,zL [] none (oN ps i++rest)=zL (KG ps i) p rest
 | 0=>⟨none,by simp,fun rest=>rfl⟩
 | i + 1=>by
   obtain⟨p,hp,hr⟩:=Mo h i
   have hw:=BL h i
   by_cases he:0<(ps.getD i (0,[])).1∨0<(ps.getD i (0,[])).2.length
   ·refine⟨some (i:Int),fun j hj=>by have:=Option.some.inj hj; omega,fun rest=>?_⟩
    rw[oN,List.append_assoc,hr,KG,if_pos he,YS]
    have hne:nums (ps.getD i (0,[]))≠[]:=by
     unfold nums
     intro h0
     obtain⟨q1,q2⟩:=List.append_eq_nil_iff.1 h0
     have q1:=congrArg List.length q1
     have q2:=congrArg List.length q2
     rw[List.length_range'] at q1
     simp only[List.length_nil] at q1 q2
     omega
    have hb:=afI (i:=i) hw
    generalize nums (ps.getD i (0,[]))=ns at *
    cases ns with
    | nil=>exact absurd rfl hne
    | cons n ns =>
      rw[List.map_cons,List.cons_append,zL,if_neg (fun h'=>by have:=hp _ h'; omega),Pf,Uz,← hb,List.foldl_cons,Int.toNat_natCast]
   ·refine⟨p,fun j hj=>by have:=hp j hj; omega,fun rest=>?_⟩
    rw[oN,List.append_assoc,hr,KG,if_neg he,List.append_nil]
    have e:YS i (ps.getD i (0,[]))=[]:=by
     unfold YS nums
     have h1:(ps.getD i (0,[])).1=0:=by omega
     have h2:(ps.getD i (0,[])).2=[]:=List.length_eq_zero_iff.1 (by omega)
     rw[h1,h2]; rfl
    rw[e,List.nil_append]
theorem Z4 {ps:List Pt} (h:∀ p∈ps,qc p) : Px (oN ps 16)=parts ps:=by
 rw[← Kj (l:=oN ps 16) (oN ps 16).length 0 (by omega)]
 obtain⟨p,_,hr⟩:=Mo h 16
 have:=hr []
 rw[List.append_nil] at this
 simp only[F7,if_true,List.drop_zero]
 rw[this]; rfl
structure EX (ps:List Pt) (w:List aH) : Prop where
 len:ps.length=16
 wf:∀ p∈ps,qc p
 srt:Srt w
 mem:∀ d,d∈w↔iV ps d=true
theorem EX.eq {ps:List Pt} {w:List aH} (h:EX ps w) : w=oN ps 16:=ab1 h.srt (Qo h.wf 16) fun d=>by rw[h.mem,af4 h.wf]
theorem EX.parts {ps:List Pt} {w:List aH} (h:EX ps w) : parts ps=Px w:=by rw[h.eq,Z4 h.wf]
theorem EX.good {ps:List Pt} {w:List aH} (h:EX ps w) : ∀ d∈w,good d=true:=fun d hd=>by
 have:=(h.mem d).1 hd
 rw[iV,Bool.and_eq_true] at this
 exact this.1
theorem EX.empty:EX kI []:=by
 refine⟨rfl,MS,.nil,fun d=>?_⟩
 rw[iV,G6]
 simp[fT]
 intro _ h; omega
theorem afw {M:RM} {base T:Nat} {v:AV} {xs:List Nat} (h:Ow bf M base T v xs) (hn:0<xs.length) : ∃ b,v=vv b xs.length∧base≤b∧b<M.next∧M=PM M b T xs.toArray:=by
 obtain⟨b,h1,h2,h3,h4,h5⟩:=Own.uO h hn
 refine⟨b,h1,h2,h3, ?_⟩
 unfold PM RM.put
 obtain⟨n,hp,lo⟩:=M
 simp only at h4 ⊢
 congr 1
 funext c
 by_cases hc:c=b
 ·subst hc; rw[if_pos rfl,h4]
 ·rw[if_neg hc]
theorem an1 {M:RM} {b T base:Nat} {d:Array Nat} (h1:base≤b) (h2:b<M.next) : Ow bf (PM M b T d) base T (vv b d.size) d.toList:=by
 have:Own (PM M b T d) base T 1 (.slc b 0 d.size (.op 1)) (bf.row d.toList) d.size:=.op _ _ _ h1 h2 PM.heap (by rw[PM.Ov]; omega)
 show Own (PM M b T d) base T 1 (.slc b 0 d.size (.op 1)) (bf.row d.toList) d.toList.length
 rw[Array.length_toList]; exact this
theorem abr {M M' : RM} {b T:Nat} {d:Array Nat} (k:ag [] M M') : ag [b] M (PM M' b T d):=(k.mono (by simp)).put _ (.inr (by simp))
def lg (xs:List Nat) : List Nat:=(Sort.sort lN xs.toArray).toList
theorem af0:lg []=[]:=by
 unfold lg Sort.sort
 rw[pdq_eq,if_pos (by simp),Sort.insertionSort,Sort.insOuter,if_neg (by simp)]
theorem Po (xs:List Nat) : (lg xs).Perm xs:=by
 have h:=(Sort.sort_sorts lN VS xs.toArray).1
 have h2:=h.2.2
 rw[Array.extract_eq_self_of_le (by rw[h.1]; exact Nat.le_refl _),Array.extract_eq_self_of_le (Nat.le_refl _)] at h2
 exact h2
theorem JL (xs:List Nat) : (lg xs).length=xs.length:=(Po xs).length_eq
theorem ag9 (xs:List Nat) : Up (lg xs):=by
 intro i j hi hj hij
 have h:=(Sort.sort_sorts lN VS xs.toArray)
 have hs:(Sort.sort lN xs.toArray).size=xs.toArray.size:=h.1.1
 unfold lg at hi hj ⊢
 rw[Array.length_toList] at hi hj
 rcases Nat.lt_or_ge i j with h1 | h1
 ·have:=h.2 i j (Nat.zero_le _) h1 (by omega)
  rw[yI hj,yI hi] at this
  rw[Array.getElem_toList,Array.getElem_toList]
  have:=of_decide_eq_false this
  omega
 ·have:i=j:=by omega
  subst this; exact Nat.le_refl _
def Xj (c:ak) : Prop:=∀ {M:RM} {v:AV} {Q:aj},Q (.tup []) M→c [v,N .i64 0,N .i64 ((0:Nat) : Int),N .i64 ((0:Nat) : Int)] M Q
def Xw (c:ak) : Prop:=∀ {M:RM} {v:AV} {Q:aj},Q (.tup []) M→c [v,N .i64 0,N .i64 ((0:Nat) : Int)] M Q
theorem aaG {cl:ak} : Xw fun args M Q=>∃ a0 a1 a2,args=[a0,a1,a2]∧fU cl a0 a1 a2 M Q:=by
 intro M v Q hQ
 refine⟨_,_,_,rfl, ?_⟩
 unfold fU
 rw[dw,show IntKind.i64.wrap ((0:Int) + 1)=1 from rfl]
 refine aG (fun m ys M3=>m=0∧ys=[N .i64 1]∧M3=M) 0 ⟨rfl,rfl,rfl⟩ ?_
 rintro next m ys M3 hnext ⟨rfl,rfl,rfl⟩
 dsimp only[aa]
 rw[dL,show decide ((1:Int)<((0:Nat) : Int))=false from rfl,bA]
 exact hQ
theorem aaL {ci c2 c3 cc c4 cp c5 c6 c7 c8:ak} (hi:Xw ci) : Xj fun args M Q=>∃ a0 a1 a2 a3,args=[a0,a1,a2,a3]∧iP ci c2 c3 cc c4 cp c5 c6 c7 c8 a0 a1 a2 a3 M Q:=by
 intro M v Q hQ
 refine⟨_,_,_,_,rfl, ?_⟩
 unfold iP
 refine aG (fun m ys M3=>m=0∧ys=[N .i64 0,N .i64 ((0:Nat) : Int),N .i64 ((0:Nat) : Int),Bo true,Bo true]∧M3=M) 0 ⟨rfl,rfl,rfl⟩ ?_
 rintro next m ys M3 hnext ⟨rfl,rfl,rfl⟩
 dsimp only[aa]
 rw[iX,show IntKind.i64.wrap (((0:Nat) : Int) - 0)=0 from rfl,nP,show decide ((0:Int)≤12)=true from rfl,dP]
 exact hi hQ
theorem acW {T:Nat} {cl cp:ak} (hl:H6 cl) (hp:∀ m,acF T m cp) (h0:Xj cp) : aeG (fun xs=>xs.length≤60000) lg T fun args M Q=>∃ a0,args=[a0]∧Ap cl cp a0 M Q:=by
 intro M base v xs Q ho hx hQ
 have hs:Sl bf M v xs:=ho.eZ
 refine⟨_,rfl, ?_⟩
 unfold Ap
 have hx:xs.length≤60000:=hx
 rw[aL.len hs,oJ,jT (by omega) (by omega)]
 refine hl (by omega) ?_
 rcases Nat.eq_zero_or_pos xs.length with hn | hn
 ·rw[hn,show Sort.bitsLen 0=0 from rfl]
  refine h0 ?_
  have:=List.length_eq_zero_iff.1 hn
  subst this
  exact hQ M (by rw[af0]; exact ho) (ag.refl _ _)
 ·obtain⟨b,rfl,h1,h2,h3⟩:=afw ho hn
  have hb:=yL hn (by omega)
  have hsz:xs.toArray.size=xs.length:=by simp
  have:=hp (xs.length + 1) (M:=M) (b:=b) (a:=0) (e:=xs.toArray.size) (limit:=Sort.bitsLen xs.length) (d:=xs.toArray) (Q:=fun bW M_0=>Q (.tup []) M_0) h2 (by omega) (by omega) (Nat.le_refl _) (by omega) (by omega) fun M' k=>?_
  ·rw[← h3] at this
   simpa using this
  ·have e:(Sort.pdq lN xs.toArray 0 xs.toArray.size (Sort.bitsLen xs.length) true true)=Sort.sort lN xs.toArray:=by rw[Sort.sort]; simp
   rw[e]
   refine hQ _ ?_ (abr k)
   have hsz2:(Sort.sort lN xs.toArray).size=xs.length:=by
    have:=JL xs
    unfold lg at this
    rw[Array.length_toList] at this; exact this
   have:=an1 (M:=M') (T:=T) (d:=Sort.sort lN xs.toArray) h1 (Nat.lt_of_lt_of_le h2 k.next)
   rw[hsz2] at this
   exact this
def AL:Nat→List Nat→List Nat
 | _,[]=>[]
 | p,x :: xs=>if x=p then AL x xs else x :: AL x xs
def dd:List Nat→List Nat
 | []=>[]
 | x :: xs=>x :: AL x xs
theorem aas:∀ (ys:List Nat) (p x:Nat),AL p (ys++[x])=if x=ys.getLastD p then AL p ys else AL p ys++[x]
 | [],p,x=>rfl
 | y :: ys,p,x=>by
   rw[List.cons_append,AL,AL,aas ys y x,List.getLastD_cons]
   by_cases hy:y=p
   ·rw[if_pos hy,if_pos hy]
   ·rw[if_neg hy,if_neg hy]
    split
    ·rfl
    ·rfl
theorem UA:∀ (k:Nat) (ys:List Nat) (y:Nat) (h:k<(y :: ys).length),(ys.take k).getLastD y=(y :: ys)[k]
 | 0,ys,y,h=>rfl
 | k + 1,[],y,h=>by simp at h
 | k + 1,z :: zs,y,h=>by
   rw[List.take_succ_cons,List.getLastD_cons,UA k zs z (by simpa using h)]
   rfl
theorem abq {xs:List Nat} {m:Nat} (h1:1≤m) (h:m<xs.length) : dd (xs.take (m + 1))=if xs[m]=xs[m - 1] then dd (xs.take m) else dd (xs.take m)++[xs[m]]:=by
 rw[List.take_succ_eq_append_getElem h]
 cases xs with
 | nil=>simp at h
 | cons y ys =>
   obtain⟨k,rfl⟩ : ∃ k,m=k + 1:=⟨m - 1,by omega⟩
   have hk:k<(y :: ys).length:=by omega
   rw[List.take_succ_cons,List.cons_append,dd,dd,aas,UA k ys y hk]
   simp only[Nat.add_sub_cancel]
   split <;> simp
theorem apT:∀ (xs:List Nat),(dd xs).length≤xs.length
 | []=>Nat.le_refl _
 | x :: xs=>by
   have:∀ (p:Nat) (l:List Nat),(AL p l).length≤l.length:=by
    intro p l
    induction l generalizing p with
    | nil=>exact Nat.le_refl _
    | cons y l ih=>rw[AL]; split <;> simp <;> have:=ih y <;> omega
   rw[dd]; simp; exact this x xs
theorem aes {b o n k:Nat} (h:k≤n) (h0:0<n) : cZ 1 (.slc b o n (.op 1)) none (some (N .i64 (k:Int))) none=some (.slc b o k (.op 1)):=by
 simp only[cZ,bnd]
 simp[h]
 omega
theorem Vg {T:Nat} : Ou (fun xs=>xs.length≤60000) dd T fun args M Q=>∃ a0,args=[a0]∧wB a0 M Q:=by
 intro M base v xs Q ho hx hQ
 have hx:xs.length≤60000:=hx
 have hs:Sl bf M v xs:=ho.eZ
 refine⟨_,rfl, ?_⟩
 unfold wB
 have hself:dd xs=xs→Q v M:=fun e=>hQ v M (by rw[e]; exact hs) (Own.nV ho) (fun d hd=>hd) (ag.refl _ _)
 rw[aL.len hs,dL]
 refine aC (fun hg=>?_) (fun hg=>?_)
 ·have hg:xs.length<2:=by
   have:(xs.length:Int)<2:=of_decide_eq_true hg
   omega
  refine hself ?_
  match xs,hg with
  | [],_=>rfl
  | [x],_=>rfl
 have hg:2≤xs.length:=by
  have:¬ (xs.length:Int)<2:=of_decide_eq_false hg
  omega
 obtain⟨b,rfl,h1,h2,h3⟩:=afw ho (by omega)
 have hsz:xs.toArray.size=xs.length:=by simp
 have hat:∀ i (h:i<xs.length),xs.toArray[i]! = xs[i]:=fun i h=>by rw[yI (by simpa using h)]; simp
 clear hs
 have hself:=hself
 simp only[bF]
 refine aG (fun m ys M3=>∃ i:Nat,m=xs.length - i∧ys=[N .i64 (i:Int)]∧1≤i∧i≤xs.length∧M3=PM M b T xs.toArray∧dd (xs.take i)=xs.take i) _ ⟨1,rfl,rfl,Nat.le_refl _,by omega,h3,by
  match xs,hg with
  | x :: y :: l,_=>rfl⟩ ?_
 rintro next m ys M3 hnext ⟨i,rfl,rfl,hi1,hi,rfl,hdd⟩
 dsimp only[aa]
 have ahz:∀ K:AV→Prop,bu (vv b xs.length) K=K (N .i64 (xs.length:Int)):=fun K=>by simp[lZ]
 rw[ahz,dB]
 refine aC (fun hlt=>?_) (fun hge=>?_)
 rotate_left
 ·have he:i=xs.length:=by
   have:¬ i<xs.length:=of_decide_eq_false hge
   omega
  subst he
  rw[List.take_length] at hdd
  rw[← h3]
  exact hself hdd
 have hlt:i<xs.length:=of_decide_eq_true hlt
 rw[PM.rd hsz.symm (by omega),bz (by omega) (by omega),PM.rd hsz.symm (by omega),hat i hlt,hat (i - 1) (by omega),bL]
 have hstep:=abq hi1 hlt
 by_cases heq:xs[i]=xs[i - 1]
 rotate_left
 ·rw[show(((xs[i] : Nat) : Int) == ((xs[i - 1]'(by omega) : Nat) : Int))=false by rw[beq_eq_false_iff_ne]; omega,bA,add1 (by omega)]
  rw[if_neg heq,hdd] at hstep
  exact hnext _ _ _ (by omega) ⟨i + 1,rfl,rfl,by omega,hlt,rfl,by rw[hstep,← List.take_succ_eq_append_getElem hlt]⟩
 rw[show(((xs[i] : Nat) : Int) == ((xs[i - 1]'(by omega) : Nat) : Int))=true by rw[beq_iff_eq]; omega,dP]
 rw[if_pos heq,hdd] at hstep
 rw[sP hlt,dO]
 have auK:∀ K:AV→Prop,bu (.slc b (0 + i * 1) (xs.length - i) (.op 1)) K=K (N .i64 ((xs.length - i:Nat) : Int)):=fun K=>by simp[lZ]
 have agG:∀ (j:Nat),j<xs.length - i→∀ (K:AV→Prop),ah (.slc b (0 + i * 1) (xs.length - i) (.op 1)) (N .i64 (j:Int)) 1 K=K (.ptr b (i + j)):=fun j hj K=>by
  rw[ma]
  simp only[Int.toNat_natCast]
  rw[show 0 + i * 1 + j * 1=i + j by omega]
  exact propext ⟨fun h=>h.2.2,fun h=>⟨by omega,by omega,h⟩⟩
 -- the rest: moved down
 refine aG (fun m ys M5=>∃ (k j:Nat) (d:Array Nat),m=xs.length - j∧ys=[N .i64 (k:Int),N .i64 (j:Int)]∧1≤j∧i + j≤xs.length∧1≤k∧k + 1≤i + j∧M5=PM M b T d∧d.size=xs.length∧d.toList.take k=dd (xs.take (i + j))∧(∀ q (h:q<xs.length),i + j≤q + 1→d[q]! = xs[q])) _
  ⟨i,1,xs.toArray,rfl,rfl,by omega,by omega,by omega,by omega,rfl,hsz,by rw[hstep],fun q h _=>hat q h⟩ ?_
 rintro iq m ys M5 dm ⟨k,j,d,rfl,rfl,hj1,hij,hk1,hk,rfl,hds,hpre,hold⟩
 dsimp only[aa]
 rw[auK,dB]
 refine aC (fun hlt2=>?_) (fun mU=>?_)
 ·have hlt2:j<xs.length - i:=of_decide_eq_true hlt2
  have hij' : i + j<xs.length:=by omega
  refine aP (fun zs M'=>∃ (k' : Nat) (d' : Array Nat),zs=[N .i64 (k' : Int)]∧1≤k'∧k'≤i + j∧M'=PM M b T d'∧d'.size=xs.length∧d'.toList.take k'=dd (xs.take (i + j + 1))∧(∀ q (h:q<xs.length),i + j≤q→d'[q]! = xs[q])) ?_ ?_
  ·rintro zs M' ⟨k',d',rfl,c1,c2,rfl,c3,c4,c5⟩
   dsimp only[aa]
   rw[add1 (by omega)]
   exact dm _ _ _ (by omega) ⟨k',j + 1,d',rfl,rfl,by omega,by omega,c1,by omega,rfl,c3,c4,fun q h hq=>c5 q h (by omega)⟩
  intro J hJ
  have aej:=abq (xs:=xs) (m:=i + j) (by omega) hij'
  have ld:∀ q (h:q<xs.length) (K:AV→Prop),au (PM M b T d) (.ptr b q) K=K (N .u64 ((d[q]! : Nat) : Int)):=fun q h K=>az PM.heap (PM.cellAt (by omega))
  rw[agG j hlt2,ld _ hij',bz (by omega) (by omega),agG (j - 1) (by omega),ld _ (by omega),hold (i + j) hij' (by omega),hold (i + (j - 1)) (by omega) (by omega),jH]
  have hpe:xs[i + (j - 1)]'(by omega)=xs[i + j - 1]'(by omega):=by congr 1; omega
  rw[hpe]
  by_cases hne:xs[i + j]=xs[i + j - 1]'(by omega)
  ·rw[show(((xs[i + j] : Nat) : Int) != ((xs[i + j - 1]'(by omega) : Nat) : Int))=false by rw[hne]; simp,bA]
   rw[if_pos hne] at aej
   exact hJ _ _ ⟨k,d,rfl,hk1,by omega,rfl,hds,by rw[aej]; exact hpre,fun q h hq=>hold q h (by omega)⟩
  ·rw[show(((xs[i + j] : Nat) : Int) != ((xs[i + j - 1]'(by omega) : Nat) : Int))=true by simp only[bne_iff_ne,ne_eq]; omega,dP]
   rw[if_neg hne] at aej
   rw[agG j hlt2,ld _ hij',hold (i + j) hij' (by omega),PM.idx (by omega),PM.put (by omega),add1 (by omega)]
   refine hJ _ _ ⟨k + 1,_,rfl,by omega,by omega,rfl,by simpa using hds, ?_,fun q h hq=>?_⟩
   ·have hkl:k<d.toList.length:=by rw[Array.length_toList]; omega
    rw[aej,← hpre,Array.toList_setIfInBounds,List.take_succ_eq_append_getElem (by rw[List.length_set]; exact hkl),List.getElem_set_self,List.take_set_of_le (Nat.le_refl _)]
   ·rw[← hold q h (by omega)]
    rw[yI (by rw[Array.size_setIfInBounds]; omega),yI (by omega),Array.getElem_setIfInBounds_ne (by omega) (by omega)]
 ·have hij' : i + j=xs.length:=by
   have:¬ j<xs.length - i:=of_decide_eq_false mU
   omega
  rw[hij',List.take_length] at hpre
  have hst:(PM M b T d).stores b (0 + k * 1) (bO [N .u64 0] (xs.length - k))=some ((PM M b T d).put b (.row ((bf.row d.toList).take (0 + k * 1)++bO [N .u64 0] (xs.length - k)++(bf.row d.toList).drop (0 + k * 1 + (bO [N .u64 0] (xs.length - k)).length)) true T 0)):=by
   refine RM.Br PM.heap ?_ (Nat.zero_le _) (tq _).2
   rw[(tq _).1,PM.Ov]; omega
  rw[sP (by omega),dO]
  refine .inl ⟨_,_,_,_,_,rfl,hst, ?_⟩
  dsimp only
  rw[aes (by omega) (by omega),dO]
  have hlk:(dd xs).length=k:=by rw[← hpre,List.length_take,Array.length_toList]; omega
  refine hQ _ _ ?_ (show(1:Nat)=1 from rfl) (fun e he=>by simpa [aJ] using he) ?_
  ·have hrow:((bf.row d.toList).take (0 + k * 1))=bf.row (dd xs):=by
    rw[← hpre,show 0 + k * 1=k * bf.size by simp[bf],Enc.vT]
   show aL _ 1 (.slc b 0 k (.op 1)) (bf.row (dd xs)) (dd xs).length
   rw[hlk]
   refine .slc _ _ _ _ _ h2 ?_
   have hl:(bf.row (dd xs)).length=k:=by rw[Enc.eH,hlk]; simp[bf]
   rw[RM.dH (aU _) (by rw[hrow]; simp[hl]),List.drop_zero,hrow,Nat.mul_one,List.append_assoc,List.take_left' hl]
  ·refine ag.put ?_ _ (.inr (by simp[aJ]))
   exact abr (ag.refl _ _)
theorem aum {xs:List Nat} (h:Up xs) : xs.Pairwise (· ≤ ·):=List.pairwise_iff_getElem.2 fun i j hi hj hij=>h i j hi hj (Nat.le_of_lt hij)
theorem U5:∀ (ys:List Nat) (p:Nat),(p :: ys).Pairwise (· ≤ ·)→Asc (AL p ys)∧(∀ x∈AL p ys,p<x)∧∀ x,x∈AL p ys↔x∈ys∧x≠p
 | [],p,_=>⟨.nil,by simp[AL],by simp[AL]⟩
 | y :: ys,p,h=>by
   have a1:=List.pairwise_cons.1 h
   have a2:=List.pairwise_cons.1 a1.2
   obtain⟨i1,i2,i3⟩:=U5 ys y a1.2
   have hpy:p≤y:=a1.1 y (by simp)
   rw[AL]
   by_cases hy:y=p
   ·rw[if_pos hy]
    subst hy
    refine⟨i1,i2,fun x=>?_⟩
    rw[i3,List.mem_cons]
    constructor
    ·rintro⟨h1,h2⟩; exact⟨.inr h1,h2⟩
    ·rintro⟨h1 | h1,h2⟩
     ·exact absurd h1 h2
     ·exact⟨h1,h2⟩
   ·rw[if_neg hy]
    refine⟨List.pairwise_cons.2 ⟨i2,i1⟩,fun x hx=>?_,fun x=>?_⟩
    ·rcases List.mem_cons.1 hx with rfl | hx
     ·omega
     ·have:=i2 x hx; omega
    ·rw[List.mem_cons,i3,List.mem_cons]
     constructor
     ·rintro(rfl | ⟨h1,h2⟩)
      ·exact⟨.inl rfl,hy⟩
      ·have:=a2.1 x h1
       exact⟨.inr h1,by omega⟩
     ·rintro⟨h1 | h1,h2⟩
      ·exact .inl h1
      ·by_cases hxy:x=y
       ·exact .inl hxy
       ·exact .inr ⟨h1,hxy⟩
theorem ag8 {ys:List Nat} (h:Up ys) : Asc (dd ys)∧∀ x,x∈dd ys↔x∈ys:=by
 have hp:=aum h
 cases ys with
 | nil=>exact⟨.nil,fun x=>Iff.rfl⟩
 | cons y ys =>
   obtain⟨i1,i2,i3⟩:=U5 ys y hp
   refine⟨List.pairwise_cons.2 ⟨i2,i1⟩,fun x=>?_⟩
   rw[dd,List.mem_cons,i3,List.mem_cons]
   constructor
   ·rintro(h | ⟨h,_⟩)
    ·exact .inl h
    ·exact .inr h
   ·rintro(h | h)
    ·exact .inl h
    ·by_cases hxy:x=y
     ·exact .inl hxy
     ·exact .inr ⟨h,hxy⟩
def jl (p q:Pt) : List Nat:=dd (lg (p.2++q.2))
theorem Gw (p q:Pt) : Asc (jl p q)∧(∀ x,x∈jl p q↔x∈p.2∨x∈q.2)∧(jl p q).length≤p.2.length + q.2.length:=by
 obtain⟨h1,h2⟩:=ag8 (ag9 (p.2++q.2))
 refine⟨h1,fun x=>?_, ?_⟩
 ·unfold jl
  rw[h2,(Po _).mem_iff,List.mem_append]
 ·have:=apT (lg (p.2++q.2))
  rw[JL,List.length_append] at this
  exact this
theorem aak {p q:Pt} (hp:qc p) (hq:qc q) (hl:p.2.length + q.2.length≤4096) :
  qc (u6 lg dd p q)∧(∀ x,fT (u6 lg dd p q) x=true↔fT p x=true∨fT q x=true)∧(u6 lg dd p q).2.length≤p.2.length + q.2.length:=by
 obtain⟨h1,h2,h3⟩:=Gw p q
 have he:u6 lg dd p q=settle (max p.1 q.1) (jl p q):=rfl
 rw[he]
 have hpos:∀ y∈jl p q,1≤y:=fun y hy=>by
  rcases(h2 y).1 hy with h | h
  ·have:=hp.2.1 y h; omega
  ·have:=hq.2.1 y h; omega
 have hle:∀ y∈jl p q,y≤1099511627776:=fun y hy=>by
  rcases(h2 y).1 hy with h | h
  ·exact hp.2.2.2.1 y h
  ·exact hq.2.2.2.1 y h
 have hm:max p.1 q.1≤1099511627776:=by have:=hp.2.2.1; have:=hq.2.2.1; omega
 obtain⟨s1,s2,s3,s4⟩:=De (jl p q) (max p.1 q.1) 1099511627776 h1 hm hle
 have hsl:=GJ (max p.1 q.1) (jl p q)
 refine⟨⟨s1,s2,s3,fun x hx=>hle x (Ra hx),by omega⟩,fun x=>?_,by omega⟩
 rw[GY _ _ _ hpos,h2,tF,tF]
 constructor
 ·rintro(h | h | h)
  ·by_cases hx:x≤p.1
   ·exact .inl (.inl ⟨h.1,hx⟩)
   ·exact .inr (.inl ⟨h.1,by omega⟩)
  ·exact .inl (.inr h)
  ·exact .inr (.inr h)
 ·rintro((h | h) | (h | h))
  ·exact .inl ⟨h.1,by omega⟩
  ·exact .inr (.inl h)
  ·exact .inl ⟨h.1,by omega⟩
  ·exact .inr (.inr h)
def HY (ps qs:List Pt) : List Pt:=uy lg dd ps qs 16
structure SI (k:Nat) (ps:List Pt) : Prop where
 len:ps.length=16
 wf:∀ p∈ps,qc p
 few:∀ p∈ps,p.2.length≤k
theorem SI.at {k:Nat} {ps:List Pt} (h:SI k ps) (i:Nat) : qc (ps.getD i (0,[]))∧(ps.getD i (0,[])).2.length≤k :=
 ⟨BL h.wf i,yO (R:=fun p=>p.2.length≤k) h.few (Nat.zero_le _) i⟩
theorem ZJ {ps qs:List Pt} {a c:Nat} (h1:SI a ps) (h2:SI c qs) {j:Nat} (hj:j<16) : (HY ps qs).getD j (0,[])=u6 lg dd (ps.getD j (0,[])) (qs.getD j (0,[])):=WW h1.len (Nat.le_refl _) hj
theorem ahh {ps qs:List Pt} {a c:Nat} (h1:SI a ps) (h2:SI c qs) (hk:a + c≤4096) : SI (a + c) (HY ps qs):=by
 have hlen:(HY ps qs).length=16:=by rw[HY,KV,h1.len]
 have all:∀ p∈HY ps qs,qc p∧p.2.length≤a + c:=fun p hp=>by
  obtain⟨i,hi,rfl⟩:=List.getElem_of_mem hp
  rw[hlen] at hi
  have e:=ZJ h1 h2 hi
  rw[Fw (by omega)] at e
  rw[e]
  obtain⟨w1,l1⟩:=h1.at i
  obtain⟨w2,l2⟩:=h2.at i
  obtain⟨r1,_,r3⟩:=aak w1 w2 (by omega)
  exact⟨r1,by omega⟩
 exact⟨hlen,fun p hp=>(all p hp).1,fun p hp=>(all p hp).2⟩
theorem EX.of {k:Nat} {ps:List Pt} {w:List aH} (h:SI k ps) (hs:Srt w) (hm:∀ d,d∈w↔iV ps d=true) : EX ps w:=⟨h.len,h.wf,hs,hm⟩
def Zv (T:Nat) (c:ak) : Prop:=ada (fun xs=>xs.length≤60000) (fun xs=>xs.length≤60000) lg dd T c
theorem Zv.use {T:Nat} {c:ak} (h:Zv T c) {M:RM} {a b:Nat} {ps qs:List Pt} {S S' : Nat→Prop} {k l:Nat} {Q:aj} (h1:iF T S M a ps) (h2:iF T S' M b qs) (he:a=b→ps=qs) (hn:¬ S' a) (i1:SI k ps) (i2:SI l qs) (hkl:k + l≤60000)
  (hQ:∀ M',iF T (fun e=>S e∨M.next≤e) M' a (HY ps qs)→ag [a] M M'→Q (.tup []) M') : c [.ptr a 0,.ptr b 0] M Q:=by
 refine h h1 h2 he hn (fun i hi=>?_) (fun p hp=>?_) (fun p hp=>?_) (fun i hi=>?_) hQ
 ·have a1:=(i1.at i).2
  have a2:=(i2.at i).2
  show((ps.getD i (0,[])).2++(qs.getD i (0,[])).2).length≤60000∧(lg ((ps.getD i (0,[])).2++(qs.getD i (0,[])).2)).length≤60000
  rw[JL,List.length_append]
  omega
 ·have:=(i1.wf p hp).2.2.1
  have:=i1.few p hp
  omega
 ·have:=(i2.wf p hp).2.2.1
  have:=i2.few p hp
  omega
 ·have a1:=i1.at i
  have a2:=i2.at i
  obtain⟨_,j2,j3⟩:=Gw (ps.getD i (0,[])) (qs.getD i (0,[]))
  refine⟨by have:=j3; unfold jl at this; omega,fun x hx=>?_⟩
  rcases(j2 x).1 hx with h | h
  ·have:=a1.1.2.2.2.1 x h; omega
  ·have:=a2.1.2.2.2.1 x h; omega
end Go.Ab.aH
namespace Go.Ab.Crw
open Go Go.Ab Go.Ab.aH
def aae (T:Nat) (c:ak) : Prop:=∀ {M:RM} {b:Nat} {qs:List Pt} {S' : Nat→Prop} {k:Nat} {Q:aj},iF T S' M b qs→SI k qs→k≤4096 →
 (∀ a M',M.next≤a→iF T (fun e=>a<e) M' a qs→ag [] M M'→Q (.ptr a 0) M')→c [.ptr b 0] M Q
theorem abg {q:Pt} (h:qc q) : u6 lg dd (0,[]) q=q:=by
 have e:jl (0,[]) q=q.2:=abF (Gw _ _).1 h.1 fun x=>by rw[(Gw _ _).2.1]; simp
 show Go.Ab.aH.settle (max 0 q.1) (jl (0,[]) q)=q
 rw[e,Nat.zero_max]
 exact aaI h.2.1
theorem CO:SI 0 kI:=⟨rfl,MS,fun p hp=>by
 rw[kI,List.mem_replicate] at hp
 rw[hp.2]; exact Nat.le_refl _⟩
theorem ac8 {T:Nat} {cn cj:ak} (hn:Zw T cn) (hj:Zv T cj) : aae T fun args M Q=>∃ a0,args=[a0]∧aH.Hd cn cj a0 M Q:=by
 intro M b qs S' k Q hB hi hk hQ
 refine⟨_,rfl, ?_⟩
 unfold aH.Hd
 have hB0:=hB.below
 refine hn fun M1 hA1 k1 n1=>?_
 have hB1:=hB0.keep k1 (by simp) (by simp)
 have hbl:=hB.lt
 refine hj.use hA1 hB1 (fun e=>by omega) (fun h=>by omega) CO hi (by omega) fun M2 hA2 k2=>?_
 have e:HY kI qs=qs:=asC (ahh CO hi (by omega)).len hB.len fun j hj=>by
  rw[ZJ CO hi hj,G6,abg (hi.at j).1]
 rw[e] at hA2
 refine hQ M.next M2 (Nat.le_refl _) (hA2.mono (fun e h=>?_) (by omega)) (k1.cz k2 (by simp))
 rcases h with h | h
 ·exact h.elim
 ·omega
section
variable {α:Type} {E:Enc α}
theorem ain {M:RM} {b T bytes:Nat} {zs:List AV} {u:AV} {xs ys:List α} {K:aj} (hb:b<M.next) (hh:M.heap b=some (.row (E.row xs) false T 0)) (hu:Sl E M u ys) (hx:1≤xs.length) (hs:1≤E.size)
  (hn:(xs.length + ys.length) * bytes≤140737488355328) (hn2:xs.length + ys.length≤140737488355328)
  (hK:∀ v' M',Sl E M' v' (xs++ys)→(∀ d∈aJ v',d=b∨M.next≤d)→ag [] M M'→K v' M') : appW T E.size bytes zs false (.slc b 0 xs.length (.ex xs.length)) u M K:=by
 refine⟨ys.length,E.row ys,aL.qy hu _, ?_,by omega, ?_⟩
 ·exact Nat.le_trans (Nat.mul_le_mul_right _ (Nat.le_add_left _ _)) hn
 have hlen:(E.row xs).length=xs.length * E.size:=E.eH xs
 have hld:M.loads b 0 (xs.length * E.size)=some (E.row xs):=by
  rw[RM.dH hh (by omega),List.drop_zero,← hlen,List.take_length]
 by_cases h0:ys.length=0
 ·have:ys=[]:=List.length_eq_zero_iff.1 h0
  subst this
  refine⟨.slc b 0 xs.length (.ex xs.length),M,by simp[vE],hK _ _ ?_ (by simp[aJ]) (ag.refl _ _)⟩
  rw[List.append_nil]
  exact .slc _ _ _ _ _ hb hld
 ·refine⟨.slc M.next 0 (xs.length + ys.length) (.op E.size),M.push (.row (E.row xs++E.row ys) true T 0), ?_,hK _ _ ?_ (by simp[aJ]) ((ag.refl _ _).push _)⟩
  ·have hone:(E.row xs++E.row ys).all oneCell=true:=by rw[List.all_append,E.wX,E.wX]; rfl
   simp only[vE,if_neg h0,if_neg (show ¬ xs.length + ys.length≤xs.length by omega),hld]
   rw[if_pos ⟨hn,by omega,hone⟩]
  ·have hl2:(E.row (xs++ys)).length=(xs.length + ys.length) * E.size:=by rw[E.eH,List.length_append]
   show aL _ E.size _ (E.row (xs++ys)) (xs++ys).length
   rw[List.length_append]
   refine .slc _ _ _ _ _ (by simp[RM.push]) ?_
   rw[← E.qW,RM.dH (RM.aT _) (by omega),List.drop_zero,← hl2,List.take_length]
end
structure oF (TS T:Nat) (B:Nat→Prop) (M:RM) (t:Nat) (ps:List Pt) (es:List aD) : Prop where
 lt:t<M.next
 row:∃ s v,M.heap t=some (.row [.ptr s 0,v] false TS 0)∧(∃ S:Nat→Prop,iF T S M s ps∧∀ d,S d→B d)∧Sl aA M v es∧B s∧∀ d∈aJ v,B d
 nb:¬ B t
theorem oF.keep {TS T t:Nat} {B:Nat→Prop} {M M' : RM} {ps:List Pt} {es:List aD} {bs:List Nat} (h:oF TS T B M t ps es) (k:ag bs M M') (ht:t ∉ bs) (hb:∀ d∈bs,¬ B d) : oF TS T B M' t ps es:=by
 obtain⟨s,v,h1,⟨S,h2,h2'⟩,h3,h4,h5⟩:=h.row
 exact⟨Nat.lt_of_lt_of_le h.lt k.next,⟨s,v,k.aQ h1 h.lt ht,⟨S,h2.keep k (fun hs=>hb s hs h4) (fun d hd hS=>hb d hd (h2' d hS)),h2'⟩,aL.keep h3 k (fun d hd hm=>hb d hm (h5 d hd)),h4,h5⟩,h.nb⟩
theorem oF.mono {TS T t:Nat} {B B' : Nat→Prop} {M:RM} {ps:List Pt} {es:List aD} (h:oF TS T B M t ps es) (hB:∀ d,B d→B' d) (hn:¬ B' t) : oF TS T B' M t ps es:=by
 obtain⟨s,v,h1,⟨S,h2,h2'⟩,h3,h4,h5⟩:=h.row
 exact⟨h.lt,⟨s,v,h1,⟨S,h2,fun d hd=>hB d (h2' d hd)⟩,h3,hB s h4,fun d hd=>hB d (h5 d hd)⟩,hn⟩
theorem oF.below {TS T t:Nat} {B:Nat→Prop} {M:RM} {ps:List Pt} {es:List aD} (h:oF TS T B M t ps es) : oF TS T (fun d=>B d∧d<M.next) M t ps es:=by
 obtain⟨s,v,h1,⟨S,h2,h2'⟩,h3,h4,h5⟩:=h.row
 exact⟨h.lt,⟨s,v,h1,⟨_,h2.below,fun d hd=>⟨h2' d hd.1,hd.2⟩⟩,h3,⟨h4,h2.lt⟩,fun d hd=>⟨h5 d hd,aL.lt h3 d hd⟩⟩,fun hh=>h.nb hh.1⟩
def Yu (TS T:Nat) (c:ak) : Prop:=∀ {M:RM} {Q:aj},(∀ t M',M.next≤t→oF TS T (fun d=>M.next≤d∧d<t) M' t kI []→ag [] M M'→Q (.ptr t 0) M')→c [] M Q
theorem acV {TS T:Nat} {cn:ak} (hn:Zw T cn) : Yu TS T fun args M Q=>args=[]∧acT cn TS M Q:=by
 intro M Q hQ
 refine⟨rfl, ?_⟩
 unfold acT
 refine hn fun M1 h1 k1 n1=>?_
 rw[oH]
 refine⟨[.ptr M.next 0,di],rfl, ?_⟩
 rw[dX rfl (by simp),bg]
 have k2:ag [] M1 (M1.push (.row [.ptr M.next 0,di] false TS 0)):=(ag.refl _ _).push _
 refine hQ _ _ (by omega) ⟨by simp[RM.push],⟨M.next,di,RM.aT _,⟨fun _=>False,h1.keep k2 (by simp) (by simp),fun d hd=>hd.elim⟩,.nil,⟨Nat.le_refl _,by omega⟩,by simp[aJ]⟩,fun h=>by omega⟩ (k1.trans k2)
def oL (ps:List Pt) (ds:List aH) : List Pt:=ds.foldl (fun u d=>(l5 u d).2) ps
theorem aaQ {ps:List Pt} {ds:List aH} {i:Nat} (h:i<ds.length) : oL ps (ds.take (i + 1))=(l5 (oL ps (ds.take i)) ds[i]).2:=by
 rw[List.take_succ_eq_append_getElem h,oL,List.foldl_append]; rfl
theorem abG {k:Nat} {ps:List Pt} {d:aH} (h:SI k ps) : SI (k + 1) (l5 ps d).2:=⟨by rw[ahm,h.len],ab2 h.wf,afE h.few⟩
theorem _root_.Go.Ab.aH.SI.mono {k l:Nat} {ps:List Pt} (h:SI k ps) (hl:k≤l) : SI l ps:=⟨h.len,h.wf,fun p hp=>Nat.le_trans (h.few p hp) hl⟩
theorem DX {k:Nat} : ∀ {ds:List aH} {ps:List Pt},SI k ps→SI (k + ds.length) (oL ps ds)
 | [],ps,h=>h
 | d :: ds,ps,h=>by
   have:=DX (ds:=ds) (abG (d:=d) h)
   exact this.mono (by simp; omega)
def kD (e:qI) : aD:=(e.1,(e.2.2.1,(e.2.2.2.1,e.2.2.2.2)))
def mG (ps:List Pt) (es:List aD) (e:qI) (ks:List aH) : List aD :=
 (if decide (e.2.1=1) && !iV ps e.1 then tZ gQ (es++[kD e]) else es).filter fun x=>!decide (x.1∈ks)
def Cv (ps:List Pt) (e:qI) (ks:List aH) : List Pt:=oL ps (e.1 :: ks)
theorem Q0:∀ {ks:List aH} {d:aH} {p:Option aH},jb d p ks=true→∀ k∈ks,good k=true
 | [],_,_,_,k,hk=>by simp at hk
 | x :: ks,d,p,h,k,hk=>by
   simp only[jb,Bool.and_eq_true] at h
   rcases List.mem_cons.1 hk with rfl | hk
   ·exact h.1.1.1
   ·exact Q0 h.2 k hk
theorem xE {e:qI} {ks:List aH} (h:eG e ks=true) : good e.1=true∧ks.length≤64∧(∀ k∈ks,good k=true)∧jb e.1 none ks=true∧E8 e=true:=by
 simp only[eG,Bool.and_eq_true,decide_eq_true_eq] at h
 exact⟨h.1.1.1.1,h.1.1.2,Q0 h.1.2,h.1.2,h.2⟩
theorem afb (e:qI) : DC [(N .i64 0),(N .u64 0),(St []),(St []),(St [])] [(0,2,.agg (aR e.1)),(2,1,St e.2.2.1),(3,1,St e.2.2.2.1),(4,1,St e.2.2.2.2)]=some (aA.cells (kD e)):=rfl
def Zd (TS T:Nat) (c:ak) : Prop:=∀ {M:RM} {t k:Nat} {B:Nat→Prop} {ps:List Pt} {es:List aD} {e:qI} {kv:AV} {ks:List aH} {Q:aj},oF TS T B M t ps es→SI k ps→k + 65≤4000→es.length≤50000→Sl eX M kv ks→t ∉ aJ kv →
 (eG e ks=false→∀ M',ag [] M M'→Q (.tup [Bo false,N .i64 1]) M') →
 (eG e ks=true→∀ M',oF TS T (fun d=>B d∨M.next≤d) M' t (Cv ps e ks) (mG ps es e ks)→ag [t] M M'→Q (.tup [Bo (!BN (Cv ps e ks) ps || !decide (mG ps es e ks=es)),N .i64 0]) M')→c [.ptr t 0,.agg (gz e kv)] M Q
theorem aen {TS T TE TD TN nc nd:Nat} {cG cC cA cH cL cS cD cW cQ:ak} {cv:FuncId→ak} (hG:BO cG) (hC:aae T cC) (hA:VN T cA) (hH:aeg T cH) (hL:LV TN cL) (hS:Rk (.fn (.func nc) [] []) gQ TN cS)
  (hD:∀ b e kv ks,ks.length≤1000000→Oo TN (JI TE b e kv ks) (fun x=>decide (x.1∈ks)) (.fn (.func nd) [] [.ptr b 0]) cD) (hW:yu T cW) (hQ' : BM cQ) :
  Zd TS T fun args M Q=>∃ a0 a1,args=[a0,a1]∧Ak TE cG cC TD cA cH TN cL cS nc nd cD cW cQ a0 a1 M Q:=by
 intro M0 t k B ps es e kv ks Q hst hsi hk hes Zu htk hbad hok
 refine⟨_,_,rfl, ?_⟩
 unfold Ak
 simp only[gK,eu,dE,dQ,bF]
 rw[dX (PY Zu) (by simp),bg]
 have k0:ag [] M0 (M0.push (.row (gz e kv) false TE 0)):=(ag.refl _ _).push _
 have h0:(M0.push (.row (gz e kv) false TE 0)).heap M0.next=some (.row (gz e kv) false TE 0):=RM.aT _
 have hlt:M0.next<(M0.push (.row (gz e kv) false TE 0)).next:=by simp[RM.push]
 have hs:Sl eX (M0.push (.row (gz e kv) false TE 0)) kv ks:=aL.keep Zu k0 (by simp)
 have hkl:∀ d∈aJ kv,d<M0.next:=aL.lt Zu
 have n0:=k0.next
 generalize M0.push (.row (gz e kv) false TE 0)=M at *
 generalize hb0:M0.next=b at *
 rw[eQ (n:=7) h0 (by simp[EvE.len]; rfl)]
 refine hG hs fun M1 k1=>?_
 have k01:=k0.trans k1
 rw[bD]
 refine aC (fun hg=>?_) (fun hg=>?_)
 ·exact hbad (by simpa using hg) M1 k01
 have hge:eG e ks=true:=by simpa using hg
 obtain⟨hgd,hkl64,hkg,_,_⟩:=xE hge
 have hok:=hok hge
 have n1:=k1.next
 obtain⟨s,v,r1,⟨S,r2,r2'⟩,r3,r4,r5⟩:=hst.row
 have htl:=hst.lt
 have e1:=k1.aQ h0 hlt (by simp)
 have t1:=k01.aQ r1 htl (by simp)
 have set1:=(r2.below).keep k01 (by simp) (by simp)
 have slt:=r2.lt
 rw[aO,bK,az t1 rfl]
 -- the set is copied
 refine hC set1 hsi (by omega) fun s' M2 hs' set2 k2=>?_
 have n2:=k2.next
 have hs'lt:=set2.lt
 have e2:=k2.aQ e1 (by omega) (by simp)
 have k02:=k01.trans k2
 rw[bK,Ei e2,mO (x:=.agg (aR e.1)) (size:=2) rfl rfl rfl,bg]
 have k3:ag [] M2 (M2.push (.row (AV.agg (aR e.1)).cells false TD 0)):=(ag.refl _ _).push _
 have l3:(M2.push (.row (AV.agg (aR e.1)).cells false TD 0)).heap M2.next=some (.row (eX.row [e.1]) false TD 0):=by
  rw[RM.aT]; rfl
 have n3:M2.next<(M2.push (.row (AV.agg (aR e.1)).cells false TD 0)).next:=by simp[RM.push]
 have e3:=k3.aQ e2 (by omega) (by simp)
 have Wl:=set2.keep k3 (by simp) (by simp)
 have kv3:Sl eX (M2.push (.row (AV.agg (aR e.1)).cells false TD 0)) kv ks:=aL.keep Zu (k02.trans k3) (by simp)
 have k03:=k02.trans k3
 generalize M2.push (.row (AV.agg (aR e.1)).cells false TD 0)=M3 at *
 generalize hb2:M2.next=b2 at *
 rw[bK,az e3 rfl]
 refine ain (E:=eX) (xs:=[e.1]) (by omega) l3 kv3 (by simp) (by decide) (by simp; omega) (by simp; omega) fun dv M4 hdv hdb k4=>?_
 have hds:(e.1 :: ks).length≤65:=by simp; omega
 have k34:ag [] M3 M4:=k4
 have n4:=k4.next
 have e4:=k4.aQ e3 (by omega) (by simp)
 have awF:=Wl.keep k4 (by simp) (by simp)
 have k04:=k03.trans k4
 have hdv:Sl eX M4 dv (e.1 :: ks):=hdv
 have hdl:=aL.lt hdv
 have hdg:∀ d∈e.1 :: ks,good d=true:=fun d hd=>by
  rcases List.mem_cons.1 hd with rfl | hd
  ·exact hgd
  ·exact hkg d hd
 have avW:s' ∉ aJ dv:=fun hm=>by
  rcases hdb s' hm with h | h <;> omega
 generalize hds' : e.1 :: ks=ds at *
 rw[aL.len hdv]
 refine aG (fun m ys M6=>∃ i:Nat,m=ds.length - i∧ys=[N .i64 (i:Int)]∧i≤ds.length∧ag [s'] M4 M6∧iF T (fun e=>s'<e) M6 s' (oL ps (ds.take i))) _ ⟨0,rfl,rfl,Nat.zero_le _,ag.refl _ _,awF⟩ ?_
 rintro next m ys M6 hnext ⟨i,rfl,rfl,hi,k6,WT⟩
 dsimp only[aa]
 have avR:Sl eX M6 dv ds:=aL.keep hdv k6 (fun b hb hm=>by simp at hm; subst hm; exact avW hb)
 have si6:SI (k + (ds.take i).length) (oL ps (ds.take i)):=DX hsi
 have hti:(ds.take i).length≤65:=by rw[List.length_take]; omega
 rw[dB]
 refine aC (fun XN=>?_) (fun mU=>?_)
 ·have XN:i<ds.length:=of_decide_eq_true XN
  rw[wZ avR XN,bg,iw (n:=2) (x:=.agg (aR ds[i])) (l:=[N .i64 0,N .u64 0]) (RM.aT _) rfl rfl rfl]
  have k7:ag [] M6 ((M6.push (.row [N .i64 0,N .u64 0] false TD 0)).put M6.next (.row (AV.agg (aR ds[i])).cells false TD 0)):=((ag.refl _ _).push _).new _ (Nat.le_refl _)
  have hk7:((M6.push (.row [N .i64 0,N .u64 0] false TD 0)).put M6.next (.row (AV.agg (aR ds[i])).cells false TD 0)).heap M6.next=some (.row (aR ds[i]) false TD 0):=aU _
  generalize (M6.push (.row [N .i64 0,N .u64 0] false TD 0)).put M6.next (.row (AV.agg (aR ds[i])).cells false TD 0)=M7 at *
  rw[eQ (n:=2) hk7 rfl]
  have awj:=WT.keep k7 (by simp) (by simp)
  have n7:=k7.next
  have s6:=WT.lt
  refine hA awj si6.wf fun M8 avk k8=>?_
  have hgood:=UI (ps:=oL ps (ds.take i)) (d:=ds[i]) (fun p hp=>by have:=si6.few p hp; omega) (hdg _ (List.getElem_mem XN))
  have h10:(l5 (oL ps (ds.take i)) ds[i]).1=0:=by rw[hgood]
  rw[h10,jH,show((0:Int) != 0)=false from rfl,bA,add1 (by omega)]
  refine hnext _ _ _ (by omega) ⟨i + 1,rfl,rfl,by omega,(k6.trans (k7.mono (cs:=[s']) (by simp))).trans k8, ?_⟩
  rw[aaQ XN]
  exact avk.mono (fun d hd=>by rcases hd with hd | hd <;> omega) (by omega)
 have hie:i=ds.length:=by
  have:¬ i<ds.length:=of_decide_eq_false mU
  omega
 subst hie
 rw[List.take_length] at WT si6
 clear hnext mU
 have avF:oL ps ds=Cv ps e ks:=by rw[← hds']; rfl
 rw[avF] at WT si6
 have si6:=si6.mono (l:=k + 65) (by omega)
 have n6:=k6.next
 have k06:ag [] M0 M6:=k04.cz k6 (fun d hd=>by simp at hd; omega)
 have e6:=k6.aQ e4 (by omega) (by simp; omega)
 have t6:=k06.aQ r1 htl (by simp)
 have v6:Sl aA M6 v es:=aL.keep r3 k06 (by simp)
 have apO:=(r2.below).keep k06 (by simp) (by simp)
 have kv6:Sl eX M6 kv ks:=aL.keep Zu k06 (by simp)
 rw[aO,aN,az (i:=0 + 1) t6 rfl]
 have asQ:=WT.below
 refine aP (fun zs M'=>∃ (w:AV) (es1:List aD),zs=[w]∧Sl aA M' w es1∧es1.length≤50001∧es1=(if decide (e.2.1=1) && !iV ps e.1 then tZ gQ (es++[kD e]) else es)∧ag [] M6 M') ?_ ?_
 ·rintro zs M9 ⟨w,es1,rfl,hw,hwl,avI,k9⟩
  dsimp only[aa]
  have n9:=k9.next
  refine hL hw (by omega) fun c M10 oc k10=>?_
  have n10:=k10.next
  have Sk:=k9.trans k10
  have k010:=k06.trans Sk
  have aw0:JI TE b e kv ks M10:=⟨by omega,Sk.aQ e6 (by omega) (by simp),aL.keep kv6 Sk (by simp)⟩
  refine hD b e kv ks (by omega) aw0 (fun Ma Mb ks' hP kk hsub=>hP.keep kk (fun hm=>by have:=(oc.blk b (hsub b hm)).1; omega) (fun d hd hm=>by have:=hkl d hd; have:=(oc.blk d (hsub d hm)).1; omega)) oc (by omega) fun x M11 hx hxb k11=>?_
  have IP:ag [] M6 M11:=Sk.cz k11 (fun d hd=>.inl (by have:=(oc.blk d hd).1; omega))
  have aw4:=k06.trans IP
  have bM:=IP.aQ t6 (by omega) (by simp)
  have akE:=asQ.keep IP (by simp) (by simp)
  have asJ:=apO.keep IP (by simp) (by simp)
  have v11:Sl aA M11 v es:=aL.keep v6 IP (by simp)
  rw[aO,bK,az bM rfl]
  refine hW akE asJ (fun p hp=>by have:=si6.few p hp; omega) (fun q hq=>⟨(hsi.wf q hq).1,by have:=hsi.few q hq; omega⟩) fun M12 k12=>?_
  have hxl:(es1.filter fun x=>!decide (x.1∈ks)).length≤es1.length:=List.length_filter_le _ _
  have t12:=k12.aQ bM (by have:=IP.next; omega) (by simp)
  have hfin:es1.filter (fun x=>!decide (x.1∈ks))=mG ps es e ks:=by rw[avI]; rfl
  rw[hfin] at hx hxl
  rw[bD]
  refine Ko (p:=!decide (mG ps es e ks=es)) (fun _ k hk=>?_) ?_
  ·rw[aO,aN,az (i:=0 + 1) t12 rfl]
   refine hQ' (aL.keep hx k12 (by simp)) (aL.keep v11 k12 (by simp)) (by omega) ?_
   rw[bD]
   exact hk
  have x12:Sl aA M12 x (mG ps es e ks):=aL.keep hx k12 (by simp)
  rw[aO,bK,gY t12 (by simp) rfl rfl,aO,aN]
  rw[gY (aU _) (by simp) (aL.cells x12) (aL.one x12)]
  have kk:ag [t] M12 ((M12.put t (.row ([AV.ptr s 0,v].set 0 (.ptr s' 0)) false TS 0)).put t (.row (([AV.ptr s 0,v].set 0 (.ptr s' 0)).set (0 + 1) x) false TS 0)):=((ag.refl _ _).put _ (.inr (by simp))).put _ (.inr (by simp))
  have hh:((M12.put t (.row ([AV.ptr s 0,v].set 0 (.ptr s' 0)) false TS 0)).put t (.row (([AV.ptr s 0,v].set 0 (.ptr s' 0)).set (0 + 1) x) false TS 0)).heap t=some (.row [.ptr s' 0,x] false TS 0):=aU _
  have hnx:((M12.put t (.row ([AV.ptr s 0,v].set 0 (.ptr s' 0)) false TS 0)).put t (.row (([AV.ptr s 0,v].set 0 (.ptr s' 0)).set (0 + 1) x) false TS 0)).next=M12.next:=rfl
  generalize (M12.put t (.row ([AV.ptr s 0,v].set 0 (.ptr s' 0)) false TS 0)).put t (.row (([AV.ptr s 0,v].set 0 (.ptr s' 0)).set (0 + 1) x) false TS 0)=M13 at *
  have n12:=k12.next
  have n611:=IP.next
  refine hok M13 ⟨by omega,⟨s',x,hh,⟨fun d=>s'<d∧d<M6.next,(akE.keep k12 (by simp) (by simp)).keep kk (by simp; omega) (fun d hd h=>by simp at hd; omega),fun d hd=>.inr (by omega)⟩,aL.keep x12 kk (fun d hd hm=>?_),.inr (by omega),fun d hd=>.inr (by have:=(oc.blk d (hxb d hd)).1; omega)⟩,fun hB=>?_⟩ ((aw4.trans k12).mono (by simp) |>.trans kk)
  ·simp at hm
   subst hm
   have:=(oc.blk d (hxb d hd)).1
   omega
  ·rcases hB with hB | hB
   ·exact hst.nb hB
   ·omega
 intro J hJ
 have e2v:∀ {M' : RM},ag [] M6 M'→M'.heap b=some (.row (gz e kv) false TE 0):=fun k=>k.aQ e6 (by omega) (by simp)
 have op1:((e.2.1:Int) == 1)=decide (e.2.1=1):=by by_cases h:e.2.1=1 <;> simp[h]
 rw[bK,az e6 rfl,bL,op1]
 refine qZ (P:=fun M'=>ag [] M6 M') (p:=!iV ps e.1) (ag.refl _ _) (fun _ k hk=>?_) fun M7 k7=>?_
 ·rw[aO,bK,az t6 rfl,bK,Ei e6]
  refine hH apO (fun q hq=>⟨(hsi.wf q hq).1,by have:=hsi.few q hq; omega⟩) fun M7 k7=>?_
  rw[bD]
  exact hk M7 k7
 refine aC (fun hc=>?_) (fun hc=>?_)
 ·have e7:=e2v k7
  rw[bK,Ei e7,bK,az e7 rfl,bK,az e7 rfl,bK,az e7 rfl,oH]
  refine⟨_,afb e, ?_⟩
  rw[mO (x:=.agg (aA.cells (kD e))) (size:=5) rfl rfl rfl,qo]
  have k8:ag [] M7 (M7.push (.row (AV.agg (aA.cells (kD e))).cells false TN 0)):=(ag.refl _ _).push _
  have h8:(M7.push (.row (AV.agg (aA.cells (kD e))).cells false TN 0)).heap M7.next=some (.row (aA.cells (kD e)) false TN 0):=RM.aT _
  have n8:M7.next<(M7.push (.row (AV.agg (aA.cells (kD e))).cells false TN 0)).next:=by simp[RM.push]
  generalize M7.push (.row (AV.agg (aA.cells (kD e))).cells false TN 0)=M8 at *
  generalize hb7:M7.next=b7 at *
  have k68:=k7.trans k8
  refine hL (aL.keep v6 k68 (by simp)) (by omega) fun c M9 oc k9=>?_
  have k69:=k68.trans k9
  have e9:=e2v k69
  have n9:=k9.next
  rw[Ei e9]
  refine⟨rfl, ?_⟩
  rw[az e9 rfl]
  refine⟨rfl, ?_⟩
  rw[az e9 rfl]
  refine⟨rfl, ?_⟩
  rw[az e9 rfl]
  refine⟨rfl, ?_⟩
  rw[mO (x:=.agg (aA.cells (kD e))) (size:=5) rfl rfl rfl,adp]
  have h9:=k9.aQ h8 n8 (by simp)
  refine⟨⟨h9,rfl⟩, ?_⟩
  have slx:Sl aA M9 (.slc b7 0 1 (.ex 1)) [kD e]:=by
   refine .slc _ _ _ _ _ (by omega) ?_
   rw[RM.dH h9 (by rw[aA.len]; decide),List.drop_zero,Enc.row_one]
   have:(aA.cells (kD e)).length=1 * aA.size:=by rw[aA.len,Nat.one_mul]
   rw[← this,List.take_length]
  refine yQ (E:=aA) oc n9 (by decide) slx (by simp; omega) (by simp; omega) fun c2 M10 oc2 k10 n10 _=>?_
  have Sk:ag [] M6 M10:=k69.cz k10 (fun d hd=>.inl (by have:=(oc.blk d hd).1; have:=k68.next; omega))
  refine hS oc2 (by simp; omega) fun M11 oc3 k11=>?_
  have IP:ag [] M6 M11:=Sk.cz k11 (fun d hd=>.inl (by have:=(oc2.blk d hd).1; have:=k68.next; omega))
  have hsl:(tZ gQ (es++[kD e])).length=(es++[kD e]).length:=(uA jN _).length_eq
  exact hJ _ _ ⟨c2,_,rfl,oc3.eZ,by rw[hsl]; simp; omega,by rw[if_pos hc],IP⟩
 ·exact hJ _ _ ⟨v,es,rfl,aL.keep v6 k7 (by simp),by omega,by rw[if_neg (by rw[hc]; decide)],k7⟩
abbrev Ev:=qI × List aH
def xM:uF Ev:=uF.pre EvE (eX.Ec.slice)
theorem VM {M:RM} {v:AV} {l:List Ev} {S:Nat→Prop} (h:iK xM M v l S) {i:Nat} (hi:i<l.length) :
  ∃ b o kv,(∀ (kd:IntKind) (K:AV→Prop),ah v (N kd (i:Int)) 7 K=K (.ptr b o))∧(∀ K:AV→Prop,aB M (.ptr b o) 7 K=K (.agg (gz l[i].1 kv)))∧(∀ K:AV→Prop,aB M (.ptr b o) 2 K=K (.agg (aR l[i].1.1)))∧Sl eX M kv l[i].2∧∀ d∈aJ kv,S d:=by
 obtain⟨b,o,cs,_,_,hidx,hld,ds,hcs,kv,hds,hkv⟩:=h.at (i:=i) 7 (i:Int) hi rfl rfl
 subst hds
 subst hcs
 refine⟨b,o,kv,hidx,fun K=>?_,fun K=>?_,iK.sl hkv, ?_⟩
 ·rw[fB,hld]
  simp
 ·have e2:(gz l[i].1 kv).take 2=aR l[i].1.1:=rfl
  rw[fB,xn hld 2 (by decide),e2]
  simp
 ·obtain⟨_,_,h2,_⟩:=hkv
  exact h2
theorem ae9 {M:RM} {e:qI} {kv:AV} {ks:List aH} {S:Nat→Prop} (h:Sl eX M kv ks) (hS:∀ d∈aJ kv,S d) : xM.rel M (gz e kv) (e,ks) S:=⟨[kv],rfl,kv,rfl,iK.acz h hS⟩
def OZ (TS T TN:Nat) (c:ak) : Prop:=∀ {M:RM} {t:Nat} {B:Nat→Prop} {ps:List Pt} {es:List aD} {Q:aj},oF TS T B M t ps es→es.length≤1000000→(∀ v M',Ow aA M' M.next TN v es→ag [] M M'→Q v M')→c [.ptr t 0] M Q
theorem WB {TS T TN:Nat} {cL:ak} (hL:LV TN cL) : OZ TS T TN fun args M Q=>∃ a0,args=[a0]∧yl cL a0 M Q:=by
 intro M t B ps es Q h hl hQ
 refine⟨_,rfl, ?_⟩
 unfold yl
 obtain⟨s,v,r1,_,r3,_,_⟩:=h.row
 rw[aO,aN,az (i:=0 + 1) r1 rfl]
 exact hL r3 hl hQ
def qE (out:List Ev) (x:Ev) : List Ev:=if !(!eG x.1 x.2 || out.any fun y=>decide (y.1.1=x.1.1)) then out++[x] else out
def uM (l:List Ev) : List Ev:=l.foldl qE []
theorem U0 {l:List Ev} {i:Nat} (h:i<l.length) : uM (l.take (i + 1))=qE (uM (l.take i)) l[i]:=by
 rw[List.take_succ_eq_append_getElem h,uM,List.foldl_append]; rfl
theorem aay (out:List Ev) (x:Ev) : (qE out x).length≤out.length + 1:=by
 unfold qE; split <;> simp
theorem Hz (l:List Ev) : ∀ i,(uM (l.take i)).length≤i
 | 0=>Nat.le_refl _
 | i + 1=>by
   by_cases h:i<l.length
   ·rw[U0 h]
    have:=Hz l i
    have:=aay (uM (l.take i)) l[i]
    omega
   ·rw[List.take_of_length_le (by omega)]
    have:=Hz l i
    rw[List.take_of_length_le (by omega)] at this
    omega
theorem U4:∀ (l:List Ev) (out:List Ev),(∀ x∈out,eG x.1 x.2=true)→∀ x∈l.foldl qE out,eG x.1 x.2=true
 | [],out,h=>h
 | y :: l,out,h=>U4 l (qE out y) fun x hx=>by
   unfold qE at hx
   split at hx
   ·rename_i hc
    rcases List.mem_append.1 hx with hx | hx
    ·exact h x hx
    ·simp only[List.mem_singleton] at hx
     subst hx
     simp only[Bool.not_eq_true',Bool.or_eq_false_iff,Bool.not_eq_false'] at hc
     exact hc.1
   ·exact h x hx
def aiQ (TE:Nat) (c:ak) : Prop:=∀ {M:RM} {v:AV} {l:List Ev} {Q:aj},iK xM M v l (fun d=>d<M.next)→l.length≤10000 →
 (∀ v' M',iK xM M' v' (uM l) (fun d=>d<M'.next)→ag [] M M'→Q v' M')→c [v] M Q
theorem agu {TE:Nat} {cG:ak} (hG:BO cG) : aiQ TE fun args M Q=>∃ a0,args=[a0]∧aka TE cG a0 M Q:=by
 intro M v l Q hv hl hQ
 refine⟨_,rfl, ?_⟩
 unfold aka
 simp only[gK,eu,dE,bF]
 refine⟨_,_,_,_,rfl,rfl,by decide,by decide,by decide,by decide, ?_⟩
 dsimp only
 rw[bg]
 have kM:ag [] M (M.push (.row (bO [(N .i64 0),(N .u64 0),(N .i64 0),(St []),(St []),(St []),(.sc (.slice none 0 0))] 0) false TE 0)):=(ag.refl _ _).push _
 have oM:qb xM (M.push (.row (bO [(N .i64 0),(N .u64 0),(N .i64 0),(St []),(St []),(St []),(.sc (.slice none 0 0))] 0) false TE 0)) M.next TE (.slc M.next 0 0 (.ex 0)) [] (fun d=>d<M.next):=⟨[],Own.lit M (Nat.le_refl _),.nil⟩
 refine aG (fun m ys M3=>∃ (i:Nat) (w:AV),m=l.length - i∧ys=[w,N .i64 (i:Int)]∧i≤l.length∧ag [] M M3∧qb xM M3 M.next TE w (uM (l.take i)) (fun d=>d<M.next)) _ ⟨0,_,rfl,rfl,Nat.zero_le _,kM,oM⟩ ?_
 rintro next m ys M3 hnext ⟨i,w,rfl,rfl,hi,k3,ow⟩
 dsimp only[aa]
 have hv3:iK xM M3 v l (fun d=>d<M.next):=hv.keep k3 (by simp)
 have n3:=k3.next
 rw[hv3.len,dB]
 refine aC (fun hlt=>?_) (fun hge=>?_)
 ·have hlt:i<l.length:=of_decide_eq_true hlt
  refine aP (fun zs M'=>∃ w',zs=[w']∧ag [] M M'∧qb xM M' M.next TE w' (uM (l.take (i + 1))) (fun d=>d<M.next)) ?_ ?_
  ·rintro zs M' ⟨w',rfl,k',o'⟩
   dsimp only[aa]
   rw[add1 (by omega)]
   exact hnext _ _ _ (by omega) ⟨i + 1,w',rfl,rfl,by omega,k',o'⟩
  intro J hJ
  rw[U0 hlt] at hJ
  have hol:=Hz l i
  obtain⟨b,o,kv,hidx,hl7,hl2,hkv,hkb⟩:=VM hv3 hlt
  rw[hidx,hl7]
  refine hG hkv fun M4 k4=>?_
  rw[bD]
  have ow4:=ow.keep k4 (by simp) (by simp)
  generalize uM (l.take i)=out at *
  have k34:=k3.trans k4
  have n4:=k34.next
  have hv4:iK xM M4 v l (fun d=>d<M.next):=hv.keep k34 (by simp)
  have owS:iK xM M4 w out (fun d=>d<M4.next):=(ow4.mono (fun d hd=>by omega)).slD (fun d _ h=>h)
  obtain⟨b4,o4,kv4,akx,awM,awe,apg,aw2⟩:=VM hv4 hlt
  refine aG (fun m ys M5=>∃ j:Nat,m=out.length - j∧ys=[Bo (!eG l[i].1 l[i].2 || (out.take j).any fun y=>decide (y.1.1=l[i].1.1)),N .i64 (j:Int)]∧j≤out.length∧M5=M4) _ ⟨0,rfl,by simp,Nat.zero_le _,rfl⟩ ?_
  rintro iq m ys M5 dm ⟨j,rfl,rfl,hj,rfl⟩
  dsimp only[aa]
  rw[owS.len,dB]
  refine aC (fun hlt2=>?_) (fun mU=>?_)
  ·have hlt2:j<out.length:=of_decide_eq_true hlt2
   obtain⟨b5,o5,kv5,as1,hl75,awV,_,_⟩:=VM owS hlt2
   refine Xy (P:=fun M'=>M'=M5) (p:=decide (out[j].1.1=l[i].1.1)) rfl (fun _ k hk=>?_) fun M' hM'=>?_
   ·rw[as1,aN,Nat.add_zero,awV,akx,aN,Nat.add_zero,awe,qK rfl rfl (FW _ _),Bool.bne_false]
    exact hk M5 rfl
   subst hM'
   rw[add1 (by omega)]
   refine dm _ _ _ (by omega) ⟨j + 1,rfl, ?_,by omega,rfl⟩
   rw[List.take_succ_eq_append_getElem hlt2,List.any_append,List.any_cons,List.any_nil,Bool.or_false,Bool.or_assoc]
  ·have hje:j=out.length:=by
    have:¬ j<out.length:=of_decide_eq_false mU
    omega
   subst hje
   rw[List.take_length,bD]
   refine aC (fun hc=>?_) (fun hc=>?_)
   ·rw[akx,awM,mO (x:=.agg (gz l[i].1 kv4)) (size:=7) rfl (PY apg) rfl,bg]
    have hd:=ow4.blk
    refine qb.app (R:=xM) ow4 (ae9 apg aw2) (by omega) (by decide) (fun d hd' h=>by have:=(hd d hd').1; omega) (fun d h=>by omega) (by omega) (by omega) ?_
    intro w' M6 o6 k6 n6 _ _
    refine hJ _ _ ⟨w',rfl,k34.cz k6 (fun d hd'=>.inl (hd d hd').1), ?_⟩
    rw[qE,if_pos hc]
    exact o6
   ·refine hJ _ _ ⟨w,rfl,k34, ?_⟩
    rw[qE,if_neg (by rw[hc]; decide)]
    exact ow4
 ·have he:i=l.length:=by
   have:¬ i<l.length:=of_decide_eq_false hge
   omega
  subst he
  rw[List.take_length] at ow
  exact hQ w M3 ((ow.mono (fun d hd=>by omega)).slD (fun d _ h=>h)) k3
theorem afU {k:Nat} {ps:List Pt} {d e:aH} (h:SI k ps) (hk:k<4096) (hg:good d=true) : iV (l5 ps d).2 e=true↔iV ps e=true∨e=d:=by
 have hl:∀ p∈ps,p.2.length<4096:=fun p hp=>by have:=h.few p hp; omega
 rw[iV,iV,Bool.and_eq_true,Bool.and_eq_true,agq h.len h.wf hl hg]
 constructor
 ·rintro⟨h1,h2 | ⟨h2,h3⟩⟩
  ·exact .inl ⟨h1,h2⟩
  ·refine .inr (Prod.ext ?_ h3)
   have:=(OX h1).1
   have:=(OX hg).1
   omega
 ·rintro(⟨h1,h2⟩ | rfl)
  ·exact⟨h1,.inl h2⟩
  ·exact⟨hg,.inr ⟨rfl,rfl⟩⟩
theorem MO {e:aH} : ∀ {ds:List aH} {ps:List Pt} {k:Nat},SI k ps→k + ds.length<4096→(∀ d∈ds,good d=true)→(iV (oL ps ds) e=true↔iV ps e=true∨e∈ds)
 | [],ps,k,h,hk,hg=>by simp[oL]
 | d :: ds,ps,k,h,hk,hg=>by
   have:oL ps (d :: ds)=oL (l5 ps d).2 ds:=rfl
   rw[this,MO (abG h) (by simp at hk; omega) (fun x hx=>hg x (by simp[hx])),afU h (by simp at hk; omega) (hg d (by simp)),List.mem_cons]
   constructor
   ·rintro((h | h) | h)
    ·exact .inl h
    ·exact .inr (.inl h)
    ·exact .inr (.inr h)
   ·rintro(h | h | h)
    ·exact .inl (.inl h)
    ·exact .inl (.inr h)
    ·exact .inr h
theorem aeC (ps:List Pt) (es:List aD) (e:qI) (ks:List aH) : (mG ps es e ks).length≤es.length + 1:=by
 unfold mG
 refine Nat.le_trans (List.length_filter_le _ _) ?_
 split
 ·rw[(uA jN _).length_eq]; simp
 ·omega
structure axE (i:Nat) (ps:List Pt) (es:List aD) (dead:List aH) : Prop where
 si:SI (65 * i) ps
 few:es.length≤i
 dl:dead.length≤64 * i
 seen:∀ d∈dead,iV ps d=true
 gone:∀ x∈es,x.1 ∉ dead
def keq (x y:aD) : Bool:=decide (x.2.1=y.2.1∧x.2.2.1=y.2.2.1∧x.1=y.1)
theorem Lp {α β:Type} [DecidableEq β] {k:α→β} {lt1:β→β→Bool} {lt2:α→α→Bool} (h:LO lt1) {x y:α} (h1:lex k lt1 lt2 x y=false) (h2:lex k lt1 lt2 y x=false) : k x=k y∧lt2 x y=false∧lt2 y x=false:=by
 unfold lex at h1 h2
 rw[Bool.or_eq_false_iff] at h1 h2
 have e:=h.tri _ _ h1.1 h2.1
 have a:=h1.2
 have b:=h2.2
 rw[e,decide_eq_true rfl,Bool.true_and] at a b
 exact⟨e,a,b⟩
theorem abM {x y:aD} (h1:gQ x y=false) (h2:gQ y x=false) : keq x y=true:=by
 obtain⟨e1,a1,b1⟩:=Lp sH h1 h2
 obtain⟨e2,a2,b2⟩:=Lp sH a1 b1
 obtain⟨e3,a3,b3⟩:=Lp ZP a2 b2
 obtain⟨e4,_,_⟩:=Lp Zk a3 b3
 exact decide_eq_true ⟨e1,e2,Prod.ext e4 e3⟩
def AP (xs:List aD) : Prop:=xs.Pairwise fun x y=>gQ y x=false
theorem AP.at {xs:List aD} (h:AP xs) {i j:Nat} (hij:i≤j) (hj:j<xs.length) : gQ xs[j] (xs[i]'(by omega))=false:=by
 rcases Nat.lt_or_ge i j with h1 | h1
 ·exact(List.pairwise_iff_getElem.1 h) i j (by omega) hj h1
 ·have:i=j:=by omega
  subst this
  exact jN.irrefl _
abbrev AQ:=List Pt × List aD
def vC (s:AQ) (x:Ev) : AQ:=if eG x.1 x.2 then(Cv s.1 x.1 x.2,mG s.1 s.2 x.1 x.2) else s
def ol (l:List Ev) : AQ:=l.foldl vC (kI,[])
theorem UQ (l:List Ev) (x:Ev) : ol (l++[x])=vC (ol l) x:=by rw[ol,List.foldl_append]; rfl
structure MC (i:Nat) (s:AQ) : Prop where
 si:SI (65 * i) s.1
 few:s.2.length≤i
 up:AP s.2
theorem UJ {ps:List Pt} {es:List aD} {e:qI} {ks:List aH} (h:AP es) : AP (mG ps es e ks):=by
 unfold mG
 refine List.Pairwise.filter _ ?_
 split
 ·exact agN jN _
 ·exact h
theorem MC.step {i:Nat} {s:AQ} (h:MC i s) (x:Ev) : MC (i + 1) (vC s x):=by
 unfold vC
 split
 ·rename_i hg
  obtain⟨_,g2,_,_,_⟩:=xE hg
  refine⟨(DX h.si).mono (by simp; omega), ?_,UJ h.up⟩
  have:=aeC s.1 s.2 x.1 x.2
  have:=h.few
  show(mG s.1 s.2 x.1 x.2).length≤i + 1
  omega
 ·exact⟨h.si.mono (by omega),by have:=h.few; omega,h.up⟩
theorem MC.empty:MC 0 (kI,[]):=⟨CO,Nat.le_refl _,.nil⟩
theorem afA:∀ (l:List Ev),MC l.length (ol l):=fun l=>by
 suffices h:∀ (l:List Ev) (i:Nat) (s:AQ),MC i s→MC (i + l.length) (l.foldl vC s) by
  have:=h l 0 _ MC.empty
  rwa [Nat.zero_add] at this
 intro l
 induction l with
 | nil=>intro i s h; exact h
 | cons x l ih =>
   intro i s h
   have:=ih (i + 1) (vC s x) (h.step x)
   rwa [show i + 1 + l.length=i + (x :: l).length by simp; omega] at this
theorem pK {α:Type} {p:α→Bool} {l:List α} {i:Nat} (h:i<l.length) : (l.take (i + 1)).filter p=(l.take i).filter p++(if p l[i] then[l[i]] else[]):=by
 rw[List.take_succ_eq_append_getElem h,List.filter_append,List.filter_cons,List.filter_nil]
theorem uk {α:Type} (p:α→Bool) (l:List α) (i:Nat) : ((l.take i).filter p).length≤i:=Nat.le_trans (List.length_filter_le _ _) (by rw[List.length_take]; omega)
theorem oz (x:aD) : (aA.cells x).all oneCell=true:=rfl
theorem afD {M:RM} {b T:Nat} {x:aD} {p:Bool} (h:M.heap b=some (.row (aA.cells x) p T 0)) {K:AV→Prop} : aB M (.ptr b 0) 2 K=K (.agg (aR x.1)):=by
 have e2:((aA.cells x).drop 0).take 2=aR x.1:=rfl
 rw[fB,RM.dH h (by rw[aA.len]; decide),e2]
 simp
theorem Jg {α:Type} [DecidableEq α] : ∀ {xs ys:List α},xs.Nodup→(∀ x∈xs,x∈ys)→xs.length≤ys.length
 | [],_,_,_=>Nat.zero_le _
 | x :: xs,ys,hn,hs=>by
   have hx:x∈ys:=hs x (by simp)
   rw[List.nodup_cons] at hn
   have:=Jg (xs:=xs) (ys:=ys.erase x) hn.2 fun y hy=>(List.mem_erase_of_ne (by rintro rfl; exact hn.1 hy)).2 (hs y (by simp[hy]))
   rw[List.length_erase_of_mem hx] at this
   have h0:0<ys.length:=List.length_pos_of_mem hx
   simp
   omega
def BZ (l:List Ev) : List aH:=l.flatMap fun x=>x.1.1 :: x.2
theorem aez {k:Nat} {ps:List Pt} {e:qI} {ks:List aH} (h:SI k ps) (hk:k + 65<4096) (hg:eG e ks=true) (d:aH) : iV (Cv ps e ks) d=true↔iV ps d=true∨d∈e.1 :: ks:=by
 obtain⟨g1,g2,g3,_,_⟩:=xE hg
 refine MO h (by simp; omega) fun d hd=>?_
 rcases List.mem_cons.1 hd with rfl | hd
 ·exact g1
 ·exact g3 d hd
structure StU (s:AQ) : Prop where
 seen:∀ x∈s.2,iV s.1 x.1=true
 one:s.2.Pairwise fun x y=>x.1≠y.1
structure StB (a t:AQ) : Prop where
 Ip:∀ x∈t.2,iV a.1 x.1=true→x∈a.2
 sets:∀ d,iV a.1 d=true→iV t.1 d=true
theorem StU.empty:StU (kI,[]):=⟨by simp,.nil⟩
theorem af5 (d:aH) : iV kI d=false:=by
 rw[iV,G6]
 cases good d with
 | false=>rfl
 | true =>
   simp only[Bool.true_and]
   unfold fT
   simp
   omega
theorem aa5 (l:List Ev) : (uM l).length≤l.length:=by
 have:=Hz l l.length
 rwa [List.take_length] at this
def Live (l:List Ev) (x:aD) : Prop:=∃ e∈l,e.1.2.1=1∧kD e.1=x∧∀ f∈l,e.1.1 ∉ f.2
structure Ch (l:List Ev) (s:AQ) : Prop where
 Ip:∀ x,x∈s.2↔Live l x
 sets:∀ d,iV s.1 d=true↔d∈BZ l
 up:AP s.2
 one:s.2.Pairwise fun x y=>x.1≠y.1
 si:∃ k,SI k s.1
theorem Nh {l:List Ev} {d:aH} : d∈BZ l↔∃ e∈l,d=e.1.1∨d∈e.2:=by
 unfold BZ
 rw[List.mem_flatMap]
 constructor
 ·rintro⟨e,he,h⟩
  exact⟨e,he,List.mem_cons.1 h⟩
 ·rintro⟨e,he,h⟩
  exact⟨e,he,List.mem_cons.2 h⟩
theorem Ch.stU {l:List Ev} {s:AQ} (h:Ch l s) : StU s:=⟨fun x hx=>by
 obtain⟨e,he,_,rfl,_⟩:=(h.Ip x).1 hx
 exact(h.sets _).2 (Nh.2 ⟨e,he,.inl rfl⟩),h.one⟩
theorem Ch.len {l m:List Ev} {s:AQ} (h:Ch l s) (hm:∀ e∈l,e∈m) : s.2.length≤m.length:=by
 have hn:(s.2.map fun x=>x.1).Nodup:=by
  rw[List.Nodup,List.pairwise_map]
  exact h.one
 have:=Jg hn (ys:=m.map fun e=>e.1.1) fun d hd=>by
  obtain⟨x,hx,rfl⟩:=List.mem_map.1 hd
  obtain⟨e,he,_,rfl,_⟩:=(h.Ip x).1 hx
  exact List.mem_map.2 ⟨e,hm e he,rfl⟩
 rwa [List.length_map,List.length_map] at this
theorem acf {ps:List Pt} {es:List aD} {e:qI} {ks:List aH} {x:aD} : x∈mG ps es e ks↔x.1 ∉ ks∧(x∈es∨(e.2.1=1∧iV ps e.1=false∧x=kD e)):=by
 unfold mG
 rw[List.mem_filter]
 constructor
 ·rintro⟨h1,h2⟩
  refine⟨by simpa using h2, ?_⟩
  split at h1
  ·rename_i hc
   simp only[Bool.and_eq_true,Bool.not_eq_true',decide_eq_true_eq] at hc
   rw[(uA jN _).mem_iff,List.mem_append,List.mem_singleton] at h1
   rcases h1 with h1 | h1
   ·exact .inl h1
   ·exact .inr ⟨hc.1,hc.2,h1⟩
  ·exact .inl h1
 ·rintro⟨h1,h2⟩
  refine⟨?_,by simpa using h1⟩
  split
  ·rw[(uA jN _).mem_iff,List.mem_append,List.mem_singleton]
   rcases h2 with h2 | ⟨_,_,h2⟩
   ·exact .inl h2
   ·exact .inr h2
  ·rename_i hc
   rcases h2 with h2 | ⟨h3,h4,_⟩
   ·exact h2
   ·exact absurd (by rw[h3,h4]; rfl) hc
theorem Ch.step {l:List Ev} {s:AQ} {x:Ev} {k:Nat} (h:Ch l s) (hk:SI k s.1) (hk2:k + 65<4096) (hg:eG x.1 x.2=true) (hf:∀ e∈l,e.1.1≠x.1.1) : Ch (l++[x]) (vC s x):=by
 have hU:=h.stU
 have e1:vC s x=(Cv s.1 x.1 x.2,mG s.1 s.2 x.1 x.2):=by unfold vC; rw[if_pos hg]
 have hm:=aez hk hk2 hg
 rw[e1]
 refine⟨fun y=>?_,fun d=>?_,UJ h.up, ?_,⟨_,DX hk⟩⟩
 ·rw[acf,h.Ip]
  constructor
  ·rintro⟨hy,⟨e,he,h1,rfl,h3⟩ | ⟨h1,h2,rfl⟩⟩
   ·refine⟨e,by simp[he],h1,rfl,fun f hf'=>?_⟩
    rcases List.mem_append.1 hf' with hf' | hf'
    ·exact h3 f hf'
    ·rw[List.mem_singleton] at hf'
     subst hf'
     exact hy
   ·refine⟨x,by simp,h1,rfl,fun f hf'=>?_⟩
    rcases List.mem_append.1 hf' with hf' | hf'
    ·intro hk'
     rw[(h.sets x.1.1).2 (Nh.2 ⟨f,hf',.inr hk'⟩)] at h2
     cases h2
    ·rw[List.mem_singleton] at hf'
     subst hf'
     exact hy
  ·rintro⟨e,he,h1,rfl,h3⟩
   refine⟨h3 x (by simp), ?_⟩
   rcases List.mem_append.1 he with he | he
   ·exact .inl ⟨e,he,h1,rfl,fun f hf'=>h3 f (by simp[hf'])⟩
   ·rw[List.mem_singleton] at he
    subst he
    refine .inr ⟨h1, ?_,rfl⟩
    cases hs:iV s.1 e.1.1 with
    | false=>rfl
    | true =>
      obtain⟨f,hf',hd⟩:=Nh.1 ((h.sets _).1 hs)
      rcases hd with hd | hd
      ·exact absurd hd.symm (hf f hf')
      ·exact absurd hd (h3 f (by simp[hf']))
 ·show iV (Cv s.1 x.1 x.2) d=true↔_
  rw[hm,h.sets]
  have:BZ (l++[x])=BZ l++(x.1.1 :: x.2):=by simp[BZ]
  rw[this,List.mem_append]
 ·show(mG s.1 s.2 x.1 x.2).Pairwise _
  unfold mG
  refine List.Pairwise.filter _ ?_
  split
  ·rename_i hc
   simp only[Bool.and_eq_true,Bool.not_eq_true',decide_eq_true_eq] at hc
   refine(uA jN _).symm.pairwise ?_ (fun {a b} hab e=>hab e.symm)
   rw[List.pairwise_append]
   refine⟨h.one,by simp,fun a ha b hb e=>?_⟩
   simp only[List.mem_singleton] at hb
   subst hb
   have:=hU.seen a ha
   rw[e,show(kD x.1).1=x.1.1 from rfl,hc.2] at this
   cases this
  ·exact h.one
theorem Ch.empty:Ch [] (kI,[]):=⟨fun x=>by simp[Live],fun d=>by rw[af5]; simp[BZ],.nil,.nil,⟨0,CO⟩⟩
theorem Ch.run {l:List Ev} (hg:∀ x∈l,eG x.1 x.2=true) (hd:l.Pairwise fun x y=>x.1.1≠y.1.1) (hl:l.length≤60) : Ch l (ol l):=by
 suffices h:∀ n,n≤l.length→Ch (l.take n) (ol (l.take n)) by
  have:=h l.length (Nat.le_refl _)
  rwa [List.take_length] at this
 intro n
 induction n with
 | zero=>intro _; exact Ch.empty
 | succ n ih =>
   intro hn
   have h0:=ih (by omega)
   have e:l.take (n + 1)=l.take n++[l[n]]:=List.take_succ_eq_append_getElem (by omega)
   rw[e,UQ]
   have hI:=afA (l.take n)
   rw[List.length_take,Nat.min_eq_left (by omega)] at hI
   refine h0.step hI.si (by omega) (hg _ (List.getElem_mem _)) fun y hy=>?_
   obtain⟨i,hi,rfl⟩:=List.getElem_of_mem hy
   rw[List.length_take] at hi
   rw[List.getElem_take]
   exact(List.pairwise_iff_getElem.1 hd) i n (by omega) (by omega) (by omega)
theorem agR:∀ {a b:List aD},AP a→AP b→(a.Pairwise fun x y=>x.1≠y.1)→(b.Pairwise fun x y=>x.1≠y.1)→(∀ x,x∈a↔x∈b)→a=b:=by
 intro a b ha hb oa ob hm
 have strict:∀ {c:List aD},AP c→(c.Pairwise fun x y=>x.1≠y.1)→c.Pairwise fun x y=>gQ x y=true:=fun {c} hu ho=>by
  refine List.Pairwise.imp (fun {x y} h=>?_) (List.Pairwise.and hu ho)
  cases hxy:gQ x y with
  | true=>rfl
  | false=>exact absurd (of_decide_eq_true (abM hxy h.1)).2.2 h.2
 have sa:=strict ha oa
 have sb:=strict hb ob
 clear ha hb oa ob
 induction a generalizing b with
 | nil =>
   cases b with
   | nil=>rfl
   | cons y b=>exact absurd ((hm y).2 (by simp)) (by simp)
 | cons x a ih =>
   cases b with
   | nil=>exact absurd ((hm x).1 (by simp)) (by simp)
   | cons y b =>
     rw[List.pairwise_cons] at sa sb
     have hxy:x=y:=by
      rcases List.mem_cons.1 ((hm x).1 (by simp)) with h | h
      ·exact h
      ·rcases List.mem_cons.1 ((hm y).2 (by simp)) with h' | h'
       ·exact h'.symm
       ·have h1:=sb.1 x h
        have h2:=sa.1 y h'
        have:=jN.trans _ _ _ h1 h2
        rw[jN.irrefl] at this
        cases this
     subst hxy
     rw[ih (fun z=>?_) sa.2 sb.2]
     constructor
     ·intro hz
      rcases List.mem_cons.1 ((hm z).1 (by simp[hz])) with h | h
      ·subst h
       have:=sa.1 z hz
       rw[jN.irrefl] at this
       cases this
      ·exact h
     ·intro hz
      rcases List.mem_cons.1 ((hm z).2 (by simp[hz])) with h | h
      ·subst h
       have:=sb.1 z hz
       rw[jN.irrefl] at this
       cases this
      ·exact h
theorem ajj (l:List Ev) : (uM l).Pairwise fun x y=>x.1.1≠y.1.1:=by
 suffices h:∀ (l out:List Ev),(out.Pairwise fun x y=>x.1.1≠y.1.1)→(l.foldl qE out).Pairwise fun x y=>x.1.1≠y.1.1 from h l [] .nil
 intro l
 induction l with
 | nil=>intro out h; exact h
 | cons x l ih =>
   intro out h
   refine ih _ ?_
   unfold qE
   split
   ·rename_i hc
    simp only[Bool.not_eq_true',Bool.or_eq_false_iff,Bool.not_eq_false'] at hc
    rw[List.pairwise_append]
    refine⟨h,by simp,fun a ha b hb e=>?_⟩
    simp only[List.mem_singleton] at hb
    subst hb
    have:=List.any_eq_false.1 hc.2 a ha
    exact this (decide_eq_true e)
   ·exact h
theorem aoK {M:RM} {c q r:Bool} {f0:aj→Prop} {f:RM→aj→Prop} {G:AV→RM→Prop} (hf0:c=true→∀ k:aj,k (Bo q) M→f0 k) (hf:c=true→q=false→∀ k:aj,k (Bo r) M→f M k) (hG:G (Bo (c && (q || r))) M) :
  ai (Bo c) true f0 (fun k=>k .undef M) fun t45 M1=>ai t45 false (f M1) (fun k=>k .undef M1) fun t54 M2=>ai (Bo c) true (fun k3=>aK t45 (Bo true) t54 fun t55=>k3 t55 M2) (fun k=>k .undef M2) fun t55 M3=>aK (Bo c) t55 (Bo false) fun t56=>G t56 M3:=by
 cases c with
 | false=>rw[bN]; dsimp only; rw[CK]; dsimp only; rw[bN]; dsimp only; rw[bT]; exact hG
 | true =>
   rw[bZ]
   refine hf0 rfl _ ?_
   cases q with
   | true=>rw[mZ]; dsimp only; rw[bZ]; dsimp only; rw[dC,dC]; exact hG
   | false =>
     rw[gZ]
     refine hf rfl rfl _ ?_
     rw[bZ]; dsimp only; rw[bT,dC]; exact hG
theorem rF {M:RM} {v:AV} {xs:List aD} (h:Sl aA M v xs) {i:Nat} (hi:i<xs.length) {kd:IntKind} {j:Nat} {x:AV} (hx:(aA.cells xs[i])[j]?=some x) {K:AV→Prop} : (ah v (N kd (i:Int)) 5 fun p=>aI p j fun q=>au M q K)=K x:=by
 obtain⟨b,o,_,_,hidx,hld⟩:=Sl.at (E:=aA) (i:=i) h 5 (i:Int) hi rfl rfl
 rw[hidx,aN,gX]
 rw[q9 hld hx]
 simp
def Oq (TS T TN:Nat) (c:ak) : Prop:=∀ {M:RM} {t:Nat} {B:Nat→Prop} {ps:List Pt} {es:List aD} {s:List UInt8} {Q:aj},oF TS T B M t ps es→es.length≤50000→(∀ v M',Ow aA M' M.next TN v (es.filter fun x=>x.2.1 == s)→ag [] M M'→Q v M')→c [.ptr t 0,St s] M Q
theorem Ym {TS T TN:Nat} : Oq TS T TN fun args M Q=>∃ a0 a1,args=[a0,a1]∧xZ TN a0 a1 M Q:=by
 intro M t B ps es s Q hst hlen hQ
 refine⟨_,_,rfl, ?_⟩
 unfold xZ
 simp only[gK,eu,dE,dQ,bF]
 obtain⟨s0,v,r1,_,r3,_,_⟩:=hst.row
 rw[aO,aN,az (i:=0 + 1) r1 rfl,aL.len r3]
 refine aG (fun z ys M3=>∃ (i:Nat) (dv:AV),z=es.length - i∧ys=[dv,N .i64 (i:Int)]∧i≤es.length∧ag [] M M3∧Ow aA M3 M.next TN dv ((es.take i).filter fun x=>x.2.1 == s)) _
  ⟨0,di,rfl,rfl,Nat.zero_le _,ag.refl _ _,.nil⟩ ?_
 rintro next z ys M3 hnext ⟨i,dv,rfl,rfl,hil,k3,o3⟩
 dsimp only[aa]
 rw[dB]
 refine aC (fun hlt=>?_) (fun hge=>?_)
 ·have hlt:i<es.length:=of_decide_eq_true hlt
  have n3:=k3.next
  have hfl:=uk (fun x:aD=>x.2.1 == s) es i
  refine aP (fun zs M'=>∃ dv',zs=[dv']∧ag [] M M'∧Ow aA M' M.next TN dv' ((es.take (i + 1)).filter fun x=>x.2.1 == s)) ?_ ?_
  ·rintro zs M' ⟨dv',rfl,k',o'⟩
   dsimp only[aa]
   rw[add1 (by omega)]
   exact hnext _ _ _ (by omega) ⟨i + 1,dv',rfl,rfl,by omega,k',o'⟩
  intro J hJ
  rw[pK hlt] at hJ
  rw[pg (aL.keep r3 k3 (by simp)) hlt]
  generalize ((es.take i).filter fun x=>x.2.1 == s)=acc at *
  generalize es[i]=x at *
  rw[bg,iw (n:=5) (x:=.agg (aA.cells x)) (l:=[(N .i64 0),(N .u64 0),(St []),(St []),(St [])]) (RM.aT _) rfl rfl (oz x)]
  have k4:ag [] M3 ((M3.push (.row [(N .i64 0),(N .u64 0),(St []),(St []),(St [])] false TN 0)).put M3.next (.row (AV.agg (aA.cells x)).cells false TN 0)):=((ag.refl _ _).push _).new _ (Nat.le_refl _)
  have h4:((M3.push (.row [(N .i64 0),(N .u64 0),(St []),(St []),(St [])] false TN 0)).put M3.next (.row (AV.agg (aA.cells x)).cells false TN 0)).heap M3.next=some (.row (aA.cells x) false TN 0):=aU _
  generalize (M3.push (.row [(N .i64 0),(N .u64 0),(St []),(St []),(St [])] false TN 0)).put M3.next (.row (AV.agg (aA.cells x)).cells false TN 0)=M4 at *
  generalize M3.next=b at *
  rw[aN,az (i:=0 + 2) (x:=St x.2.1) h4 rfl,jC]
  have k04:=k3.trans k4
  have o4:=o3.keep k4 (by simp)
  refine aC (fun hc=>?_) (fun hc=>?_)
  ·rw[eQ (n:=5) h4 rfl,mO (x:=.agg (aA.cells x)) (size:=5) rfl (oz x) rfl,bg]
   refine rE (E:=aA) (a:=x) o4 (by have:=k04.next; omega) (by decide) (by omega) (by omega) fun v2 M7 o7 k7 n7 _=>?_
   refine hJ _ _ ⟨v2,rfl,k04.cz k7 (fun d hd=>.inl (o4.blk d hd).1), ?_⟩
   rw[hc,if_pos rfl]
   exact o7
  ·refine hJ _ _ ⟨dv,rfl,k04, ?_⟩
   rw[hc,if_neg (by decide),List.append_nil]
   exact o4
 ·have he:i=es.length:=by
   have:¬ i<es.length:=of_decide_eq_false hge
   omega
  subst he
  rw[List.take_length] at o3
  exact hQ dv M3 o3 k3
def ZV (s:List UInt8) (x:aD) : Bool:=(s != []) && (x.2.2.1 != s)
def setOf (d:aH) (c f a:List UInt8) : qI:=(d,(1,(c,(f,a))))
def alh (es:List aD) (c f:List UInt8) : List aD:=(es.filter fun x=>x.2.1 == c).filter fun x=>!ZV f x
def abm (es:List aD) (c f:List UInt8) : List aH:=asV ltD ((alh es c f).map fun x=>x.1)
def zY (c f:List UInt8) (x:aD) : Bool:=(x.2.1 == c) && ((f == []) || (x.2.2.1 == f))
def Zt (TN:Nat) (c:ak) : Prop:=∀ {M:RM} {v:AV} {es:List aD} {s f:List UInt8} {Q:aj},Sl aA M v es→es.length≤50000→(∀ v' M',Ow aA M' M.next TN v' (es.filter (zY s f))→ag [] M M'→Q v' M')→c [v,St s,St f] M Q
theorem aew {TN:Nat} : Zt TN fun args M Q=>∃ a0 a1 a2,args=[a0,a1,a2]∧ai2 TN a0 a1 a2 M Q:=by
 intro M v es s f Q hv hlen hQ
 refine⟨_,_,_,rfl, ?_⟩
 unfold ai2
 simp only[gK,eu,dE,dQ,bF]
 refine⟨_,_,_,_,rfl,rfl,by decide,by decide,by decide,by decide, ?_⟩
 dsimp only
 rw[bg]
 have k0:ag [] M (M.push (.row (bO [(N .i64 0),(N .u64 0),(St []),(St []),(St [])] 0) false TN 0)):=(ag.refl _ _).push _
 refine aG (fun z ys M3=>∃ (i:Nat) (dv:AV),z=es.length - i∧ys=[dv,N .i64 (i:Int)]∧i≤es.length∧ag [] M M3∧Ow aA M3 M.next TN dv ((es.take i).filter (zY s f))) _
  ⟨0,_,rfl,rfl,Nat.zero_le _,k0,Own.lit M (Nat.le_refl _)⟩ ?_
 rintro next z ys M3 hnext ⟨i,dv,rfl,rfl,hil,k3,o3⟩
 dsimp only[aa]
 have hv3:Sl aA M3 v es:=aL.keep hv k3 (by simp)
 rw[aL.len hv3,dB]
 refine aC (fun hlt=>?_) (fun hge=>?_)
 ·have hlt:i<es.length:=of_decide_eq_true hlt
  have n3:=k3.next
  have hfl:=uk (zY s f) es i
  refine aP (fun zs M'=>∃ dv',zs=[dv']∧ag [] M M'∧Ow aA M' M.next TN dv' ((es.take (i + 1)).filter (zY s f))) ?_ ?_
  ·rintro zs M' ⟨dv',rfl,k',o'⟩
   dsimp only[aa]
   rw[add1 (by omega)]
   exact hnext _ _ _ (by omega) ⟨i + 1,dv',rfl,rfl,by omega,k',o'⟩
  intro J hJ
  rw[pK hlt] at hJ
  rw[rF hv3 hlt (j:=2) (x:=St es[i].2.1) rfl,jC]
  refine aoK (q:=f == []) (r:=es[i].2.2.1 == f) (fun _ k hk=>?_) (fun _ _ k hk=>?_) ?_
  ·rw[jC]; exact hk
  ·rw[rF hv3 hlt (j:=3) (x:=St es[i].2.2.1) rfl,jC]; exact hk
  refine aC (fun hc=>?_) (fun hc=>?_)
  ·rw[pg hv3 hlt,mO (x:=.agg (aA.cells es[i])) (size:=5) rfl (oz _) rfl,bg]
   refine rE (E:=aA) (a:=es[i]) o3 (by have:=k3.next; omega) (by decide) (by omega) (by omega) fun v2 M7 o7 k7 n7 _=>?_
   refine hJ _ _ ⟨v2,rfl,k3.cz k7 (fun d hd=>.inl (o3.blk d hd).1), ?_⟩
   rw[show zY s f es[i]=true from hc,if_pos rfl]
   exact o7
  ·refine hJ _ _ ⟨dv,rfl,k3, ?_⟩
   rw[show zY s f es[i]=false from hc,if_neg (by decide),List.append_nil]
   exact o3
 ·have he:i=es.length:=by
   have:¬ i<es.length:=of_decide_eq_false hge
   omega
  subst he
  rw[List.take_length] at o3
  exact hQ dv M3 o3 k3
structure Apart (w:List Ev) (s:AQ) (c f a b cc:List UInt8) : Prop where
 ch:Ch w s
 good:∀ e∈w,eG e.1 e.2=true
 one:w.Pairwise fun x y=>x.1.1≠y.1.1
 len:w.length≤30
 dev:∀ e∈w,e.1.1.1<12∧∀ k∈e.2,k.1<12
 hf:f≠[]
 gx:eG (setOf (12,1) c f a) (abm s.2 c f)=true
 gy:eG (setOf (13,1) c f b) (abm s.2 c f)=true
 hc:cc.length≤512
section
variable {w:List Ev} {s:AQ} {c f a b cc:List UInt8}
end
structure SH (TS T:Nat) (M:RM) (t:Nat) (B:Nat→Prop) (s:AQ) : Prop where
 st:oF TS T B M t s.1 s.2
 lo:∀ d,B d→d<M.next
theorem SH.of {TS T t:Nat} {M:RM} {B:Nat→Prop} {ps:List Pt} {es:List aD} (h:oF TS T B M t ps es) : SH TS T M t (fun d=>B d∧d<M.next) (ps,es):=⟨h.below,fun d hd=>hd.2⟩
structure axG (TE:Nat) (M:RM) (b:Nat) (e:qI) (kv:AV) (ks:List aH) : Prop where
 lt:b<M.next
 row:M.heap b=some (.row (gz e kv) false TE 0)
 kills:Sl eX M kv ks
section
variable {TS T:Nat}
end
theorem rD {M:RM} {v:AV} {l:List Ev} {S:Nat→Prop} (h:iK xM M v l S) {i:Nat} (hi:i<l.length) :
  ∃ b o kv,(∀ (kd:IntKind) (K:AV→Prop),ah v (N kd (i:Int)) 7 K=K (.ptr b o))∧M.loads b o 7=some (gz l[i].1 kv)∧Sl eX M kv l[i].2:=by
 obtain⟨b,o,cs,_,_,hidx,hld,ds,hcs,kv,hds,hkv⟩:=h.at (i:=i) 7 (i:Int) hi rfl rfl
 subst hds
 subst hcs
 exact⟨b,o,kv,hidx,hld,iK.sl hkv⟩
theorem wP {M:RM} {b o k j:Nat} {cs:List AV} {x:AV} (h:M.loads b o k=some cs) (hj:cs[j]?=some x) {K:AV→Prop} (hK:K x) : au M (.ptr b (o + j)) K:=by
 rw[gX]
 exact⟨x,q9 h hj,hK⟩
def Rj (c:ak) : Prop:=∀ {M:RM} {x y:aD} {Q:aj},(∀ M',ag [] M M'→Q (Bo (gQ x y)) M')→c [.agg (aA.cells x),.agg (aA.cells y)] M Q
theorem akB {x y:aD} (h:x.2.1≠y.2.1) : gQ x y=decide (x.2.1<y.2.1):=by
 rw[gQ,lex]; simp[h]
theorem aks {x y:aD} (h:x.2.1=y.2.1) (h2:x.2.2.1≠y.2.2.1) : gQ x y=decide (x.2.2.1<y.2.2.1):=by
 rw[gQ,lex,lex]; simp[h,h2,List.lt_irrefl]
theorem adV {x y:aD} (h:x.2.1=y.2.1) (h2:x.2.2.1=y.2.2.1) : gQ x y=lY x.1 y.1:=by
 rw[gQ,lex,lex]; simp[h,h2,List.lt_irrefl,lY,lex]
theorem aa4 {TN:Nat} {cl:ak} (hl:Ag cl) : Rj fun args M Q=>∃ a0 a1,args=[a0,a1]∧NL TN cl a0 a1 M Q:=by
 intro M x y Q hQ
 refine⟨_,_,rfl, ?_⟩
 unfold NL
 rw[dX rfl (by rw[aA.len]; decide),bg,dX rfl (by rw[aA.len]; decide),bg]
 have k0:ag [] M ((M.push (.row (aA.cells x) false TN 0)).push (.row (aA.cells y) false TN 0)):=((ag.refl _ _).push _).push _
 have hx:((M.push (.row (aA.cells x) false TN 0)).push (.row (aA.cells y) false TN 0)).heap M.next=some (.row (aA.cells x) false TN 0):=nL (RM.aT _) (by simp[RM.push])
 have hy:((M.push (.row (aA.cells x) false TN 0)).push (.row (aA.cells y) false TN 0)).heap (M.push (.row (aA.cells x) false TN 0)).next=some (.row (aA.cells y) false TN 0):=RM.aT _
 generalize (M.push (.row (aA.cells x) false TN 0)).push (.row (aA.cells y) false TN 0)=M1 at *
 generalize (M.push (.row (aA.cells x) false TN 0)).next=b2 at *
 rw[aN,az (i:=0 + 2) (x:=St x.2.1) hx rfl,aN,az (i:=0 + 2) (x:=St y.2.1) hy rfl,jW]
 refine aC (fun h=>?_) (fun h=>?_)
 ·have h:x.2.1≠y.2.1:=by simpa using h
  rw[aN,az (i:=0 + 2) (x:=St x.2.1) hx rfl,aN,az (i:=0 + 2) (x:=St y.2.1) hy rfl,Ha,ny,← akB h]
  exact hQ _ k0
 have h:x.2.1=y.2.1:=by simpa using h
 rw[aN,az (i:=0 + 3) (x:=St x.2.2.1) hx rfl,aN,az (i:=0 + 3) (x:=St y.2.2.1) hy rfl,jW]
 refine aC (fun h2=>?_) (fun h2=>?_)
 ·have h2:x.2.2.1≠y.2.2.1:=by simpa using h2
  rw[aN,az (i:=0 + 3) (x:=St x.2.2.1) hx rfl,aN,az (i:=0 + 3) (x:=St y.2.2.1) hy rfl,Ha,ny,← aks h h2]
  exact hQ _ k0
 have h2:x.2.2.1=y.2.2.1:=by simpa using h2
 rw[bK,afD hx,bK,afD hy]
 refine hl fun M2 k2=>?_
 rw[← adV h h2]
 exact hQ _ (k0.trans k2)
theorem RF {α:Type} {p:α→Bool} : ∀ {l:List α} {i:Nat},i≤l.length→(∀ k (hk:k<l.length),k<i→p l[k]=true)→(∀ (hi:i<l.length),p l[i]=false)→(l.takeWhile p).length=i
 | [],i,h,_,_=>by simp at h; subst h; rfl
 | x :: l,0,_,_,h2=>by
   have:=h2 (by simp)
   simp only[List.getElem_cons_zero] at this
   simp[this]
 | x :: l,i + 1,h,h1,h2=>by
   have hx:=h1 0 (by simp) (by omega)
   simp only[List.getElem_cons_zero] at hx
   have:=RF (p:=p) (l:=l) (i:=i) (by simpa using h) (fun k hk hki=>by have:=h1 (k + 1) (by simp; omega) (by omega); simpa using this) (fun hi=>by have:=h2 (by simp; omega); simpa using this)
   rw[List.takeWhile_cons_of_pos hx,List.length_cons,this]
def atE (x:aD) (l:List aD) : Nat:=(l.takeWhile fun y=>gQ y x).length
def Ik (l:List aD) (x:aD) : List aD:=l.take (atE x l)++x :: l.drop (atE x l)
theorem aiD (l:List aD) (x:aD) : (Ik l x).length=l.length + 1:=by
 unfold Ik
 have:(l.take (atE x l)++l.drop (atE x l)).length=l.length:=by rw[List.take_append_drop]
 simp only[List.length_append,List.length_cons] at *
 omega
def Kr (TN:Nat) (c:ak) : Prop:=∀ {M:RM} {base:Nat} {v:AV} {l:List aD} {x:aD} {Q:aj},Ow aA M base TN v l→base≤M.next→l.length≤100000→(∀ v' M',Ow aA M' base TN v' (Ik l x)→ag [] M M'→Q v' M')→c [v,.agg (aA.cells x)] M Q
theorem Vo {T:Nat} {cb:ak} (ha:Rj cb) : Kr T fun args M Q=>∃ a0 a1,args=[a0,a1]∧Hl T cb a0 a1 M Q:=by
 intro M base v l d Q ho hb hl hQ
 refine⟨_,_,rfl, ?_⟩
 unfold Hl
 simp only[eu,dE]
 rw[dX rfl (by rw[aA.len]; decide),bg]
 have h3:(M.push (.row (aA.cells d) false T 0)).heap M.next=some (.row (aA.cells d) false T 0):=RM.aT _
 have k12:ag [] M (M.push (.row (aA.cells d) false T 0)):=(ag.refl _ _).push _
 have n1:(M.push (.row (aA.cells d) false T 0)).next=M.next + 1:=rfl
 generalize M.push (.row (aA.cells d) false T 0)=M2 at *
 have ho2:=ho.keep k12 (by simp)
 unfold Ik at hQ
 refine aG (fun m ys M3=>∃ (i:Nat),m=l.length - i∧ys=[N .i64 (i:Int)]∧i≤l.length∧ag [] M2 M3∧∀ k (hk:k<l.length),k<i→gQ l[k] d=true) _
  ⟨0,rfl,rfl,Nat.zero_le _,ag.refl _ _,fun k hk h=>by omega⟩ ?_
 rintro next m ys M3 hnext ⟨i,rfl,rfl,hi,k3,hah⟩
 dsimp only[aa]
 have k13:=k12.trans k3
 have ho3:=ho2.keep k3 (by simp)
 have s3:Sl aA M3 v l:=ho3.eZ
 have n3:=k3.next
 have h33:=k3.aQ h3 (by omega) (by simp)
 have fin:∀ M3,ag [] M2 M3→atE d l=i→(eB T 0 [(N .i64 0),(N .u64 0),(St []),(St []),(St [])] [] fun aws avS=>vF aws avS M3 fun t24 iG XL=>iB (cZ 5 v none (some (N .i64 (i:Int))) none) fun t27=>aB iG (.ptr M.next 0) 5 fun t29 =>
   eB T 1 [(N .i64 0),(N .u64 0),(St []),(St []),(St [])] [(0,5,t29)] fun awq avy=>vF awq avy iG fun t30 kw Ot=>iB (cZ 5 v (some (N .i64 (i:Int))) none none) fun t34=>appW T 5 64 [(N .i64 0),(N .u64 0),(St []),(St []),(St [])] false t24 t27 kw fun t28 fQ =>
   aB fQ (.ptr M.next 0) 5 fun aqp=>(aqp=t29∧eB T 1 [(N .i64 0),(N .u64 0),(St []),(St []),(St [])] [(0,5,t29)] fun awW avA=>(Eb Ot fQ awW avA t30∧iB (cZ 5 v (some (N .i64 (i:Int))) none none) fun amx=>(amx=t34∧appW T 5 64 [(N .i64 0),(N .u64 0),(St []),(St []),(St [])] false t28 t30 fQ fun t31 nH =>
   iB (cZ 5 v (some (N .i64 (i:Int))) none none) fun amo=>(amo=t34∧appW T 5 64 [(N .i64 0),(N .u64 0),(St []),(St []),(St [])] false t31 t34 nH fun t35 iR=>Q t35 iR))))):=fun M3 k3 hat=>by
  have k13:=k12.trans k3
  have ho3:=ho2.keep k3 (by simp)
  have n3:=k3.next
  have h33:=k3.aQ h3 (by omega) (by simp)
  obtain⟨v1,v2,e1,s1,e2,s2,hb1,hb2⟩:=abB (E:=aA) (k:=i) (by decide) ho3 hi
  have e1:cZ 5 v none (some (N .i64 (i:Int))) none=some v1:=e1
  have e2:cZ 5 v (some (N .i64 (i:Int))) none none=some v2:=e2
  have hvb:=ho3.blk
  rw[auz,qo,e1,dO]
  have o4:Ow aA (M3.push (.row [] false T 0)) M3.next T (.slc M3.next 0 0 (.ex 0)) []:=Ow.lit aA M3
  have k4:ag [] M3 (M3.push (.row [] false T 0)):=(ag.refl _ _).push _
  have n4:(M3.push (.row [] false T 0)).next=M3.next + 1:=rfl
  generalize M3.push (.row [] false T 0)=M4 at *
  have h4:=k4.aQ h33 (by omega) (by simp)
  rw[eQ (n:=5) h4 rfl,mO (x:=.agg (aA.cells d)) (size:=5) rfl (oz d) rfl,qo,e2,dO]
  have h5:(M4.push (.row (AV.agg (aA.cells d)).cells false T 0)).heap M4.next=some (.row (aA.cells d) false T 0):=RM.aT _
  have k5:ag [] M4 (M4.push (.row (AV.agg (aA.cells d)).cells false T 0)):=(ag.refl _ _).push _
  have n5:(M4.push (.row (AV.agg (aA.cells d)).cells false T 0)).next=M4.next + 1:=rfl
  generalize M4.push (.row (AV.agg (aA.cells d)).cells false T 0)=M5 at *
  have k45:=k4.trans k5
  refine yQ (E:=aA) (ys:=l.take i) (o4.keep k5 (by simp)) (by omega) (by decide) (aL.keep s1 k45 (by simp)) (by simp; omega) (by simp; omega) ?_
  intro v6 M6 o6 k6 n6 _
  have hk6:∀ c,c<M3.next→c ∉ aJ (.slc M3.next 0 0 (.ex 0)):=fun c hc hm=>by simp[aJ] at hm; omega
  have h6:=k6.aQ (k5.aQ h4 (by omega) (by simp)) (by omega) (hk6 _ (by omega))
  have h66:=k6.aQ h5 (by omega) (by simp[aJ]; omega)
  rw[eQ (n:=5) h6 rfl]
  refine⟨rfl, ?_⟩
  rw[mO (x:=.agg (aA.cells d)) (size:=5) rfl (oz d) rfl]
  refine⟨⟨h66,rfl⟩, ?_⟩
  rw[dO]
  refine⟨rfl, ?_⟩
  rw[List.nil_append] at o6
  have sd:Sl aA M6 (.slc M4.next 0 1 (.ex 1)) [d]:=.slc _ _ _ _ _ (by omega) (by rw[RM.dH h66 (by show 0 + 1 * 5≤5; omega)]; rfl)
  refine yQ (E:=aA) (ys:=[d]) o6 (by omega) (by decide) sd (by simp; omega) (by simp; omega) ?_
  intro v7 M7 o7 k7 n7 _
  rw[dO]
  refine⟨rfl, ?_⟩
  have hv6:=o6.blk
  have hv7:=o7.blk
  have s27:Sl aA M7 v2 (l.drop i):=by
   refine aL.keep (aL.keep (aL.keep s2 k45 (by simp)) k6 fun c hc=>?_) k7 fun c hc hm=>?_
   ·exact hk6 c (hvb c (hb2 c hc)).2
   ·have:=(hv6 c hm).1
    have:=(hvb c (hb2 c hc)).2
    omega
  refine yQ (E:=aA) (ys:=l.drop i) o7 (by omega) (by decide) s27 (by simp; omega) (by simp; omega) ?_
  intro v8 M8 o8 k8 n8 _
  refine hQ v8 M8 ?_ ?_
  ·rw[hat]
   have:=o8.mono (base':=base) (by have:=k13.next; omega)
   have e:l.take i++[d]++l.drop i=l.take i++d :: l.drop i:=by simp
   rw[e] at this
   exact this
  ·have a1:ag [] M M5:=k13.trans k45
   have:=k13.next
   refine((a1.cz k6 fun c hc=>.inl (by simp[aJ] at hc; omega)).cz k7 fun c hc=>.inl (by have:=(hv6 c hc).1; omega)).cz k8 fun c hc=>.inl (by have:=(hv7 c hc).1; omega)
 rw[aL.len s3,dL]
 by_cases hlt:i<l.length
 ·rw[show decide ((i:Int)<(l.length:Int))=true by simpa using hlt,bZ]
  dsimp only
  rw[pg s3 hlt,eQ (n:=5) h33 rfl]
  refine ha fun M4 k4=>?_
  rw[dC]
  refine aC (fun hg=>?_) (fun hg=>?_)
  ·rw[dw,gL (by omega)]
   refine hnext _ _ _ (by omega) ⟨i + 1,rfl,rfl,by omega,k3.trans k4,fun k hk hki=>?_⟩
   rcases Nat.lt_or_ge k i with h | h
   ·exact hah k hk h
   ·have:k=i:=by omega
    subst this; exact hg
  ·exact fin M4 (k3.trans k4) (RF hi hah fun _=>hg)
 ·rw[show decide ((i:Int)<(l.length:Int))=false by simp; omega,bN]
  dsimp only
  rw[bT,bA]
  exact fin M3 k3 (RF hi hah fun h=>absurd h hlt)
theorem WQ:BM fun args M Q=>∃ a0 a1,args=[a0,a1]∧WO a0 a1 M Q:=by
 intro M v w xs ys Q h1 h2 hl hQ
 refine⟨_,_,rfl, ?_⟩
 unfold WO
 rw[aL.len h1,aL.len h2,jH]
 refine aC (fun hn=>?_) (fun hn=>?_)
 ·have:¬ xs=ys:=fun e=>by subst e; simp at hn
  rw[decide_eq_false this] at hQ
  exact hQ
 have hn:xs.length=ys.length:=by
  simp only[bne_eq_false_iff_eq] at hn
  omega
 refine aG (fun m zs M3=>∃ i:Nat,m=xs.length - i∧zs=[N .i64 (i:Int)]∧i≤xs.length∧M3=M∧(xs=ys↔xs.drop i=ys.drop i)) _ ⟨0,rfl,rfl,Nat.zero_le _,rfl,Iff.rfl⟩ ?_
 rintro next m zs M3 hnext ⟨i,rfl,rfl,hi,rfl,hm⟩
 dsimp only[aa]
 rw[aL.len h1,dB]
 refine aC (fun hlt=>?_) (fun hge=>?_)
 ·have hlt:i<xs.length:=of_decide_eq_true hlt
  rw[List.drop_eq_getElem_cons hlt,List.drop_eq_getElem_cons (show i<ys.length by omega),List.cons.injEq] at hm
  rw[pg h1 hlt,pg h2 (by omega),qK rfl rfl (afp _ _)]
  refine aC (fun he=>?_) (fun he=>?_)
  ·have he:¬ xs[i]=ys[i]'(by omega):=by simpa using he
   rw[decide_eq_false (fun e=>he (hm.1 e).1)] at hQ
   exact hQ
  ·have he:xs[i]=ys[i]'(by omega):=by simpa using he
   rw[add1 (by omega)]
   exact hnext _ _ _ (by omega) ⟨i + 1,rfl,rfl,by omega,rfl,hm.trans ⟨fun h=>h.2,fun h=>⟨he,h⟩⟩⟩
 ·have he:i=xs.length:=by
   have:¬ i<xs.length:=of_decide_eq_false hge
   omega
  subst he
  rw[List.drop_length,hn,List.drop_length] at hm
  rw[decide_eq_true (hm.2 rfl)] at hQ
  exact hQ
theorem atY {M:RM} {c p:Bool} {f:KR→Prop} {P:RM→Prop} {G:AV→RM→Prop} (h0:P M) (hf:c=true→∀ k:KR,(∀ M',P M'→k (Bo p) M' none)→f k) (hG:∀ M',P M'→G (Bo (c && p)) M') :
  ae (Bo c) true f (fun k=>k .undef M none) (fun t M' b=>aK (Bo c) t (Bo false) fun u=>G u M'):=by
 cases c with
 | false=>rw[gG]; dsimp only; rw[bT]; exact hG M h0
 | true=>rw[gI]; exact hf rfl _ fun M' h=>by rw[dC]; exact hG M' h
theorem atP {M:RM} {c q r:Bool} {f1:KR→Prop} {f2:RM→KR→Prop} {G:AV→RM→Prop} (h1:c=true→∀ k:KR,k (Bo q) M none→f1 k) (h2:c=true→q=true→∀ k:KR,k (Bo r) M none→f2 M k) (hG:G (Bo (c && !(q && r))) M) :
  ae (Bo c) true f1 (fun k=>k .undef M none) (fun t45 M1 b1=>ae t45 true (f2 M1) (fun k=>k .undef M1 none) fun t56 M2 b2=>ae (Bo c) true (fun k'=>aK t45 t56 (Bo false) fun t57=>dM t57 fun t58=>k' t58 M2 none) (fun k=>k .undef M2 none) fun t58 M3 b3=>aK (Bo c) t58 (Bo false) fun t59=>G t59 M3):=by
 cases c with
 | false=>rw[gG]; dsimp only; rw[YK]; dsimp only; rw[gG]; dsimp only; rw[bT]; exact hG
 | true =>
   rw[gI]
   refine h1 rfl _ ?_
   cases q with
   | false=>rw[gG]; dsimp only; rw[gI]; dsimp only; rw[bT,bD]; rw[dC]; exact hG
   | true =>
     rw[gI]
     refine h2 rfl rfl _ ?_
     rw[gI]; dsimp only; rw[dC,bD,dC]; exact hG
def Vs (e:Ev) (i k:Nat) (f:Ev) : Bool:=!decide (e.1.1∈f.2) && !(decide (k<i) && decide (f.1.1=e.1.1))
def zF (l:List Ev) (e:Ev) (i:Nat) : Nat→Bool
 | 0=>e.1.2.1 == 1
 | k + 1=>zF l e i k && (match l[k]? with | some f=>Vs e i k f | none=>true)
def qp (l:List Ev) : Nat→List aD
 | 0=>[]
 | i + 1=>match l[i]? with
   | some e=>if zF l e i l.length then Ik (qp l i) (kD e.1) else qp l i
   | none=>qp l i
theorem aav (l:List Ev) : ∀ i,(qp l i).length≤i
 | 0=>Nat.le_refl _
 | i + 1=>by
   have:=aav l i
   rw[qp]
   split
   ·split
    ·rw[aiD]; omega
    ·omega
   ·omega
def Er (TN:Nat) (c:ak) : Prop:=∀ {M:RM} {v:AV} {l:List Ev} {S:Nat→Prop} {Q:aj},iK xM M v l S→(∀ d,S d→d<M.next)→l.length≤10000→(∀ e∈l,e.2.length≤1000000) →
 (∀ v' M',Ow aA M' M.next TN v' (qp l l.length)→ag [] M M'→Q v' M')→c [v] M Q
theorem Q8 {TN:Nat} {ch cp:ak} (hh:Tt ch) (hp:Kr TN cp) : Er TN fun args M Q=>∃ a0,args=[a0]∧KH TN ch cp a0 M Q:=by
 intro M v l S Q hv hS hlen hks hQ
 refine⟨_,rfl, ?_⟩
 unfold KH
 simp only[gK,eu,dE,dQ,bF]
 refine⟨_,_,_,_,rfl,rfl,by decide,by decide,by decide,by decide, ?_⟩
 dsimp only
 rw[bg]
 have k0:ag [] M (M.push (.row (bO [(N .i64 0),(N .u64 0),(St []),(St []),(St [])] 0) false TN 0)):=(ag.refl _ _).push _
 refine aG (fun z ys M3=>∃ (i:Nat) (dv:AV),z=l.length - i∧ys=[dv,N .i64 (i:Int)]∧i≤l.length∧ag [] M M3∧Ow aA M3 M.next TN dv (qp l i)) _
  ⟨0,_,rfl,rfl,Nat.zero_le _,k0,Own.lit M (Nat.le_refl _)⟩ ?_
 rintro next z ys M3 hnext ⟨i,dv,rfl,rfl,hil,k3,o3⟩
 dsimp only[aa]
 have hv3:=hv.keep k3 (by simp)
 rw[hv3.len,dB]
 refine aC (fun hlt=>?_) (fun hge=>?_)
 ·have hlt:i<l.length:=of_decide_eq_true hlt
  have n3:=k3.next
  have hrl:=aav l i
  refine aP (fun zs M'=>∃ dv',zs=[dv']∧ag [] M M'∧Ow aA M' M.next TN dv' (qp l (i + 1))) ?_ ?_
  ·rintro zs M' ⟨dv',rfl,k',o'⟩
   dsimp only[aa]
   rw[add1 (by omega)]
   exact hnext _ _ _ (by omega) ⟨i + 1,dv',rfl,rfl,by omega,k',o'⟩
  ·intro J hJ
   obtain⟨b,o,kv,hidx,hld,hkv⟩:=rD hv3 hlt
   rw[hidx,aN]
   refine wP (j:=2) hld (x:=N .i64 l[i].1.2.1) rfl ?_
   rw[bL,show(l[i].1.2.1 == 1)=zF l l[i] i 0 from rfl]
   refine aG (fun z ys M4=>∃ k:Nat,z=l.length - k∧ys=[Bo (zF l l[i] i k),N .i64 (k:Int)]∧k≤l.length∧ag [] M3 M4) _
    ⟨0,rfl,rfl,Nat.zero_le _,ag.refl _ _⟩ ?_
   rintro iq z ys M4 dm ⟨k,rfl,rfl,hk,k4⟩
   dsimp only[aa]
   have hv4:=hv3.keep k4 (by simp)
   rw[hv4.len,dB]
   refine aC (fun hlt2=>?_) (fun mU=>?_)
   ·have hlt2:k<l.length:=of_decide_eq_true hlt2
    refine atY (P:=fun M5=>ag [] M3 M5) (p:=!decide (l[i].1.1∈l[k].2)) k4 (fun _ K hK=>?_) fun M5 k5=>?_
    ·obtain⟨b1,o1,kv1,A8,NY,amU⟩:=rD hv4 hlt2
     obtain⟨b2,o2,kv2,rR,vJ,anx⟩:=rD hv4 hlt
     rw[A8,aN]
     refine wP (j:=6) NY (x:=kv1) rfl ?_
     rw[rR,aN,Nat.add_zero,fB,xn vJ 2 (by decide)]
     refine⟨_,rfl, ?_⟩
     refine hh amU (hks _ (List.getElem_mem hlt2)) fun M6 k6=>?_
     rw[bD]
     exact hK M6 (k4.trans k6)
    ·have hv5:=hv3.keep k5 (by simp)
     refine atP (q:=decide (k<i)) (r:=decide (l[k].1.1=l[i].1.1)) (fun _ K hK=>?_) (fun _ _ K hK=>?_) ?_
     ·rw[dB]; exact hK
     ·obtain⟨b1,o1,kv1,A8,NY,amU⟩:=rD hv5 hlt2
      obtain⟨b2,o2,kv2,rR,vJ,anx⟩:=rD hv5 hlt
      rw[A8,aN,Nat.add_zero,fB,xn NY 2 (by decide)]
      refine⟨_,rfl, ?_⟩
      rw[rR,aN,Nat.add_zero,fB,xn vJ 2 (by decide)]
      refine⟨_,rfl, ?_⟩
      rw[qK rfl rfl (show dV [1,1] (List.take 2 (gz l[k].1 kv1)) (List.take 2 (gz l[i].1 kv2))=some (decide (l[k].1.1=l[i].1.1)) from FW _ _),Bool.bne_false]
      exact hK
     ·rw[add1 (by omega)]
      refine dm _ _ _ (by omega) ⟨k + 1,rfl, ?_,by omega,k5⟩
      rw[zF,List.getElem?_eq_getElem hlt2]
      simp only[Vs,Bool.and_assoc]
   ·have hke:k=l.length:=by
     have:¬ k<l.length:=of_decide_eq_false mU
     omega
    subst hke
    obtain⟨b2,o2,kv2,rR,vJ,anx⟩:=rD hv4 hlt
    have n4:=k4.next
    have o4:=o3.keep k4 (by simp)
    refine aC (fun hc=>?_) (fun hc=>?_)
    ·rw[rR,aN,Nat.add_zero,fB,xn vJ 2 (by decide)]
     refine⟨_,rfl, ?_⟩
     rw[rR,aN]
     refine wP (j:=3) vJ (x:=St l[i].1.2.2.1) rfl ?_
     rw[rR,aN]
     refine wP (j:=4) vJ (x:=St l[i].1.2.2.2.1) rfl ?_
     rw[rR,aN]
     refine wP (j:=5) vJ (x:=St l[i].1.2.2.2.2) rfl ?_
     rw[oH]
     refine⟨aA.cells (kD l[i].1),rfl, ?_⟩
     refine hp o4 (by omega) (by omega) fun v' M5 o5 k5=>?_
     refine hJ _ _ ⟨v',rfl,(k3.trans k4).trans k5, ?_⟩
     rw[qp,List.getElem?_eq_getElem hlt]
     simp only[hc,if_true]
     exact o5
    ·refine hJ _ _ ⟨dv,rfl,k3.trans k4, ?_⟩
     rw[qp,List.getElem?_eq_getElem hlt]
     simp only[hc]
     exact o4
 ·have he:i=l.length:=by
   have:¬ i<l.length:=of_decide_eq_false hge
   omega
  subst he
  exact hQ dv M3 o3 k3
def nm (es:List aD) (i:Nat) : List UInt8:=(es.getD i ((0,0),([],[],[]))).2.1
theorem HV {es:List aD} {i:Nat} (h:i<es.length) : nm es i=es[i].2.1:=by rw[nm,Fw h]
def jw (es:List aD) : Nat→List (List UInt8)
 | 0=>[]
 | i + 1=>if i=0∨nm es (i - 1)≠nm es i then jw es i++[nm es i] else jw es i
theorem GG (es:List aD) : ∀ i,(jw es i).length≤i
 | 0=>Nat.le_refl _
 | i + 1=>by
   have:=GG es i
   rw[jw]
   split
   ·simp; omega
   ·omega
theorem Dv (es:List aD) : ∀ i,(jw es (i + 1)).getLast?=some (nm es i)
 | 0=>by rw[jw,if_pos (.inl rfl)]; simp
 | i + 1=>by
   rw[jw]
   split
   ·simp
   ·rename_i h
    have h:nm es i=nm es (i + 1):=by
     apply Classical.byContradiction; intro hh; exact h (.inr (by simpa using hh))
    rw[Dv es i,h]
theorem ahk (es:List aD) (i:Nat) : (jw es (i + 1))≠[]:=fun h=>by
 have:=Dv es i
 rw[h] at this; cases this
def DD (TS T T9:Nat) (c:ak) : Prop:=∀ {M:RM} {t:Nat} {B:Nat→Prop} {ps:List Pt} {es:List aD} {Q:aj},oF TS T B M t ps es→es.length≤50000→(∀ v M',Ow AX M' M.next T9 v (jw es es.length)→ag [] M M'→Q v M')→c [.ptr t 0] M Q
theorem Vd {TS T TN T9:Nat} : DD TS T T9 fun args M Q=>∃ a0,args=[a0]∧vK TN T9 a0 M Q:=by
 intro M t B ps es Q hst hlen hQ
 refine⟨_,rfl, ?_⟩
 unfold vK
 simp only[gK,eu,dE,dQ,bF]
 obtain⟨s0,v,r1,_,r3,_,_⟩:=hst.row
 rw[aO,aN,az (i:=0 + 1) r1 rfl,aL.len r3]
 refine aG (fun z ys M3=>∃ (i:Nat) (dv:AV),z=es.length - i∧ys=[dv,N .i64 (i:Int)]∧i≤es.length∧ag [] M M3∧Ow AX M3 M.next T9 dv (jw es i)) _
  ⟨0,di,rfl,rfl,Nat.zero_le _,ag.refl _ _,.nil⟩ ?_
 rintro next z ys M3 hnext ⟨i,dv,rfl,rfl,hil,k3,o3⟩
 dsimp only[aa]
 rw[dB]
 refine aC (fun hlt=>?_) (fun hge=>?_)
 ·have hlt:i<es.length:=of_decide_eq_true hlt
  have n3:=k3.next
  have hcl:=GG es i
  refine aP (fun zs M'=>∃ dv',zs=[dv']∧ag [] M M'∧Ow AX M' M.next T9 dv' (jw es (i + 1))) ?_ ?_
  ·rintro zs M' ⟨dv',rfl,k',o'⟩
   dsimp only[aa]
   rw[add1 (by omega)]
   exact hnext _ _ _ (by omega) ⟨i + 1,dv',rfl,rfl,by omega,k',o'⟩
  intro J hJ
  rw[pg (aL.keep r3 k3 (by simp)) hlt]
  have hx:=HV hlt
  generalize es[i]=x at *
  rw[bg,iw (n:=5) (x:=.agg (aA.cells x)) (l:=[(N .i64 0),(N .u64 0),(St []),(St []),(St [])]) (RM.aT _) rfl rfl (oz x)]
  have k4:ag [] M3 ((M3.push (.row [(N .i64 0),(N .u64 0),(St []),(St []),(St [])] false TN 0)).put M3.next (.row (AV.agg (aA.cells x)).cells false TN 0)):=((ag.refl _ _).push _).new _ (Nat.le_refl _)
  have h4:((M3.push (.row [(N .i64 0),(N .u64 0),(St []),(St []),(St [])] false TN 0)).put M3.next (.row (AV.agg (aA.cells x)).cells false TN 0)).heap M3.next=some (.row (aA.cells x) false TN 0):=aU _
  generalize (M3.push (.row [(N .i64 0),(N .u64 0),(St []),(St []),(St [])] false TN 0)).put M3.next (.row (AV.agg (aA.cells x)).cells false TN 0)=M4 at *
  generalize M3.next=b at *
  have o4:=o3.keep k4 (by simp)
  have k04:=k3.trans k4
  rw[aL.len o4.eZ,bL]
  refine Xy (P:=fun M'=>M'=M4) (p:=decide (nm es (i - 1)≠nm es i)) rfl (fun hc K hK=>?_) fun M5 hM5=>?_
  ·have hi0:i≠0:=fun e=>by
    subst e; simp[jw] at hc
   have hlp:0<(jw es i).length:=by
    simp only[beq_eq_false_iff_ne,ne_eq] at hc; omega
   rw[aL.len o4.eZ,bz hlp (by omega)]
   obtain⟨b1,o1,_,_,hidx,hcell⟩:=Sl.Kq (E:=AX) (i:=(jw es i).length - 1) o4.eZ (((jw es i).length - 1:Nat) : Int) (by omega) rfl rfl
   have hlast:(jw es i)[(jw es i).length - 1]'(by omega)=nm es (i - 1):=by
    have:=Dv es (i - 1)
    rw[show i - 1 + 1=i by omega,List.getLast?_eq_getElem?,List.getElem?_eq_getElem (by omega)] at this
    exact Option.some.inj this
   rw[hidx,gX,hcell (St (nm es (i - 1))) (by rw[hlast]; rfl)]
   simp only[Option.some.injEq,exists_eq_left']
   rw[aN,az (i:=0 + 2) (x:=St x.2.1) h4 rfl,jW]
   refine hK M4 rfl |> fun h=>?_
   rw[show(nm es (i - 1) != x.2.1)=decide (nm es (i - 1)≠nm es i) by rw[hx]; by_cases h:nm es (i - 1)=x.2.1 <;> simp[h]]
   exact h
  ·subst hM5
   have hc0:((((jw es i).length:Nat) : Int) == 0)=decide (i=0):=by
    cases i with
    | zero=>simp[jw]
    | succ i =>
      have:=List.length_pos_iff.2 (ahk es i)
      rw[decide_eq_false (by omega),beq_eq_false_iff_ne]
      omega
   rw[hc0]
   refine aC (fun hc=>?_) (fun hc=>?_)
   ·simp only[Bool.or_eq_true,decide_eq_true_eq] at hc
    rw[aN,az (i:=0 + 2) (x:=St x.2.1) h4 rfl,mO (x:=St x.2.1) (size:=1) rfl rfl rfl,bg]
    refine rE (E:=AX) (a:=x.2.1) o4 (by have:=k04.next; omega) (by decide) (by omega) (by omega) fun v2 M7 o7 k7 n7 _=>?_
    refine hJ _ _ ⟨v2,rfl,k04.cz k7 (fun d hd=>.inl (o4.blk d hd).1), ?_⟩
    rw[jw,if_pos hc,hx]
    exact o7
   ·refine hJ _ _ ⟨dv,rfl,k04, ?_⟩
    rw[jw,if_neg (by simpa using hc)]
    exact o4
 ·have he:i=es.length:=by
   have:¬ i<es.length:=of_decide_eq_false hge
   omega
  subst he
  exact hQ dv M3 o3 k3
def yg (T9:Nat) (c:ak) : Prop:=∀ {M:RM} {v:AV} {es:List aD} {Q:aj},Sl aA M v es→es.length≤50000→(∀ v' M',Ow AX M' M.next T9 v' (jw es es.length)→ag [] M M'→Q v' M')→c [v] M Q
theorem NT {T9:Nat} : yg T9 fun args M Q=>∃ a0,args=[a0]∧Ie T9 a0 M Q:=by
 intro M v es Q hv hlen hQ
 refine⟨_,rfl, ?_⟩
 unfold Ie
 simp only[gK,eu,dE,dQ,bF]
 refine⟨_,_,_,_,rfl,rfl,by decide,by decide,by decide,by decide, ?_⟩
 dsimp only
 rw[bg]
 have k0:ag [] M (M.push (.row (bO [(St [])] 0) false T9 0)):=(ag.refl _ _).push _
 refine aG (fun z ys M3=>∃ (i:Nat) (dv:AV),z=es.length - i∧ys=[dv,N .i64 (i:Int)]∧i≤es.length∧ag [] M M3∧Ow AX M3 M.next T9 dv (jw es i)) _
  ⟨0,_,rfl,rfl,Nat.zero_le _,k0,Own.lit M (Nat.le_refl _)⟩ ?_
 rintro next z ys M3 hnext ⟨i,dv,rfl,rfl,hil,k3,o3⟩
 dsimp only[aa]
 have hv3:Sl aA M3 v es:=aL.keep hv k3 (by simp)
 rw[aL.len hv3,dB]
 refine aC (fun hlt=>?_) (fun hge=>?_)
 ·have hlt:i<es.length:=of_decide_eq_true hlt
  have n3:=k3.next
  have hcl:=GG es i
  have hx:=HV hlt
  refine aP (fun zs M'=>∃ dv',zs=[dv']∧ag [] M M'∧Ow AX M' M.next T9 dv' (jw es (i + 1))) ?_ ?_
  ·rintro zs M' ⟨dv',rfl,k',o'⟩
   dsimp only[aa]
   rw[add1 (by omega)]
   exact hnext _ _ _ (by omega) ⟨i + 1,dv',rfl,rfl,by omega,k',o'⟩
  intro J hJ
  rw[bL]
  refine Xy (P:=fun M'=>M'=M3) (p:=decide (nm es (i - 1)≠nm es i)) rfl (fun hc K hK=>?_) fun M5 hM5=>?_
  ·have hi0:1≤i:=by
    simp only[beq_eq_false_iff_ne,ne_eq] at hc; omega
   obtain⟨b1,o1,_,_,A8,NY⟩:=Sl.at (E:=aA) (i:=i) hv3 5 (i:Int) hlt rfl rfl
   obtain⟨b2,o2,_,_,rR,vJ⟩:=Sl.at (E:=aA) (i:=i - 1) hv3 5 ((i - 1:Nat) : Int) (by omega) rfl rfl
   rw[A8,aN]
   refine wP (j:=2) NY (x:=St es[i].2.1) rfl ?_
   rw[bz hi0 (by omega),rR,aN]
   refine wP (j:=2) vJ (x:=St (es[i - 1]'(by omega)).2.1) rfl ?_
   rw[jW,← HV hlt,← HV (show i - 1<es.length by omega),show(nm es i != nm es (i - 1))=decide (nm es (i - 1)≠nm es i) by by_cases h:nm es (i - 1)=nm es i <;> simp[h]; exact fun e=>h e.symm]
   exact hK M3 rfl
  ·subst hM5
   rw[show((i:Int) == 0)=decide (i=0) by by_cases h:i=0 <;> simp[h]]
   refine aC (fun hc=>?_) (fun hc=>?_)
   ·simp only[Bool.or_eq_true,decide_eq_true_eq] at hc
    obtain⟨b1,o1,_,_,A8,NY⟩:=Sl.at (E:=aA) (i:=i) hv3 5 (i:Int) hlt rfl rfl
    rw[A8,aN]
    refine wP (j:=2) NY (x:=St es[i].2.1) rfl ?_
    rw[mO (x:=St es[i].2.1) (size:=1) rfl rfl rfl,bg]
    refine rE (E:=AX) (a:=es[i].2.1) o3 (by omega) (by decide) (by omega) (by omega) fun v2 M7 o7 k7 n7 _=>?_
    refine hJ _ _ ⟨v2,rfl,k3.cz k7 (fun d hd=>.inl (o3.blk d hd).1), ?_⟩
    rw[jw,if_pos hc,hx]
    exact o7
   ·refine hJ _ _ ⟨dv,rfl,k3, ?_⟩
    rw[jw,if_neg (by simpa using hc)]
    exact o3
 ·have he:i=es.length:=by
   have:¬ i<es.length:=of_decide_eq_false hge
   omega
  subst he
  exact hQ dv M3 o3 k3
def zI (x:aD) : Prop:=0≤x.1.1∧x.1.1<16∧x.1.2<2 ^ 64∧x.2.1.length≤600∧x.2.2.1.length≤600∧x.2.2.2.length≤600
theorem U6 (l:List aD) (x:aD) : (Ik l x).Perm (x :: l):=by
 unfold Ik
 refine List.perm_middle.trans ?_
 rw[List.take_append_drop]
theorem ame {α:Type} {p:α→Bool} (l:List α) : l.take (l.takeWhile p).length=l.takeWhile p:=(List.prefix_iff_eq_take.1 (List.takeWhile_prefix p)).symm
theorem drop_tw {α:Type} {p:α→Bool} (l:List α) : l.drop (l.takeWhile p).length=l.dropWhile p:=by
 have h:=List.takeWhile_append_dropWhile (p:=p) (l:=l)
 have:l.drop (l.takeWhile p).length=(l.takeWhile p++l.dropWhile p).drop (l.takeWhile p).length:=by rw[h]
 rw[this,List.drop_left]
theorem Z8 {x:aD} : ∀ {l:List aD},AP l→∀ y∈l.dropWhile (fun z=>gQ z x),gQ y x=false
 | [],_,y,hy=>by simp at hy
 | z :: r,h,y,hy=>by
   have h:=List.pairwise_cons.1 h
   by_cases hz:gQ z x=true
   ·rw[List.dropWhile_cons_of_pos (p:=fun z=>gQ z x) hz] at hy
    exact Z8 h.2 y hy
   ·rw[List.dropWhile_cons_of_neg (p:=fun z=>gQ z x) hz] at hy
    have hz:gQ z x=false:=by simpa using hz
    rcases List.mem_cons.1 hy with rfl | hy
    ·exact hz
    ·exact jN.ntrans _ _ _ (h.1 y hy) hz
theorem abu {α:Type} {p:α→Bool} : ∀ {l:List α},∀ y∈l.takeWhile p,p y=true
 | [],y,hy=>by simp at hy
 | z :: r,y,hy=>by
   by_cases hz:p z=true
   ·rw[List.takeWhile_cons_of_pos hz] at hy
    rcases List.mem_cons.1 hy with rfl | hy
    ·exact hz
    ·exact abu y hy
   ·rw[List.takeWhile_cons_of_neg hz] at hy
    simp at hy
theorem alH {l:List aD} (h:AP l) (x:aD) : AP (Ik l x):=by
 unfold Ik atE AP
 have h':=h
 rw[← List.takeWhile_append_dropWhile (p:=fun y=>gQ y x) (l:=l)] at h'
 unfold AP at h'
 rw[List.pairwise_append] at h'
 rw[ame,drop_tw,List.pairwise_append]
 refine⟨h'.1,List.pairwise_cons.2 ⟨Z8 h,h'.2.1⟩,fun a ha b hb=>?_⟩
 rcases List.mem_cons.1 hb with rfl | hb
 ·have ha:=abu a ha
  cases hx:gQ b a with
  | false=>rfl
  | true =>
    have:=jN.trans _ _ _ ha hx
    rw[jN.irrefl] at this; cases this
 ·exact h'.2.2 a ha b hb
theorem Kw {l:List Ev} {e:Ev} {i:Nat} : ∀ {n:Nat},zF l e i n=true↔e.1.2.1=1∧∀ k<n,∀ f,l[k]?=some f→e.1.1 ∉ f.2∧¬ (k<i∧f.1.1=e.1.1)
 | 0=>by simp[zF]
 | n + 1=>by
   rw[zF,Bool.and_eq_true,Kw (n:=n)]
   constructor
   ·rintro⟨⟨h1,h2⟩,h3⟩
    refine⟨h1,fun k hk f hf=>?_⟩
    rcases Nat.lt_or_ge k n with h | h
    ·exact h2 k h f hf
    ·have:k=n:=by omega
     subst this
     rw[hf] at h3
     simp only[Vs,Bool.and_eq_true,Bool.not_eq_true',decide_eq_false_iff_not,Bool.and_eq_false_iff] at h3
     refine⟨h3.1,fun hh=>?_⟩
     rcases h3.2 with h4 | h4
     ·exact h4 hh.1
     ·exact h4 hh.2
   ·rintro⟨h1,h2⟩
    refine⟨⟨h1,fun k hk f hf=>h2 k (by omega) f hf⟩, ?_⟩
    cases hf:l[n]? with
    | none=>rfl
    | some f =>
      have:=h2 n (by omega) f hf
      simp only[Vs,Bool.and_eq_true,Bool.not_eq_true',decide_eq_false_iff_not,Bool.and_eq_false_iff]
      refine⟨this.1, ?_⟩
      by_cases hh:n<i
      ·exact .inr fun e=>this.2 ⟨hh,e⟩
      ·exact .inl hh
theorem Ll (l:List Ev) : ∀ i,AP (qp l i)
 | 0=>.nil
 | i + 1=>by
   rw[qp]
   split
   ·split
    ·exact alH (Ll l i) _
    ·exact Ll l i
   ·exact Ll l i
theorem OA {l:List Ev} {x:aD} : ∀ {i:Nat},x∈qp l i↔∃ k,∃ h:k<l.length,k<i∧zF l l[k] k l.length=true∧x=kD l[k].1
 | 0=>by simp[qp]
 | i + 1=>by
   have ih:=OA (l:=l) (x:=x) (i:=i)
   rw[qp]
   cases hf:l[i]? with
   | none =>
     have hi:l.length≤i:=List.getElem?_eq_none_iff.1 hf
     dsimp only
     rw[ih]
     constructor
     ·rintro⟨k,h,h1,h2⟩; exact⟨k,h,by omega,h2⟩
     ·rintro⟨k,h,h1,h2⟩; exact⟨k,h,by omega,h2⟩
   | some e =>
     obtain⟨hi,he⟩:=List.getElem?_eq_some_iff.1 hf
     subst he
     dsimp only
     by_cases hl:zF l l[i] i l.length=true
     ·rw[if_pos hl,(U6 _ _).mem_iff,List.mem_cons,ih]
      constructor
      ·rintro(h | ⟨k,h,h1,h2⟩)
       ·exact⟨i,hi,by omega,hl,h⟩
       ·exact⟨k,h,by omega,h2⟩
      ·rintro⟨k,h,h1,h2,h3⟩
       rcases Nat.lt_or_ge k i with hk | hk
       ·exact .inr ⟨k,h,hk,h2,h3⟩
       ·have:k=i:=by omega
        subst this; exact .inl h3
     ·rw[if_neg hl,ih]
      constructor
      ·rintro⟨k,h,h1,h2⟩; exact⟨k,h,by omega,h2⟩
      ·rintro⟨k,h,h1,h2⟩
       rcases Nat.lt_or_ge k i with hk | hk
       ·exact⟨k,h,hk,h2⟩
       ·have:k=i:=by omega
        subst this; exact absurd h2.1 hl
theorem ZO {l:List Ev} (h1:l.Pairwise fun x y=>x.1.1≠y.1.1) : ∀ i,(qp l i).Pairwise fun x y=>x.1≠y.1
 | 0=>.nil
 | i + 1=>by
   have ih:=ZO h1 i
   rw[qp]
   cases hf:l[i]? with
   | none=>exact ih
   | some e =>
     obtain⟨hi,he⟩:=List.getElem?_eq_some_iff.1 hf
     subst he
     dsimp only
     split
     ·refine(U6 _ _).symm.pairwise (List.pairwise_cons.2 ⟨fun y hy=>?_,ih⟩) (fun {a b} hab e=>hab e.symm)
      obtain⟨k,h,hk,_,rfl⟩:=OA.1 hy
      exact fun e=>List.pairwise_iff_getElem.1 h1 k i h hi hk e.symm
     ·exact ih
theorem ak2 {l:List Ev} {s:AQ} (h:Ch l s) (h1:l.Pairwise fun x y=>x.1.1≠y.1.1) : qp l l.length=s.2 :=
 agR (Ll _ _) h.up (ZO h1 _) h.one fun x=>by
  rw[OA,h.Ip]
  constructor
  ·rintro⟨k,hk,_,hl,rfl⟩
   obtain⟨g1,g2⟩:=Kw.1 hl
   refine⟨l[k],List.getElem_mem hk,g1,rfl,fun f hf=>?_⟩
   obtain⟨j,hj,rfl⟩:=List.getElem_of_mem hf
   exact(g2 j hj _ (List.getElem?_eq_getElem hj)).1
  ·rintro⟨e,he,g1,rfl,g3⟩
   obtain⟨k,hk,rfl⟩:=List.getElem_of_mem he
   refine⟨k,hk,hk,Kw.2 ⟨g1,fun j hj f hf=>?_⟩,rfl⟩
   obtain⟨hj',rfl⟩:=List.getElem?_eq_some_iff.1 hf
   exact⟨g3 _ (List.getElem_mem hj'),fun⟨hjk,e⟩=>List.pairwise_iff_getElem.1 h1 j k hj' hk hjk e⟩
section
variable {α:Type} {E:Enc α}
theorem abQ {x:AV} {y:α} {j:Nat} (hj:j<E.size) : ∀ {xs:List α} {i:Nat} (hi:i<xs.length),E.cells y=(E.cells xs[i]).set j x→(E.row xs).set (i * E.size + j) x=E.row (xs.set i y)
 | [],i,hi,_=>by simp at hi
 | a :: r,0,_,h=>by
   rw[Nat.zero_mul,Nat.zero_add,Enc.iT,List.set_cons_zero,Enc.iT,List.set_append_left _ _ (by rw[E.len]; exact hj),h]; rfl
 | a :: r,i + 1,hi,h=>by
   rw[Enc.iT,List.set_cons_succ,Enc.iT,List.set_append_right _ _ (by rw[E.len,Nat.succ_mul]; omega),E.len,
    show(i + 1) * E.size + j - E.size=i * E.size + j by rw[Nat.succ_mul]; omega,abQ hj (by simpa using hi) (by simpa using h)]
theorem afP {M:RM} {base T:Nat} {v:AV} {xs:List α} (ho:Ow E M base T v xs) {i j:Nat} (hi:i<xs.length) (hj:j<E.size) {x:AV} {y:α} (hc:x.cells=[x]) (h1:oneCell x=true) (hy:E.cells y=(E.cells xs[i]).set j x) :
  ∃ b o,base≤b∧b<M.next∧(∀ (kd:IntKind) (K:AV→Prop),ah v (N kd (i:Int)) E.size K=K (.ptr b o))∧∀ K:RM→Prop,(∀ M',Ow E M' base T v (xs.set i y)→ag [b] M M'→K M')→aF M (.ptr b (o + j)) x 1 K:=by
 have hl:=E.eH xs
 have hp:=abQ hj hi hy
 have ho' : Own M base T E.size v (E.row xs) xs.length:=ho
 clear hy ho
 generalize hcs:E.row xs=cs at *
 generalize hn:xs.length=n at *
 cases ho' with
 | nil=>omega
 | ex0=>omega
 | op b n cs hb hlt hh hln =>
   have hlt2:i * E.size + j<cs.length:=by
    rw[hln]
    have:(i + 1) * E.size≤n * E.size:=Nat.mul_le_mul_right _ hi
    rw[Nat.succ_mul] at this; omega
   refine⟨b,i * E.size,hb,hlt,fun kd K=>?_,fun K hK=>?_⟩
   ·rw[ma]
    apply propext
    constructor
    ·rintro⟨_,_,h⟩; simpa using h
    ·intro h; exact⟨by omega,by omega,by simpa using h⟩
   ·rw[gY hh hlt2 hc h1,hp]
    refine hK _ ?_ ((ag.refl [b] M).put _ (.inr (by simp)))
    show Own _ base T E.size _ (E.row (xs.set i y)) (xs.set i y).length
    rw[List.length_set,hn]
    exact .op b n _ hb (by rw[jV]; exact hlt) (aU _) (by rw[Enc.eH,List.length_set,hn])
end
theorem Zj {e:qI} {ks:List aH} (h:eG e ks=true) : zI (kD e):=by
 have h0:=h
 simp only[eG,Bool.and_eq_true,names,decide_eq_true_eq] at h
 obtain⟨⟨⟨⟨h1,⟨⟨h2,h3⟩,h4⟩,h5⟩,_⟩,_⟩,_⟩:=h
 have hd:=OX h1
 refine⟨hd.1,hd.2.1,by show e.1.2<_; omega, ?_, ?_, ?_⟩ <;> (simp only[kD]; omega)
structure YQ (l:List Ev) (ps:List Pt) (es:List aD) : Prop where
 ch:Ch l (ps,es)
 one:l.Pairwise fun x y=>x.1.1≠y.1.1
 good:∀ e∈l,eG e.1 e.2=true
 len:l.length≤60
section
variable {l:List Ev} {ps:List Pt} {es:List aD}
theorem YQ.Ip (h:YQ l ps es) : qp l l.length=es:=ak2 h.ch h.one
theorem YQ.few (h:YQ l ps es) : es.length≤60:=Nat.le_trans (h.ch.len (m:=l) fun e he=>he) h.len
theorem YQ.ok (h:YQ l ps es) : ∀ x∈es,zI x:=fun x hx=>by
 obtain⟨e,he,_,rfl,_⟩:=(h.ch.Ip x).1 hx
 exact Zj (h.good e he)
end
end Go.Ab.Crw
namespace Go.Ab.Crw.Viw
open Go Go.Ab Go.Ab.aH Go.Ab.Crw
theorem Gp {α:Type} {P:List α→Prop} (h0:P []) (h1:∀ l x,P l→P (l++[x])) : ∀ l,P l:=fun l=>by
 rw[← List.reverse_reverse l]
 induction l.reverse with
 | nil=>exact h0
 | cons x r ih=>rw[List.reverse_cons]; exact h1 _ _ ih
theorem wU {α:Type} {l:List α} {z:α} (h:l.getLast?=some z) : ∃ i,l=i++[z]:=List.getLast?_eq_some_iff.1 h
def rQ (es:List aD) : Prop:=es.Pairwise fun x y=>gQ x y=true
theorem aoS {es:List aD} (h:AP es) (h1:es.Pairwise fun x y=>x.1≠y.1) : rQ es:=by
 refine(List.pairwise_and_iff.2 ⟨h,h1⟩).imp fun {x y} ⟨a,b⟩=>?_
 cases hc:gQ x y with
 | true=>rfl
 | false =>
   have:=abM hc a
   simp only[keq,decide_eq_true_eq] at this
   exact absurd this.2.2 b
def dS (x y:aD) : Bool:=decide (x.2.1=y.2.1) && decide (x.2.2.1=y.2.2.1)
theorem lF {x y:aD} : dS x y=true↔x.2.1=y.2.1∧x.2.2.1=y.2.2.1:=by simp[dS]
theorem Ib (x:aD) : dS x x=true:=lF.2 ⟨rfl,rfl⟩
theorem GQ (x y:aD) : dS x y=dS y x:=by simp only[dS,eq_comm]
theorem sZ {x y:aD} (h:dS x y=true) : dS x=dS y:=by
 obtain⟨a,b⟩:=lF.1 h
 funext z; simp only[dS,a,b]
theorem JA {x y:aD} (h:gQ x y=true) : x.2.1<y.2.1∨(x.2.1=y.2.1∧(x.2.2.1<y.2.2.1∨(x.2.2.1=y.2.2.1∧lY x.1 y.1=true))):=by
 by_cases h1:x.2.1=y.2.1
 ·by_cases h2:x.2.2.1=y.2.2.1
  ·rw[adV h1 h2] at h; exact .inr ⟨h1,.inr ⟨h2,h⟩⟩
  ·rw[aks h1 h2,decide_eq_true_eq] at h; exact .inr ⟨h1,.inl h⟩
 ·rw[akB h1,decide_eq_true_eq] at h; exact .inl h
theorem alR {y z x:aD} (h:y=z∨gQ y z=true) (h2:gQ z x=true) (h3:dS y x=true) : dS z x=true:=by
 rcases h with rfl | h
 ·exact h3
 ·obtain⟨a,b⟩:=lF.1 h3
  have h4:=JA h
  have h5:=JA h2
  rcases h4 with h4 | ⟨h4,h6⟩
  ·rw[a] at h4
   rcases h5 with h5 | ⟨h5,_⟩
   ·exact absurd (List.lt_trans h4 h5) (List.lt_irrefl _)
   ·rw[h5] at h4; exact absurd h4 (List.lt_irrefl _)
  ·have hc:z.2.1=x.2.1:=h4.symm.trans a
   rcases h5 with h5 | ⟨_,h7⟩
   ·rw[hc] at h5; exact absurd h5 (List.lt_irrefl _)
   ·rcases h6 with h6 | ⟨h6,_⟩
    ·rw[b] at h6
     rcases h7 with h7 | ⟨h7,_⟩
     ·exact absurd (List.lt_trans h6 h7) (List.lt_irrefl _)
     ·rw[h7] at h6; exact absurd h6 (List.lt_irrefl _)
    ·exact lF.2 ⟨hc,h6.symm.trans b⟩
def vY (es:List aD) (x:aD) : Bool:=match es.getLast? with
 | none=>true
 | some y=>!dS y x
def OW (acc:List (List aD)) (n:Bool) (x:aD) : List (List aD):=if n then acc++[[x]] else acc.dropLast++[acc.getLast?.getD []++[x]]
def ab3 (p:List aD × List (List aD)) (x:aD) : List aD × List (List aD):=(p.1++[x],OW p.2 (vY p.1 x) x)
def dF (es:List aD) : List (List aD):=(es.foldl ab3 ([],[])).2
theorem WZ:∀ (es:List aD) (p:List aD × List (List aD)),(es.foldl ab3 p).1=p.1++es
 | [],p=>by simp
 | x :: es,p=>by rw[List.foldl_cons,WZ es]; simp[ab3]
theorem OP:dF []=[]:=rfl
theorem zX (es:List aD) (x:aD) : dF (es++[x])=OW (dF es) (vY es x) x:=by
 rw[dF,List.foldl_append,List.foldl_cons,List.foldl_nil,ab3,WZ]; rfl
structure GI (es:List aD) : Prop where
 ne:∀ g∈dF es,g≠[]
 flat:(dF es).flatten=es
 all:∀ g∈dF es,∀ x∈g,g=es.filter (dS x)
theorem aal {l:List aD} {x:aD} (hs:rQ (l++[x])) (hn:vY l x=true) : ∀ y∈l,dS y x=false:=by
 obtain⟨hl,_,hx⟩:=List.pairwise_append.1 hs
 intro y hy
 cases hz:l.getLast? with
 | none=>rw[List.getLast?_eq_none_iff] at hz; rw[hz] at hy; cases hy
 | some z =>
   rw[vY,hz] at hn
   have hn:dS z x=false:=by simpa using hn
   cases h:dS y x with
   | false=>rfl
   | true =>
     obtain⟨i,rfl⟩:=wU hz
     have hyz:y=z∨gQ y z=true:=by
      rcases List.mem_append.1 hy with hy | hy
      ·exact .inr ((List.pairwise_append.1 hl).2.2 y hy z (by simp))
      ·exact .inl (by simpa using hy)
     rw[alR hyz (hx z (by simp) x (by simp)) h] at hn
     cases hn
theorem YF {es:List aD} (h:GI es) {z:aD} (hz:es.getLast?=some z) : ∃ i g,dF es=i++[g]∧z∈g:=by
 cases hg:(dF es).getLast? with
 | none =>
   rw[List.getLast?_eq_none_iff] at hg
   have:=h.flat
   rw[hg] at this
   rw[← this] at hz; cases hz
 | some g =>
   obtain⟨i,e⟩:=wU hg
   refine⟨i,g,e, ?_⟩
   have hne:=h.ne g (by rw[e]; simp)
   have hf:=h.flat
   rw[e,List.flatten_append] at hf
   have:es.getLast?=g.getLast?:=by
    rw[← hf]
    simp only[List.flatten_cons,List.flatten_nil,List.append_nil]
    rw[List.getLast?_append]
    cases hgl:g.getLast? with
    | none=>rw[List.getLast?_eq_none_iff] at hgl; exact absurd hgl hne
    | some w=>rfl
   rw[hz] at this
   exact List.mem_of_getLast? this.symm
theorem Aa:∀ (es:List aD),rQ es→GI es:=by
 refine Gp (fun _=>⟨by simp[OP],rfl,by simp[OP]⟩) fun l x ih hs=>?_
 obtain⟨hl,_,hx⟩:=List.pairwise_append.1 hs
 have h:=ih hl
 have hsub:∀ g∈dF l,∀ y∈g,y∈l:=fun g hg y hy=>by
  rw[← h.flat]; exact List.mem_flatten.2 ⟨g,hg,hy⟩
 cases hn:vY l x with
 | true =>
   have hno:=aal hs hn
   have e:dF (l++[x])=dF l++[[x]]:=by rw[zX,hn]; rfl
   refine⟨?_, ?_, ?_⟩
   ·intro g hg
    rw[e] at hg
    rcases List.mem_append.1 hg with hg | hg
    ·exact h.ne g hg
    ·simp at hg; subst hg; simp
   ·rw[e,List.flatten_append,h.flat]; simp
   ·intro g hg y hy
    rw[e] at hg
    rw[List.filter_append]
    rcases List.mem_append.1 hg with hg | hg
    ·rw[← h.all g hg y hy]
     simp[hno y (hsub g hg y hy)]
    ·simp at hg; subst hg
     simp at hy; subst hy
     have:l.filter (dS y)=[]:=List.filter_eq_nil_iff.2 fun z hz=>by rw[GQ,hno z hz]; simp
     rw[this]; simp[Ib]
 | false =>
   cases hz:l.getLast? with
   | none=>rw[vY,hz] at hn; cases hn
   | some z =>
     have hzx:dS z x=true:=by rw[vY,hz] at hn; simpa using hn
     obtain⟨i,g,e,hzg⟩:=YF h hz
     have hgl:=h.all g (by rw[e]; simp) z hzg
     have e2:dF (l++[x])=i++[g++[x]]:=by
      rw[zX,hn,e]
      simp[OW]
     refine⟨?_, ?_, ?_⟩
     ·intro k hk
      rw[e2] at hk
      rcases List.mem_append.1 hk with hk | hk
      ·exact h.ne k (by rw[e]; exact List.mem_append_left _ hk)
      ·simp at hk; subst hk; simp
     ·have hf:=h.flat
      rw[e,List.flatten_append] at hf
      rw[e2,List.flatten_append]
      conv=>rhs; rw[← hf]
      simp
     ·intro k hk y hy
      rw[e2] at hk
      rw[List.filter_append]
      rcases List.mem_append.1 hk with hk | hk
      ·have hkl:k∈dF l:=by rw[e]; exact List.mem_append_left _ hk
       have hka:=h.all k hkl y hy
       have hyx:dS y x=false:=by
        cases hc:dS y x with
        | false=>rfl
        | true =>
          exfalso
          have hyz:dS y=dS z:=by rw[sZ hc,← sZ hzx]
          have hf:=h.flat
          rw[e,List.flatten_append] at hf
          have hkg:k=g:=by rw[hka,hgl,hyz]
          have hlen:(l.filter (dS z)).length=g.length:=by rw[← hgl]
          rw[← hf,List.filter_append,List.length_append] at hlen
          have hgg:([g].flatten.filter (dS z)).length=g.length:=by
           simp only[List.flatten_cons,List.flatten_nil,List.append_nil]
           rw[hgl,List.filter_filter]; simp
          have hy2:y∈i.flatten.filter (dS z):=List.mem_filter.2 ⟨List.mem_flatten.2 ⟨k,hk,hy⟩,by rw[← hyz]; exact Ib y⟩
          have:=List.length_pos_of_mem hy2
          omega
       rw[← hka]; simp[hyx]
      ·simp at hk; subst hk
       have hyz:dS y=dS z:=by
        rcases List.mem_append.1 hy with hy | hy
        ·rw[hgl] at hy
         exact(sZ (List.mem_filter.1 hy).2).symm
        ·simp at hy; subst hy; exact(sZ hzx).symm
       rw[hyz,← hgl]; simp[hzx]
def jP (b:aD) : List aD→aD
 | []=>b
 | x :: xs=>jP (if lY b.1 x.1 then x else b) xs
def qF:List aD→aD × Bool
 | []=>(((0,0),([],[],[])),false)
 | x :: xs=>(jP x (x :: xs),true)
theorem Q9 (b:aD) : ∀ (xs ys:List aD),jP b (xs++ys)=jP (jP b xs) ys
 | [],ys=>rfl
 | x :: xs,ys=>by simp only[List.cons_append,jP]; exact Q9 _ xs ys
theorem Dk (x:aH) : lY x x=false:=by simp[lY]
theorem Z5:∀ (xs:List aD) (b:aD),((b :: xs).Pairwise fun x y=>lY x.1 y.1=true)→jP b xs=(b :: xs).getLast (by simp)
 | [],b,_=>rfl
 | x :: xs,b,h=>by
   have h1:=List.pairwise_cons.1 h
   rw[jP,if_pos (h1.1 x (by simp)),Z5 xs x h1.2]
   simp
theorem afN {g:List aD} {x:aD} (h:(g++[x]).Pairwise fun x y=>lY x.1 y.1=true) : qF (g++[x])=(x,true):=by
 cases g with
 | nil=>simp[qF,jP,Dk]
 | cons a r =>
   show((jP a (a :: (r++[x]))),true)=_
   rw[jP,if_neg (by rw[Dk]; simp),Z5 (r++[x]) a h]
   have:∀ (l:List aD) (hne:l≠[]),l=(a :: r)++[x]→l.getLast hne=x:=fun l hne e=>by subst e; exact List.getLast_concat
   exact congrArg (·,true) (this _ _ rfl)
theorem Us:∀ (xs:List aD) (b:aD),jP b xs=b∨jP b xs∈xs
 | [],b=>.inl rfl
 | x :: xs,b=>by
   rw[jP]
   rcases Us xs (if lY b.1 x.1 then x else b) with h | h
   ·rw[h]
    split
    ·exact .inr (by simp)
    ·exact .inl rfl
   ·exact .inr (List.mem_cons_of_mem _ h)
theorem CS {g:List aD} (h:g≠[]) : (qF g).1∈g:=by
 cases g with
 | nil=>exact absurd rfl h
 | cons a r =>
   show jP a (a :: r)∈_
   rcases Us (a :: r) a with h | h
   ·rw[h]; simp
   ·exact h
def Ub (acc:List (List UInt8)) (x:aD) : List (List UInt8):=if x.2.2.2∈acc then acc else acc++[x.2.2.2]
def kE (g:List aD) : List (List UInt8):=g.foldl Ub []
theorem H7 (g:List aD) (x:aD) : kE (g++[x])=Ub (kE g) x:=by rw[kE,List.foldl_append]; rfl
theorem aff (v:List UInt8) : ∀ g:List aD,v∈kE g↔∃ x∈g,x.2.2.2=v:=by
 refine Gp (by simp[kE]) fun g x ih=>?_
 rw[H7,Ub]
 split
 ·rename_i h
  rw[ih]
  constructor
  ·rintro⟨y,hy,rfl⟩; exact⟨y,List.mem_append_left _ hy,rfl⟩
  ·rintro⟨y,hy,rfl⟩
   rcases List.mem_append.1 hy with hy | hy
   ·exact⟨y,hy,rfl⟩
   ·simp at hy; subst hy; exact ih.1 h
 ·rw[List.mem_append,ih,List.mem_singleton]
  constructor
  ·rintro(⟨y,hy,rfl⟩ | rfl)
   ·exact⟨y,List.mem_append_left _ hy,rfl⟩
   ·exact⟨x,by simp,rfl⟩
  ·rintro⟨y,hy,rfl⟩
   rcases List.mem_append.1 hy with hy | hy
   ·exact .inl ⟨y,hy,rfl⟩
   ·simp at hy; subst hy; exact .inr rfl
abbrev rP:=List UInt8 × (List UInt8 × Nat)
def shown (g:List aD) : rP:=((qF g).1.2.2.1,((qF g).1.2.2.2,(kE g).length))
def zw (c:List UInt8) (x y:aD) : Bool:=decide (y.2.1=c) && (decide (y.2.2.1=x.2.2.1) && decide (y.2.2.2=x.2.2.2))
def wY (es:List aD) (c:List UInt8) (x:aD) : Nat:=if es.any (zw c x) then 0 else 1
def E5 (acc:List rP) (x:aD) (u:Nat) : List rP:=match acc.getLast? with
 | some p=>if p.1=x.2.2.1 then acc.dropLast++[(p.1,(x.2.2.2,p.2.2 + u))] else acc++[(x.2.2.1,(x.2.2.2,u))]
 | none=>acc++[(x.2.2.1,(x.2.2.2,u))]
def ad1 (c:List UInt8) (p:List aD × List rP) (x:aD) : List aD × List rP:=(p.1++[x],if x.2.1=c then E5 p.2 x (wY p.1 c x) else p.2)
def jD (es:List aD) (c:List UInt8) : List rP:=(es.foldl (ad1 c) ([],[])).2
theorem Zy (c:List UInt8) : ∀ (es:List aD) (p:List aD × List rP),(es.foldl (ad1 c) p).1=p.1++es
 | [],p=>by simp
 | x :: es,p=>by rw[List.foldl_cons,Zy c es]; simp[ad1]
theorem Ku (es:List aD) (c:List UInt8) (x:aD) : jD (es++[x]) c=if x.2.1=c then E5 (jD es c) x (wY es c x) else jD es c:=by
 rw[jD,List.foldl_append,List.foldl_cons,List.foldl_nil,ad1,Zy]; rfl
def lv (es:List aD) (c:List UInt8) : List aD:=es.filter fun x=>x.2.1 == c
def aY (es:List aD) (c:List UInt8) : List rP:=(dF (lv es c)).map shown
theorem VZ (es:List aD) (c:List UInt8) (x:aD) : lv (es++[x]) c=if x.2.1=c then lv es c++[x] else lv es c:=by
 rw[lv,List.filter_append]
 by_cases h:x.2.1=c
 ·rw[if_pos h]; simp[lv,h]
 ·rw[if_neg h]; simp[lv,h]
theorem PT {es:List aD} (h:rQ es) (c:List UInt8) : rQ (lv es c):=h.filter _
theorem aex {g:List aD} (h:rQ g) (hs:∀ x∈g,∀ y∈g,dS x y=true) : g.Pairwise fun x y=>lY x.1 y.1=true:=by
 refine List.Pairwise.imp_of_mem (fun {x y} hx hy hlt=>?_) h
 obtain⟨a,b⟩:=lF.1 (hs x hx y hy)
 rw[adV a b] at hlt; exact hlt
theorem I5 {α β:Type} (f:α→β) (i:List α) (g:α) : ((i++[g]).map f).getLast?=some (f g):=by simp
theorem Bv (c:List UInt8) : ∀ (es:List aD),rQ es→jD es c=aY es c:=by
 refine Gp (fun _=>rfl) fun l x ih hs=>?_
 obtain⟨hl,_,hx⟩:=List.pairwise_append.1 hs
 have h:=ih hl
 rw[Ku,aY,VZ]
 by_cases hc:x.2.1=c
 ·rw[if_pos hc,if_pos hc]
  have hf:=PT hl c
  have hfs:rQ (lv l c++[x]):=by
   have:=PT hs c
   rw[VZ,if_pos hc] at this; exact this
  have hg:=Aa _ hf
  have hmem:∀ y,y∈lv l c↔y∈l∧y.2.1=c:=fun y=>by rw[lv,List.mem_filter]; simp
  have hsub:∀ g∈dF (lv l c),∀ y∈g,y∈lv l c:=fun g hg' y hy=>by
   rw[← hg.flat]; exact List.mem_flatten.2 ⟨g,hg',hy⟩
  rw[zX,h,aY]
  cases hn:vY (lv l c) x with
  | true =>
    have hno:=aal hfs hn
    have hu:wY l c x=1:=by
     rw[wY,if_neg]
     intro ha
     obtain⟨y,hy,he⟩:=List.any_eq_true.1 ha
     simp only[zw,Bool.and_eq_true,decide_eq_true_eq] at he
     have:=hno y ((hmem y).2 ⟨hy,he.1⟩)
     rw[lF.2 ⟨he.1.trans hc.symm,he.2.1⟩] at this
     cases this
    have hsx:shown [x]=(x.2.2.1,(x.2.2.2,1)):=by
     simp[shown,qF,jP,Dk,kE,Ub]
    rw[hu]
    show E5 _ _ _=((dF (lv l c))++[[x]]).map shown
    rw[List.map_append,List.map_singleton,hsx]
    cases hgl:(dF (lv l c)).getLast? with
    | none =>
      rw[List.getLast?_eq_none_iff] at hgl
      rw[hgl]; rfl
    | some g =>
      obtain⟨i,e⟩:=wU hgl
      rw[e,E5,I5]
      simp only
      rw[if_neg]
      intro he
      have hgm:g∈dF (lv l c):=by rw[e]; simp
      have hw:=hsub g hgm _ (CS (hg.ne g hgm))
      have:=hno _ hw
      rw[lF.2 ⟨((hmem _).1 hw).2.trans hc.symm,he⟩] at this
      cases this
  | false =>
    cases hz:(lv l c).getLast? with
    | none=>rw[vY,hz] at hn; cases hn
    | some z =>
      have hzx:dS z x=true:=by rw[vY,hz] at hn; simpa using hn
      obtain⟨i,g,e,hzg⟩:=YF hg hz
      have hgm:g∈dF (lv l c):=by rw[e]; simp
      have hgz:=hg.all g hgm z hzg
      have hgx:∀ y∈g,dS y x=true:=fun y hy=>by
       rw[hgz] at hy
       have:=(List.mem_filter.1 hy).2
       rw[← sZ this]; exact hzx
      have hup:(g++[x]).Pairwise fun x y=>lY x.1 y.1=true:=by
       refine aex (List.Pairwise.sublist ?_ hfs) ?_
       ·refine List.Sublist.append ?_ (List.Sublist.refl _)
        rw[hgz]; exact List.filter_sublist
       ·have hall:∀ y∈g++[x],dS y x=true:=fun y hy=>by
         rcases List.mem_append.1 hy with hy | hy
         ·exact hgx y hy
         ·simp at hy; subst hy; exact Ib _
        intro a ha b hb
        rw[sZ (hall a ha),GQ]; exact hall b hb
      have hsg:(shown g).1=x.2.2.1:=by
       have:=CS (hg.ne g hgm)
       exact(lF.1 (hgx _ this)).2
      have hu:wY l c x=if x.2.2.2∈kE g then 0 else 1:=by
       have hiff:l.any (zw c x)=true↔x.2.2.2∈kE g:=?_
       ·simp only[wY,hiff]
       rw[List.any_eq_true,aff]
       constructor
       ·rintro⟨y,hy,he⟩
        simp only[zw,Bool.and_eq_true,decide_eq_true_eq] at he
        refine⟨y, ?_,he.2.2⟩
        rw[hgz]
        refine List.mem_filter.2 ⟨(hmem y).2 ⟨hy,he.1⟩, ?_⟩
        rw[sZ hzx,GQ]
        exact lF.2 ⟨he.1.trans hc.symm,he.2.1⟩
       ·rintro⟨y,hy,he⟩
        have hyl:=(hmem y).1 (hsub g hgm y hy)
        exact⟨y,hyl.1,by simp[zw,hyl.2,(lF.1 (hgx y hy)).2,he]⟩
      rw[e,E5,I5]
      simp only
      rw[if_pos hsg,hu]
      simp only[OW,Bool.false_eq_true,if_false,List.map_append,List.map_singleton,List.dropLast_concat,List.getLast?_concat,Option.getD_some]
      have:shown (g++[x])=(x.2.2.1,(x.2.2.2,(kE g).length + if x.2.2.2∈kE g then 0 else 1)):=by
       rw[shown,afN hup,H7,Ub]
       split <;> simp
      rw[this,hsg]
      rfl
 ·rw[if_neg hc,if_neg hc,h,aY]
theorem acm (x:aD) : gQ x x=false:=jN.irrefl x
theorem ag4 {es:List aD} (hs:rQ es) : (dF es).Pairwise fun g h=>∀ x∈g,∀ y∈h,gQ x y=true∧dS x y=false:=by
 have hg:=Aa es hs
 have hp:rQ (dF es).flatten:=by rw[hg.flat]; exact hs
 have h2:=(List.pairwise_flatten.1 hp).2
 refine List.Pairwise.imp_of_mem (fun {g h} hgm hhm hlt x hx y hy=>⟨hlt x hx y hy, ?_⟩) h2
 cases hc:dS x y with
 | false=>rfl
 | true =>
   have hyg:y∈g:=by
    rw[hg.all g hgm x hx]
    refine List.mem_filter.2 ⟨?_,hc⟩
    rw[← hg.flat]; exact List.mem_flatten.2 ⟨h,hhm,hy⟩
   have:=hlt y hyg y hy
   rw[acm] at this; cases this
theorem Sr {es:List aD} (hs:rQ es) {g:List aD} (hg:g∈dF es) {x:aD} (hx:x∈g) : x∈es:=by
 rw[← (Aa es hs).flat]; exact List.mem_flatten.2 ⟨g,hg,hx⟩
theorem Ry {es:List aD} {c:List UInt8} {x:aD} : x∈lv es c↔x∈es∧x.2.1=c:=by rw[lv,List.mem_filter]; simp
theorem aiL {es:List aD} (hs:rQ es) (c:List UInt8) : (aY es c).Pairwise fun p q=>p.1<q.1:=by
 have hf:=PT hs c
 have hg:=Aa _ hf
 rw[aY,List.pairwise_map]
 refine List.Pairwise.imp_of_mem (fun {g h} hgm hhm hlt=>?_) (ag4 hf)
 have hx:=CS (hg.ne g hgm)
 have hy:=CS (hg.ne h hhm)
 obtain⟨h1,h2⟩:=hlt _ hx _ hy
 have hc:(qF g).1.2.1=(qF h).1.2.1:=(Ry.1 (Sr hf hgm hx)).2.trans (Ry.1 (Sr hf hhm hy)).2.symm
 show(qF g).1.2.2.1<(qF h).1.2.2.1
 rcases JA h1 with h3 | ⟨_,h3 | ⟨h3,_⟩⟩
 ·rw[hc] at h3; exact absurd h3 (List.lt_irrefl _)
 ·exact h3
 ·rw[lF.2 ⟨hc,h3⟩] at h2; cases h2
def AR:List UInt8:=[102,110]
def lastT (c:List UInt8) (fs:List rP) : List UInt8:=fs.foldl (fun t f=>if f.1=AR then f.2.1 else t) c
def firstT (c:List UInt8) : List rP→List UInt8
 | []=>c
 | f :: fs=>if f.1=AR then f.2.1 else firstT c fs
theorem QN:∀ {fs:List rP} {c:List UInt8},(∀ f∈fs,f.1≠AR)→lastT c fs=c
 | [],c,_=>rfl
 | f :: fs,c,h=>by
   rw[lastT,List.foldl_cons,if_neg (h f (by simp))]
   exact QN fun g hg=>h g (List.mem_cons_of_mem _ hg)
theorem Uq:∀ {fs:List rP} {c:List UInt8},(fs.Pairwise fun p q=>p.1<q.1)→lastT c fs=firstT c fs
 | [],c,_=>rfl
 | f :: fs,c,h=>by
   obtain⟨h1,h2⟩:=List.pairwise_cons.1 h
   rw[lastT,List.foldl_cons,firstT]
   by_cases he:f.1=AR
   ·rw[if_pos he,if_pos he]
    refine QN fun g hg hh=>?_
    have:=h1 g hg
    rw[he,hh] at this; exact List.lt_irrefl _ this
   ·rw[if_neg he,if_neg he]
    exact Uq h2
def RZ (acc:List (List UInt8)) (x:aD) : List (List UInt8):=if acc.getLast?=some x.2.1 then acc else acc++[x.2.1]
def bV (es:List aD) : List (List UInt8):=es.foldl RZ []
theorem Ir (es:List aD) (x:aD) : bV (es++[x])=RZ (bV es) x:=by rw[bV,List.foldl_append]; rfl
theorem abV (es:List aD) : ∀ {i:Nat},i≤es.length→jw es i=bV (es.take i)
 | 0,_=>by simp[jw,bV]
 | i + 1,h=>by
   have ih:=abV es (i:=i) (by omega)
   rw[List.take_succ_eq_append_getElem (by omega),Ir,← ih,jw,RZ,← HV (es:=es) (i:=i) (by omega)]
   cases i with
   | zero=>simp[jw]
   | succ j =>
     rw[Dv]
     simp only[Nat.succ_ne_zero,false_or,Nat.add_sub_cancel,Option.some.injEq]
     by_cases hh:nm es j=nm es (j + 1) <;> simp[hh]
theorem Dm (es:List aD) : jw es es.length=bV es:=by rw[abV es (Nat.le_refl _),List.take_length]
theorem agY (es:List aD) (x:aD) : (bV (es++[x])).getLast?=some x.2.1:=by
 rw[Ir,RZ]
 split
 ·assumption
 ·simp
theorem Rn (c:List UInt8) : ∀ es:List aD,c∈bV es↔∃ x∈es,x.2.1=c:=by
 refine Gp (by simp[bV]) fun es x ih=>?_
 rw[Ir,RZ]
 split
 ·rename_i h
  rw[ih]
  constructor
  ·rintro⟨y,hy,rfl⟩; exact⟨y,List.mem_append_left _ hy,rfl⟩
  ·rintro⟨y,hy,rfl⟩
   rcases List.mem_append.1 hy with hy | hy
   ·exact⟨y,hy,rfl⟩
   ·simp at hy; subst hy; exact ih.1 (List.mem_of_getLast? h)
 ·rw[List.mem_append,ih,List.mem_singleton]
  constructor
  ·rintro(⟨y,hy,rfl⟩ | rfl)
   ·exact⟨y,List.mem_append_left _ hy,rfl⟩
   ·exact⟨x,by simp,rfl⟩
  ·rintro⟨y,hy,rfl⟩
   rcases List.mem_append.1 hy with hy | hy
   ·exact .inl ⟨y,hy,rfl⟩
   ·simp at hy; subst hy; exact .inr rfl
theorem af3:∀ es:List aD,rQ es→(bV es).Pairwise fun a b=>a<b:=by
 refine Gp (fun _=>.nil) fun es x ih hs=>?_
 obtain⟨hl,_,hx⟩:=List.pairwise_append.1 hs
 rw[Ir,RZ]
 split
 ·exact ih hl
 ·rename_i hne
  refine List.pairwise_append.2 ⟨ih hl,List.pairwise_singleton _ _,fun a ha b hb=>?_⟩
  simp at hb; subst hb
  obtain⟨y,hy,rfl⟩:=(Rn a es).1 ha
  cases hz:es.getLast? with
  | none=>rw[List.getLast?_eq_none_iff] at hz; rw[hz] at hy; cases hy
  | some z =>
    obtain⟨i,rfl⟩:=wU hz
    rw[agY] at hne
    have hzx:=JA (hx z (by simp) x (by simp))
    have hlt:z.2.1<x.2.1:=by
     rcases hzx with h | ⟨h,_⟩
     ·exact h
     ·exact absurd (by rw[h]) hne
    rcases List.mem_append.1 hy with hy | hy
    ·rcases JA ((List.pairwise_append.1 hl).2.2 y hy z (by simp)) with h | ⟨h,_⟩
     ·exact List.lt_trans h hlt
     ·rw[h]; exact hlt
    ·simp at hy; subst hy; exact hlt
theorem LF (es:List aD) : (bV es).length≤es.length:=by
 rw[← Dm]; exact GG es _
def conf (es:List aD) : List aD:=((dF es).filter fun g=>decide (1<g.length)).flatten
theorem MN {α:Type} {p:List α→Bool} {q:α→Bool} : ∀ {L:List (List α)},(∀ g∈L,∀ x∈g,q x=p g)→(L.filter p).flatten=L.flatten.filter q
 | [],_=>rfl
 | g :: L,h=>by
   have ih:=MN (p:=p) (q:=q) (L:=L) fun k hk=>h k (List.mem_cons_of_mem _ hk)
   have hg:=h g (by simp)
   rw[List.flatten_cons,List.filter_append,← ih]
   cases hp:p g with
   | true =>
     have hq:g.filter q=g:=List.filter_eq_self.2 fun x hx=>by rw[hg x hx,hp]
     rw[List.filter_cons_of_pos hp,List.flatten_cons,hq]
   | false =>
     have hq:g.filter q=[]:=List.filter_eq_nil_iff.2 fun x hx=>by rw[hg x hx,hp]; simp
     rw[List.filter_cons_of_neg (by rw[hp]; simp),hq]
     rfl
theorem aiz {es:List aD} (hs:rQ es) : conf es=es.filter fun x=>decide (1<(es.filter (dS x)).length):=by
 have hg:=Aa es hs
 have:=MN (p:=fun g:List aD=>decide (1<g.length)) (q:=fun x=>decide (1<(es.filter (dS x)).length)) (L:=dF es) fun g hgm x hx=>by rw[← hg.all g hgm x hx]
 rw[hg.flat] at this
 exact this
theorem agX {es:List aD} (hs:rQ es) : (conf es).length≤es.length∧es.length≤(conf es).length + (dF es).length∧(dF es).length≤es.length:=by
 have hg:=Aa es hs
 have h1:∀ L:List (List aD),(∀ g∈L,g≠[])→((L.filter fun g=>decide (1<g.length)).flatten).length≤L.flatten.length∧L.flatten.length≤((L.filter fun g=>decide (1<g.length)).flatten).length + L.length∧L.length≤L.flatten.length:=by
  intro L
  induction L with
  | nil=>intro _; simp
  | cons g L ih =>
    intro h
    obtain⟨a,b,c⟩:=ih fun k hk=>h k (List.mem_cons_of_mem _ hk)
    have hp:=List.length_pos_iff.2 (h g (by simp))
    by_cases h2:1<g.length
    ·rw[List.filter_cons_of_pos (by simpa using h2)]
     simp only[List.flatten_cons,List.length_append,List.length_cons]
     omega
    ·rw[List.filter_cons_of_neg (by simpa using h2)]
     simp only[List.flatten_cons,List.length_append,List.length_cons]
     omega
 have:=h1 _ hg.ne
 rw[hg.flat] at this
 exact this
theorem contains_iff {s t:List UInt8} : Lib.contains s t=true↔∃ i,i + t.length≤s.length∧(s.drop i).take t.length=t:=by
 have amQ:∀ i,Lib.occAt s t i=true↔(s.drop i).take t.length=t:=fun i=>by
  rw[Lib.occAt,List.isPrefixOf_iff_prefix,List.prefix_iff_eq_take]
  exact eq_comm
 constructor
 ·intro h
  apply Classical.byContradiction
  intro hn
  have:Lib.index s t=-1:=Lib.index_none fun j hj=>by
   cases hc:Lib.occAt s t j with
   | false=>rfl
   | true =>
     have h2:=(amQ j).1 hc
     have hl:t.length≤s.length - j:=by
      have:=congrArg List.length h2
      simp at this; omega
     exact absurd ⟨j,by omega,h2⟩ hn
  rw[Lib.contains,this] at h; simp at h
 ·rintro⟨i,hi,h⟩
  cases hc:Lib.contains s t with
  | true=>rfl
  | false =>
    exfalso
    have key:∀ n (h:∃ i,i≤n∧i≤s.length∧Lib.occAt s t i=true),∃ i,i≤s.length∧Lib.occAt s t i=true∧∀ j,j<i→Lib.occAt s t j=false:=by
     intro n
     induction n with
     | zero=>rintro⟨i,h1,h2,h3⟩; exact⟨i,h2,h3,fun j hj=>by omega⟩
     | succ n ih =>
       rintro⟨i,h1,h2,h3⟩
       by_cases hb:∃ j,j≤n∧j≤s.length∧Lib.occAt s t j=true
       ·exact ih hb
       ·refine⟨i,h2,h3,fun j hj=>?_⟩
        cases hh:Lib.occAt s t j with
        | false=>rfl
        | true=>exact absurd ⟨j,by omega,by omega,hh⟩ hb
    obtain⟨k,k1,k2,k3⟩:=key i ⟨i,Nat.le_refl _,by omega,(amQ i).2 h⟩
    have:=Lib.index_first k1 k2 k3
    rw[Lib.contains,this] at hc
    simp at hc
end Go.Ab.Crw.Viw
namespace Go.Ab.Crw.Viw
open Go Go.Ab Go.Ab.aH Go.Ab.Vw
abbrev GR:uF (List aD):=uF.slice aA.Ec
structure oh (TN TS n0:Nat) (M:RM) (v:AV) (init:List (List aD)) (g:List aD) : Prop where
 ex:∃ (fs:List AV) (w:AV) (S:Nat→Prop),Own M n0 TS 1 v (fs++[w]) (init.length + 1)∧fC GR M S fs init∧Ow aA M n0 TN w g ∧
  (∀ b∈aJ w,¬ S b)∧(∀ b∈aJ v,¬ S b)∧(∀ b∈aJ v,b ∉ aJ w)∧(∀ b,S b→n0≤b∧b<M.next)
section
variable {TN TS n0:Nat} {M M' : RM} {v:AV} {init:List (List aD)} {g:List aD}
theorem oh.keep (h:oh TN TS n0 M v init g) (hk:ag [] M M') : oh TN TS n0 M' v init g:=by
 obtain⟨fs,w,S,h1,h2,h3,h4,h5,h6,h7⟩:=h.ex
 exact⟨fs,w,S,h1.keep hk (by simp),h2.keep hk (by simp),h3.keep hk (by simp),h4,h5,h6,fun b hb=>⟨(h7 b hb).1,Nat.lt_of_lt_of_le (h7 b hb).2 hk.next⟩⟩
theorem oh.slD (h:oh TN TS n0 M v init g) : iK GR M v (init++[g]) (fun b=>n0≤b∧b<M.next):=by
 obtain⟨fs,w,S,h1,h2,h3,h4,h5,h6,h7⟩:=h.ex
 refine⟨fs++[w], ?_,h1.blk,(h2.mono h7).append (fC.single ⟨w,rfl,iK.acz h3.eZ h3.blk⟩)⟩
 have:=h1.eZ
 rw[List.length_append,List.length_singleton]; exact this
theorem oh.len (h:oh TN TS n0 M v init g) {K:AV→Prop} : bu v K=K (N .i64 ((init.length + 1:Nat) : Int)):=by
 obtain⟨fs,w,S,h1,_⟩:=h.ex
 exact h1.eZ.len
theorem oh.blk (h:oh TN TS n0 M v init g) : ∀ b∈aJ v,n0≤b∧b<M.next:=by
 obtain⟨fs,w,S,h1,_⟩:=h.ex
 exact h1.blk
theorem oh.more (h:oh TN TS n0 M v init g) (hn:n0≤M.next) (hl:init.length≤50000) {K:aj}
  (hK:∀ v' M',oh TN TS n0 M' v' (init++[g]) []→ag (aJ v) M M'→K v' M') :
  appW TS 1 24 [di] false v (.slc M.next 0 1 (.ex 1)) (M.push (.row [di] false TS 0)) K:=by
 obtain⟨fs,w,S,h1,h2,h3,h4,h5,h6,h7⟩:=h.ex
 have hk:ag [] M (M.push (.row [di] false TS 0)):=(ag.refl _ _).push _
 have hnl:qy (M.push (.row [di] false TS 0)) 1 [di] false (.slc M.next 0 1 (.ex 1))=some (1,[di]):=by
  simp only[qy,Nat.one_mul]
  rw[RM.dH (RM.aT _) (by simp)]; rfl
 refine BK (h1.keep hk (by simp)) (Nat.le_trans hn hk.next) (by decide) hnl rfl rfl (by omega) (by omega) fun v' M' q1 q2 q3 q4=>?_
 have kk:ag (aJ v) M M':=(hk.mono (by simp)).trans q2
 have hvb:=h1.blk
 have hwb:=h3.blk
 have hnew:∀ b∈aJ v',b∈aJ v∨M.next≤b:=fun b hb=>by
  rcases q4 with rfl | q4
  ·exact .inl hb
  ·exact .inr (Nat.le_trans hk.next (q4 b hb))
 refine hK v' M' ⟨fs++[w],di,fun b=>S b∨b∈aJ w, ?_, ?_,.nil,by simp[aJ], ?_,by simp[aJ], ?_⟩ kk
 ·rw[List.length_append,List.length_singleton]; exact q1
 ·refine((h2.mono fun b hb=>Or.inl hb).keep kk fun b hb hs=>?_).append (fC.single ⟨w,rfl,iK.acz (aL.keep h3.eZ kk fun b hb hv=>h6 b hv hb) fun b hb=>.inr hb⟩)
  rcases hs with hs | hs
  ·exact h5 b hb hs
  ·exact h6 b hb hs
 ·rintro b hb (hs | hs)
  ·rcases hnew b hb with h | h
   ·exact h5 b h hs
   ·have:=(h7 b hs).2; omega
  ·rcases hnew b hb with h | h
   ·exact h6 b h hs
   ·have:=(hwb b hs).2; omega
 ·rintro b (hs | hs)
  ·exact⟨(h7 b hs).1,Nat.lt_of_lt_of_le (h7 b hs).2 (Nat.le_trans hk.next q3)⟩
  ·exact⟨(hwb b hs).1,Nat.lt_of_lt_of_le (hwb b hs).2 (Nat.le_trans hk.next q3)⟩
theorem oh.start (hn:n0≤M.next) {K:aj} (hK:∀ v' M',oh TN TS n0 M' v' [] []→ag [] M M'→K v' M') :
  appW TS 1 24 [di] false di (.slc M.next 0 1 (.ex 1)) (M.push (.row [di] false TS 0)) K:=by
 have hk:ag [] M (M.push (.row [di] false TS 0)):=(ag.refl _ _).push _
 have hnl:qy (M.push (.row [di] false TS 0)) 1 [di] false (.slc M.next 0 1 (.ex 1))=some (1,[di]):=by
  simp only[qy,Nat.one_mul]
  rw[RM.dH (RM.aT _) (by simp)]; rfl
 refine BK (base:=n0) (cs:=[]) (n:=0) .nil (Nat.le_trans hn hk.next) (by decide) hnl rfl rfl (by omega) (by omega) fun v' M' q1 q2 q3 q4=>?_
 refine hK v' M' ⟨[],di,fun _=>False,q1,.nil,.nil,by simp,by simp,by simp[aJ],by simp⟩ (hk.trans (q2.mono (by simp[aJ])))
theorem oh.put (h:oh TN TS n0 M v init g) (hn:n0≤M.next) (hl:init.length≤50000) (hg:g.length≤50000) {x:aD} {K:RM→Prop}
  (hK:∀ M',oh TN TS n0 M' v init (g++[x])→rf n0 [] M M'→K M') :
  ∃ b w,M.heap b≠none∧(∀ K:AV→Prop,ah v (N .i64 ((init.length:Nat) : Int)) 1 K=K (.ptr b init.length))∧(∀ K:AV→Prop,au M (.ptr b init.length) K=K w) ∧
    appW TN 5 64 [(N .i64 0),(N .u64 0),(St []),(St []),(St [])] false w (.slc M.next 0 1 (.ex 1)) (M.push (.row (aA.cells x) false TN 0)) fun w' M1=>aF M1 (.ptr b init.length) w' 1 K:=by
 obtain⟨fs,w,S,h1,h2,h3,h4,h5,h6,h7⟩:=h.ex
 obtain⟨b,rfl,hb1,hb2,hb3,hb4⟩:=Own.uO h1 (by omega)
 have hfl:fs.length=init.length:=by
  simp only[List.length_append,List.length_singleton] at hb4; omega
 refine⟨b,w,by rw[hb3]; simp,fun K=>?_,fun K=>?_, ?_⟩
 ·rw[ma]
  simp only[Int.toNat_natCast]
  rw[show 0 + init.length * 1=init.length by omega]
  exact propext ⟨fun h=>h.2.2,fun h=>⟨by omega,by omega,h⟩⟩
 ·exact az hb3 (by rw[← hfl,List.getElem?_append_right (Nat.le_refl _)]; simp)
 ·refine rE (E:=aA) (a:=x) h3 hn (by decide) (by omega) (by omega) fun w' M1 o1 k1 n1 q1=>?_
  have hbw:b ∉ aJ w:=h6 b (by simp[aJ])
  have hwb:=h3.blk
  have amE:b ∉ aJ w':=by
   rcases q1 with rfl | q1
   ·exact hbw
   ·exact fun hm=>by have:=q1 b hm; omega
  have hh:=k1.aQ hb3 hb2 hbw
  rw[sV (fs++[w']) hh (by simp; omega) o1.cells o1.one (by rw[← hfl,List.set_append_right _ _ (Nat.le_refl _)]; simp)]
  have kp:ag [b] M1 (M1.put b (.row (fs++[w']) true TS 0)):=(ag.refl _ _).put _ (.inr (by simp))
  have n2:(M1.put b (.row (fs++[w']) true TS 0)).next=M1.next:=rfl
  have hbS:¬ S b:=h5 b (by simp[aJ])
  refine hK _ ⟨fs,w',S,.op _ _ _ hb1 (by rw[n2]; omega) (aU _) (by simp; omega),(h2.keep k1 fun c hc hs=>h4 c hc hs).keep kp (by simpa using hbS),o1.keep kp (fun c hc hm=>amE (by simp at hm; subst hm; exact hc)), ?_,h5, ?_, ?_⟩ ?_
  ·intro c hc hs
   rcases q1 with rfl | q1
   ·exact h4 c hc hs
   ·have:=q1 c hc; have:=(h7 c hs).2; omega
  ·intro c hc
   simp[aJ] at hc; subst hc; exact amE
  ·exact fun c hs=>⟨(h7 c hs).1,by rw[n2]; have:=(h7 c hs).2; omega⟩
  ·exact(k1.to hn fun c hc=>.inl (hwb c hc).1).trans (rf.mk rfl (Nat.le_refl _) fun c h1 h2=>by
    simp only[RM.put]; rw[if_neg (by omega)])
end
def LH (c:ak) : Prop:=∀ {M:RM} {v:AV} {es:List aD} {Q:aj},Sl aA M v es→es.length≤50000 →
 (∀ v' M',iK GR M' v' (dF es) (fun b=>M.next≤b∧b<M'.next)→ag [] M M'→Q v' M')→c [v] M Q
theorem FV:∀ es:List aD,(dF es).length≤es.length∧∀ g∈dF es,g.length≤es.length:=by
 refine Gp (by simp[OP]) fun es x ih=>?_
 rw[zX,OW]
 obtain⟨h1,h2⟩:=ih
 split
 ·refine⟨by simp; omega,fun g hg=>?_⟩
  rcases List.mem_append.1 hg with hg | hg
  ·have:=h2 g hg; simp; omega
  ·simp at hg; subst hg; simp
 ·cases hz:(dF es).getLast? with
  | none=>rw[List.getLast?_eq_none_iff] at hz; rw[hz]; simp
  | some z =>
    obtain⟨i,e⟩:=wU hz
    rw[e] at h1 h2 ⊢
    simp only[List.dropLast_concat,List.getLast?_concat,Option.getD_some,List.length_append,List.length_singleton] at h1 ⊢
    refine⟨by omega,fun g hg=>?_⟩
    rcases List.mem_append.1 hg with hg | hg
    ·have:=h2 g (List.mem_append_left _ hg); omega
    ·simp at hg; subst hg
     have:=h2 z (by simp); simp; omega
theorem alp {es:List aD} {i:Nat} (hi:i<es.length) : vY (es.take i) es[i]=((i == 0) || (decide (nm es (i - 1)≠es[i].2.1) || decide ((es.getD (i - 1) ((0,0),([],[],[]))).2.2.1≠es[i].2.2.1))):=by
 cases i with
 | zero=>simp[vY]
 | succ j =>
   rw[List.take_succ_eq_append_getElem (by omega)]
   simp only[vY,List.getLast?_concat,Nat.add_sub_cancel]
   rw[HV (by omega),Fw (by omega),dS]
   simp
theorem aaS {TN TS:Nat} : LH fun args M Q=>∃ a0,args=[a0]∧Aj TN TS a0 M Q:=by
 intro M v es Q hv hlen hQ
 refine⟨_,rfl, ?_⟩
 unfold Aj
 simp only[gK,eu,dE,dQ,bF]
 rw[aL.len hv]
 refine aG (fun z ys M3=>∃ (i:Nat) (dv:AV),z=es.length - i∧ys=[dv,N .i64 (i:Int)]∧i≤es.length∧ag [] M M3∧((i=0∧dv=di)∨∃ init g,dF (es.take i)=init++[g]∧oh TN TS M.next M3 dv init g)) _
  ⟨0,di,rfl,rfl,Nat.zero_le _,ag.refl _ _,.inl ⟨rfl,rfl⟩⟩ ?_
 rintro next z ys M3 hnext ⟨i,dv,rfl,rfl,hil,k3,hg⟩
 dsimp only[aa]
 rw[dB]
 refine aC (fun hlt=>?_) (fun hge=>?_)
 ·have hlt:i<es.length:=of_decide_eq_true hlt
  have n3:=k3.next
  refine aP (fun zs M'=>∃ dv' init g,zs=[dv']∧ag [] M M'∧dF (es.take (i + 1))=init++[g]∧oh TN TS M.next M' dv' init g) ?_ ?_
  ·rintro zs M' ⟨dv',init,g,rfl,k',e',o'⟩
   dsimp only[aa]
   rw[add1 (by omega)]
   exact hnext _ _ _ (by omega) ⟨i + 1,dv',rfl,rfl,by omega,k',.inr ⟨init,g,e',o'⟩⟩
  intro J hJ
  rw[pg (aL.keep hv k3 (by simp)) hlt]
  have hnw:=alp hlt
  have hgs:dF (es.take (i + 1))=OW (dF (es.take i)) (vY (es.take i) es[i]) es[i]:=by
   rw[List.take_succ_eq_append_getElem hlt,zX]
  have hgl:=FV (es.take i)
  rw[List.length_take] at hgl
  generalize es[i]=x at *
  rw[bg,iw (n:=5) (x:=.agg (aA.cells x)) (l:=[(N .i64 0),(N .u64 0),(St []),(St []),(St [])]) (RM.aT _) rfl rfl (oz x)]
  have k4:ag [] M3 ((M3.push (.row [(N .i64 0),(N .u64 0),(St []),(St []),(St [])] false TN 0)).put M3.next (.row (AV.agg (aA.cells x)).cells false TN 0)):=((ag.refl _ _).push _).new _ (Nat.le_refl _)
  have h4:((M3.push (.row [(N .i64 0),(N .u64 0),(St []),(St []),(St [])] false TN 0)).put M3.next (.row (AV.agg (aA.cells x)).cells false TN 0)).heap M3.next=some (.row (aA.cells x) false TN 0):=aU _
  have hb4:M3.next<((M3.push (.row [(N .i64 0),(N .u64 0),(St []),(St []),(St [])] false TN 0)).put M3.next (.row (AV.agg (aA.cells x)).cells false TN 0)).next:=by rw[jV,wW]; omega
  have hdv:∀ c∈aJ dv,c<M3.next:=by
   rcases hg with⟨_,rfl⟩ | ⟨a,g,e,o⟩
   ·simp[aJ]
   ·exact fun c hc=>(o.blk c hc).2
  generalize (M3.push (.row [(N .i64 0),(N .u64 0),(St []),(St []),(St [])] false TN 0)).put M3.next (.row (AV.agg (aA.cells x)).cells false TN 0)=M4 at *
  generalize M3.next=b at *
  have k04:=k3.trans k4
  have v4:=aL.keep hv k04 (by simp)
  have n4:=k04.next
  have hg4:(i=0∧dv=di)∨∃ init g,dF (es.take i)=init++[g]∧oh TN TS M.next M4 dv init g:=hg.imp id fun⟨a,g,e,o⟩=>⟨a,g,e,o.keep k4⟩
  clear hg
  refine aP (fun zs M'=>∃ dv' init g,zs=[dv']∧ag [] M M'∧M'.heap b=some (.row (aA.cells x) false TN 0)∧dF (es.take (i + 1))=init++[g++[x]]∧oh TN TS M.next M' dv' init g) ?_ ?_
  ·rintro zs M' ⟨dv',init,g,rfl,k',hx',e',o'⟩
   dsimp only[aa]
   have n':=k'.next
   have aiM:=FV (es.take (i + 1))
   rw[e',List.length_take] at aiM
   have hl1:=aiM.1
   have hl2:=aiM.2 (g++[x]) (by simp)
   simp only[List.length_append,List.length_singleton] at hl1 hl2
   rw[o'.len,bz (by omega) (by omega),o'.len,bz (by omega) (by omega),Nat.add_sub_cancel]
   obtain⟨bb,w,hne,hidx,hld,happ⟩:=o'.put (x:=x) (K:=fun M5=>J [dv'] M5) n' (by omega) (by omega) fun M5 o5 k5=>hJ _ _ ⟨dv',init,g++[x],rfl,k'.alV k5 (Nat.le_refl _) (by simp),e',o5⟩
   rw[hidx,hld,eQ (n:=5) hx' rfl,mO (x:=.agg (aA.cells x)) (size:=5) rfl (oz x) rfl,qo]
   simp only[hidx]
   exact happ
  intro J2 hJ2
  rw[bL]
  refine Xy (P:=fun M'=>M'=M4) (p:=decide (nm es (i - 1)≠x.2.1)) rfl (fun hc K hK=>?_) fun M5 hM5=>?_
  ·have hi0:i≠0:=fun e=>by
    subst e; simp at hc
   rw[bz (by omega) (by omega),rF v4 (i:=i - 1) (by omega) (x:=St es[i - 1].2.1) rfl,aN,az (i:=0 + 2) (x:=St x.2.1) h4 rfl,jW]
   refine hK M4 rfl |> fun h=>?_
   rw[show(es[i - 1].2.1 != x.2.1)=decide (nm es (i - 1)≠x.2.1) by rw[HV (by omega)]; by_cases h:es[i - 1].2.1=x.2.1 <;> simp[h]]
   exact h
  subst hM5
  refine Xy (P:=fun M'=>M'=M5) (p:=decide ((es.getD (i - 1) ((0,0),([],[],[]))).2.2.1≠x.2.2.1)) rfl (fun hc K hK=>?_) fun M6 hM6=>?_
  ·have hi0:i≠0:=fun e=>by
    subst e; simp at hc
   rw[bz (by omega) (by omega),rF v4 (i:=i - 1) (by omega) (x:=St es[i - 1].2.2.1) rfl,aN,az (i:=0 + 3) (x:=St x.2.2.1) h4 rfl,jW]
   refine hK M5 rfl |> fun h=>?_
   rw[show(es[i - 1].2.2.1 != x.2.2.1)=decide ((es.getD (i - 1) ((0,0),([],[],[]))).2.2.1≠x.2.2.1) by rw[Fw (by omega)]; by_cases h:es[i - 1].2.2.1=x.2.2.1 <;> simp[h]]
   exact h
  subst hM6
  rw[show(((((i:Int) == 0)) || decide (nm es (i - 1)≠x.2.1)) || decide ((es.getD (i - 1) ((0,0),([],[],[]))).2.2.1≠x.2.2.1))=vY (es.take i) x by
   rw[hnw,Bool.or_assoc]; congr 1; cases i <;> simp; omega]
  refine aC (fun hc=>?_) (fun hc=>?_)
  ·rw[hc] at hgs
   rw[mO (x:=di) (size:=1) rfl rfl rfl,bg]
   have hgs:dF (es.take (i + 1))=dF (es.take i)++[[x]]:=hgs
   rcases hg4 with⟨h0,rfl⟩ | ⟨init,g,e,o⟩
   ·subst h0
    refine oh.start (TN:=TN) (n0:=M.next) n4 fun v' M7 o7 k7=>?_
    exact hJ2 _ _ ⟨v',[],[],rfl,k04.trans k7,k7.aQ h4 hb4 (by simp),by rw[hgs]; rfl,o7⟩
   ·rw[e] at hgl
    have hl1:=hgl.1
    simp only[List.length_append,List.length_singleton] at hl1
    refine o.more n4 (by omega) fun v' M7 o7 k7=>?_
    exact hJ2 _ _ ⟨v',init++[g],[],rfl,k04.cz k7 (fun c hc=>.inl (o.blk c hc).1),k7.aQ h4 hb4 (fun hm=>by have:=hdv _ hm; omega),by rw[hgs,e]; simp,o7⟩
  ·rw[hc] at hgs
   rcases hg4 with⟨h0,rfl⟩ | ⟨init,g,e,o⟩
   ·subst h0
    rw[hnw] at hc; simp at hc
   ·refine hJ2 _ _ ⟨dv,init,g,rfl,k04,h4, ?_,o⟩
    rw[hgs,e]; simp[OW]
 ·have he:i=es.length:=by
   have:¬ i<es.length:=of_decide_eq_false hge
   omega
  subst he
  rw[List.take_length] at hg
  rcases hg with⟨h0,rfl⟩ | ⟨init,g,e,o⟩
  ·have:es=[]:=List.length_eq_zero_iff.1 h0
   subst this
   exact hQ _ M3 ⟨[],.nil,by simp[aJ],.nil⟩ k3
  ·refine hQ _ M3 ?_ k3
   rw[e]; exact o.slD
abbrev Gs:List AV:=[(N .i64 0),(N .u64 0),(St []),(St []),(St [])]
theorem Lt {M:RM} {TN:Nat} {x:aD} {K:RM→AV→Prop} (hK:∀ M',M'.next=M.next + 1→ag [] M M'→M'.heap M.next=some (.row (aA.cells x) false TN 0)→K M' (.ptr M.next 0)) :
  bU (.row [(N .i64 0),(N .u64 0),(St []),(St []),(St [])] false TN 0) (fun b=>.ptr b 0) M fun t M1=>aF M1 t (.agg (aA.cells x)) 5 fun M2=>K M2 t:=by
 rw[bg,iw (n:=5) (x:=.agg (aA.cells x)) (l:=[(N .i64 0),(N .u64 0),(St []),(St []),(St [])]) (RM.aT _) rfl rfl (oz x)]
 exact hK _ (by rw[jV,wW]) (((ag.refl _ _).push _).new _ (Nat.le_refl _)) (aU _)
theorem PX {M:RM} {b o n e f:Nat} {l:List AV} {p:Bool} (cs:List AV) {K:AV→Prop} (h:M.heap b=some (.row l p e f)) (hl:zR (some l) o n=some cs) : aB M (.ptr b o) n K=K (.agg cs):=by
 rw[fB,RM.ZM h,hl]; simp
def O8 (c:ak) : Prop:=∀ {M:RM} {v:AV} {xs:List aD} {Q:aj},Sl aA M v xs→xs.length≤50000→(∀ M',ag [] M M'→Q (.tup [.agg (aA.cells (qF xs).1),Bo (qF xs).2]) M')→c [v] M Q
theorem WH {TN:Nat} {cl:ak} (hl:Ag cl) : O8 fun args M Q=>∃ a0,args=[a0]∧Aw TN cl a0 M Q:=by
 intro M v xs Q hv hlen hQ
 refine⟨_,rfl, ?_⟩
 unfold Aw
 rw[bg]
 simp only[gK,eu,dE,dQ,bF]
 rw[aL.len hv,bL]
 have k1:ag [] M (M.push (.row Gs false TN 0)):=(ag.refl _ _).push _
 have h1:(M.push (.row Gs false TN 0)).heap M.next=some (.row Gs false TN 0):=RM.aT _
 have n1:(M.push (.row Gs false TN 0)).next=M.next + 1:=wW _
 refine aC (fun hc=>?_) (fun hc=>?_)
 ·have:xs=[]:=by
   have:(xs.length:Int)=0:=by simpa using hc
   exact List.length_eq_zero_iff.1 (by omega)
  subst this
  rw[oH]
  refine⟨_,rfl, ?_⟩
  rw[iw (n:=5) (x:=.agg Gs) (l:=Gs) h1 rfl rfl rfl]
  rw[eQ (n:=5) (aU _) rfl]
  exact hQ _ (k1.put _ (.inl (Nat.le_refl _)))
 ·have hpos:0<xs.length:=by
   rcases Nat.eq_zero_or_pos xs.length with h | h
   ·rw[h] at hc; simp at hc
   ·exact h
  generalize M.push (.row Gs false TN 0)=M1 at *
  rw[show(N .i64 (0:Int))=N .i64 ((0:Nat) : Int) from rfl,pg (aL.keep hv k1 (by simp)) hpos]
  refine Lt fun M2 n2 k2 h2=>?_
  have h1':=k2.aQ h1 (by omega) (by simp)
  rw[aL.len (aL.keep hv (k1.trans k2) (by simp))]
  refine aG (fun z ys M3=>∃ (i:Nat),z=xs.length - i∧ys=[N .i64 (i:Int)]∧i≤xs.length∧ag [] M M3∧M.next + 2≤M3.next∧M3.heap M.next=some (.row Gs false TN 0)∧M3.heap M1.next=some (.row (aA.cells (jP xs[0] (xs.take i))) false TN 0)) _
   ⟨0,rfl,rfl,Nat.zero_le _,k1.trans k2,by omega,h1',h2⟩ ?_
  rintro next z ys M3 hnext ⟨i,rfl,rfl,hil,k3,n3,h3,h4⟩
  dsimp only[aa]
  rw[dB]
  refine aC (fun hlt=>?_) (fun hge=>?_)
  ·have hlt:i<xs.length:=of_decide_eq_true hlt
   have hb:jP xs[0] (xs.take (i + 1))=if lY (jP xs[0] (xs.take i)).1 xs[i].1 then xs[i] else jP xs[0] (xs.take i):=by
    rw[List.take_succ_eq_append_getElem hlt,Q9]; rfl
   refine aP (fun zs M'=>zs=[]∧ag [] M M'∧M.next + 2≤M'.next∧M'.heap M.next=some (.row Gs false TN 0)∧M'.heap M1.next=some (.row (aA.cells (jP xs[0] (xs.take (i + 1)))) false TN 0)) ?_ ?_
   ·rintro zs M' ⟨rfl,a1,a2,a3,a4⟩
    rw[add1 (by omega)]
    exact hnext _ _ _ (by omega) ⟨i + 1,rfl,rfl,by omega,a1,a2,a3,a4⟩
   intro J hJ
   rw[pg (aL.keep hv k3 (by simp)) hlt]
   generalize xs[i]=x at *
   generalize jP xs[0] (xs.take i)=y at *
   refine Lt fun M4 n4 k4 h5=>?_
   have h3':=k4.aQ h3 (by omega) (by simp)
   have h4':=k4.aQ h4 (by omega) (by simp)
   rw[bK,PX (aR y.1) h4' rfl,bK,PX (aR x.1) h5 rfl]
   refine hl fun M5 k5=>?_
   have n5:=k5.next
   have am7:=k5.aQ h3' (by omega) (by simp)
   have aqH:=k5.aQ h4' (by omega) (by simp)
   have h5':=k5.aQ h5 (by omega) (by simp)
   have k35:=(k3.trans k4).trans k5
   refine aC (fun hc=>?_) (fun hc=>?_)
   ·rw[eQ (n:=5) h5' rfl,iw (n:=5) (x:=.agg (aA.cells x)) aqH rfl rfl (oz x)]
    refine hJ _ _ ⟨rfl,k35.put _ (.inl (by omega)),by rw[jV]; omega,rH am7 (by omega), ?_⟩
    rw[hb,if_pos hc]; exact aU _
   ·refine hJ _ _ ⟨rfl,k35,by omega,am7, ?_⟩
    rw[hb,if_neg (by rw[hc]; simp)]; exact aqH
  ·have he:i=xs.length:=by
    have:¬ i<xs.length:=of_decide_eq_false hge
    omega
   subst he
   rw[List.take_length] at h4
   rw[eQ (n:=5) h4 rfl,iw (n:=5) (x:=.agg (aA.cells (jP xs[0] xs))) h3 rfl rfl (oz _),eQ (n:=5) (aU _) rfl]
   have hw:qF xs=(jP xs[0] xs,true):=by
    cases xs with
    | nil=>simp at hpos
    | cons a r=>rfl
   rw[hw] at hQ
   exact hQ _ (k3.put _ (.inl (Nat.le_refl _)))
def xX (k:Nat) : List (List UInt8)→List (AV × AV × Nat)
 | []=>[]
 | s :: r=>(St s,Bo true,k) :: xX (k + 1) r
theorem Uy (x:List UInt8) : ∀ (r:List (List UInt8)) (k:Nat),xX k (r++[x])=xX k r++[(St x,Bo true,k + r.length)]
 | [],k=>rfl
 | y :: r,k=>by
   simp only[List.cons_append,xX,Uy x r (k + 1),List.length_cons]
   rw[show k + 1 + r.length=k + (r.length + 1) by omega]
theorem ZT:∀ (r:List (List UInt8)) (k:Nat),(xX k r).length=r.length
 | [],k=>rfl
 | y :: r,k=>by simp[xX,ZT r]
theorem Uw (s:List UInt8) : ∀ (r:List (List UInt8)) (k i:Nat),∃ o,uh false [2] [St s] (xX k r) i=some o∧((s∈r∧∃ j,o=some (i + j,Bo true)∧Ob (St s) (Bo true) (xX k r) j=xX k r)∨(s ∉ r∧o=none))
 | [],k,i=>⟨none,rfl,.inr ⟨by simp,rfl⟩⟩
 | x :: r,k,i=>by
   simp only[xX,uh,iY]
   rw[if_pos (by rfl),Qq]
   by_cases h:s=x
   ·rw[if_pos h,GD]
    exact⟨_,rfl,.inl ⟨by simp[h],0,rfl,by rw[h]; rfl⟩⟩
   ·rw[if_neg h]
    obtain⟨o,h1,h2⟩:=Uw s r (k + 1) (i + 1)
    refine⟨o,h1, ?_⟩
    rcases h2 with⟨h2,j,e,h3⟩ | ⟨h2,e⟩
    ·exact .inl ⟨List.mem_cons_of_mem _ h2,j + 1,by rw[e]; congr 2; omega,by rw[Ob,h3]⟩
    ·exact .inr ⟨by simp[h,h2],e⟩
theorem ald {M:RM} {b:Nat} {g:List aD} {x:aD} {K:RM→Prop} (h:M.heap b=some (.map (xX 0 (kE g)) (kE g).length)) (hK:K (M.put b (.map (xX 0 (kE (g++[x]))) (kE (g++[x])).length))) :
  Lg false [2] M (.map b) (St x.2.2.2) (Bo true) K:=by
 obtain⟨o,h1,h2⟩:=Uw x.2.2.2 (kE g) 0 0
 refine⟨b,_,_,[St x.2.2.2],o,rfl,h,rfl,rfl,h1, ?_⟩
 rw[H7,Ub] at hK
 rcases h2 with⟨h2,j,rfl,h3⟩ | ⟨h2,rfl⟩
 ·rw[if_pos h2] at hK
  simp only[agt,Nat.zero_add,h3]
  exact hK
 ·rw[if_neg h2,Uy,List.length_append,List.length_singleton] at hK
  simp only[agt]
  rw[Nat.zero_add] at hK
  exact hK
def dD:Enc rP:=⟨3,fun f=>[St f.1,St f.2.1,N .i64 (f.2.2:Int)],fun _=>rfl,fun _=>rfl⟩
def FJ (TS T TF:Nat) (c:ak) : Prop:=∀ {M:RM} {t:Nat} {B:Nat→Prop} {ps:List Pt} {es:List aD} {s:List UInt8} {Q:aj},oF TS T B M t ps es→es.length≤50000→(∀ v M',Ow dD M' M.next TF v (aY es s)→ag [] M M'→Q v M')→c [.ptr t 0,St s] M Q
theorem aaO {TS T TN TF:Nat} {cC cG cW:ak} (hC:Oq TS T TN cC) (hG:LH cG) (hW:O8 cW) : FJ TS T TF fun args M Q=>∃ a0 a1,args=[a0,a1]∧Ay cC cG cW TN TF a0 a1 M Q:=by
 intro M t B ps es s Q hst hlen hQ
 refine⟨_,_,rfl, ?_⟩
 unfold Ay
 refine hC hst hlen fun v1 M1 o1 k1=>?_
 have hfl:(lv es s).length≤es.length:=List.length_filter_le _ _
 refine hG (es:=lv es s) o1.eZ (by omega) fun v2 M2 d2 k2=>?_
 have n1:=k1.next
 have k02:=k1.trans k2
 have n2:=k02.next
 have hgl:=FV (lv es s)
 rw[d2.len]
 refine aG (fun z ys M3=>∃ (i:Nat) (dv:AV),z=(dF (lv es s)).length - i∧ys=[dv,N .i64 (i:Int)]∧i≤(dF (lv es s)).length∧ag [] M2 M3∧Ow dD M3 M2.next TF dv (((dF (lv es s)).take i).map shown)) _
  ⟨0,di,rfl,rfl,Nat.zero_le _,ag.refl _ _,.nil⟩ ?_
 rintro next z ys M3 hnext ⟨i,dv,rfl,rfl,hil,k3,o3⟩
 dsimp only[aa]
 rw[dB]
 refine aC (fun hlt=>?_) (fun hge=>?_)
 ·have hlt:i<(dF (lv es s)).length:=of_decide_eq_true hlt
  have n3:=k3.next
  obtain⟨b,o,cs,_,_,hidx,hld,w,rfl,hw⟩:=iK.at (R:=GR) (d2.keep k3 (by simp)) 1 (i:Int) hlt rfl rfl
  have hsh:((dF (lv es s)).take (i + 1)).map shown=((dF (lv es s)).take i).map shown++[shown (dF (lv es s))[i]]:=by
   rw[List.take_succ_eq_append_getElem hlt,List.map_append,List.map_singleton]
  have hgi:=hgl.2 _ (List.getElem_mem hlt)
  have hml:(((dF (lv es s)).take i).map shown).length≤i:=by rw[List.length_map,List.length_take]; omega
  generalize (dF (lv es s))[i]=g at *
  have hw:=hw.sl
  rw[hidx,gX,uD hld rfl]
  simp only[Option.some.injEq,exists_eq_left']
  refine hW hw (by omega) fun M4 k4=>?_
  have n4:=k4.next
  rw[lV,lQ]
  refine Lt fun M5 n5 k5 h5=>?_
  rw[bg]
  have k6:ag [] M5 (M5.push (.map [] 0)):=(ag.refl _ _).push _
  have h6:(M5.push (.map [] 0)).heap M5.next=some (.map (xX 0 (kE ([] : List aD))) (kE ([] : List aD)).length):=RM.aT _
  have n6:(M5.push (.map [] 0)).next=M5.next + 1:=wW _
  have h56:=k6.aQ h5 (by omega) (by simp)
  generalize M5.push (.map [] 0)=M6 at *
  have k36:=(k4.trans k5).trans k6
  have w6:=aL.keep hw k36 (by simp)
  rw[aL.len w6]
  refine aG (fun z ys M7=>∃ (j:Nat),z=g.length - j∧ys=[N .i64 (j:Int)]∧j≤g.length∧ag [] M3 M7∧M6.next≤M7.next∧M7.heap M4.next=some (.row (aA.cells (qF g).1) false TN 0)∧M7.heap M5.next=some (.map (xX 0 (kE (g.take j))) (kE (g.take j)).length)) _
   ⟨0,rfl,rfl,Nat.zero_le _,k36,Nat.le_refl _,h56,h6⟩ ?_
  rintro iq z ys M7 dm ⟨j,rfl,rfl,hjl,k7,n7,h7,h8⟩
  dsimp only[aa]
  rw[dB]
  refine aC (fun hlt2=>?_) (fun mU=>?_)
  ·have hlt2:j<g.length:=of_decide_eq_true hlt2
   have hgs:g.take (j + 1)=g.take j++[g[j]]:=List.take_succ_eq_append_getElem hlt2
   rw[pg (aL.keep hw k7 (by simp)) hlt2]
   generalize g[j]=x at *
   refine Lt fun M8 n8 k8 h9=>?_
   rw[aN,az (i:=0 + 4) (x:=St x.2.2.2) h9 rfl]
   have k08:=k7.trans k8
   refine ald (k8.aQ h8 (by omega) (by simp)) ?_
   rw[add1 (by omega)]
   refine dm _ _ _ (by omega) ⟨j + 1,rfl,rfl,by omega,k08.put _ (.inl (by omega)),by rw[jV]; omega,rH (k8.aQ h7 (by omega) (by simp)) (by omega), ?_⟩
   rw[hgs]
   exact aU _
  ·have he:j=g.length:=by
    have:¬ j<g.length:=of_decide_eq_false mU
    omega
   subst he
   rw[List.take_length] at h8
   rw[aN,az (i:=0 + 3) (x:=St (qF g).1.2.2.1) h7 rfl,aN,az (i:=0 + 4) (x:=St (qF g).1.2.2.2) h7 rfl]
   refine⟨_,_,_,rfl,h8, ?_⟩
   dsimp only
   rw[ZT,oH]
   refine⟨[St (qF g).1.2.2.1,St (qF g).1.2.2.2,N .i64 ((kE g).length:Int)],rfl, ?_⟩
   rw[mO (x:=.agg [St (qF g).1.2.2.1,St (qF g).1.2.2.2,N .i64 ((kE g).length:Int)]) (size:=3) rfl rfl rfl,bg]
   refine rE (E:=dD) (a:=shown g) (o3.keep k7 (by simp)) (by have:=k7.next; omega) (by decide) (by omega) (by omega) fun v9 M9 o9 k9 n9 _=>?_
   rw[add1 (by omega)]
   refine hnext _ _ _ (by omega) ⟨i + 1,v9,rfl,rfl,by omega,(k3.trans k7).cz k9 (fun d hd=>.inl (o3.blk d hd).1), ?_⟩
   rw[hsh]
   exact o9
 ·have he:i=(dF (lv es s)).length:=by
   have:¬ i<(dF (lv es s)).length:=of_decide_eq_false hge
   omega
  subst he
  rw[List.take_length] at o3
  exact hQ dv M3 (Own.mono o3 n2) (k02.trans k3)
def nY (c:UInt8) : UInt8:=if 65≤c.toNat∧c.toNat≤90 then UInt8.ofNat (c.toNat + 32) else c
def FQ (c:ak) : Prop:=∀ {M:RM} {s:List UInt8} {Q:aj},s.length<4611686018427387904→(∀ M',ag [] M M'→Q (St (s.map nY)) M')→c [St s] M Q
theorem aby {s:List UInt8} {i:Nat} (hi:i<s.length) : ((s.take i).map nY).length=i:=by simp; omega
theorem WI {s:List UInt8} {i:Nat} (hi:i<s.length) (x:UInt8) : ((s.take i).map nY++s.drop i).set i x=(s.take i).map nY++x :: s.drop (i + 1):=by
 have hl:=aby hi
 rw[List.drop_eq_getElem_cons hi,List.set_append_right _ _ (by omega),hl,Nat.sub_self,List.set_cons_zero]
theorem Gn {s:List UInt8} {i:Nat} (hi:i<s.length) : (s.take (i + 1)).map nY++s.drop (i + 1)=(s.take i).map nY++nY s[i] :: s.drop (i + 1):=by
 rw[List.take_succ_eq_append_getElem hi,List.map_append,List.append_assoc]
 rfl
theorem abp {s:List UInt8} {i:Nat} (hi:i<s.length) (h:i<((s.take i).map nY++s.drop i).length) : ((s.take i).map nY++s.drop i)[i]=s[i]:=by
 have hl:=aby hi
 rw[List.getElem_append_right (by omega)]
 simp only[hl,Nat.sub_self,List.getElem_drop,Nat.add_zero]
theorem acD {T8:Nat} : FQ fun args M Q=>∃ a0,args=[a0]∧Cw T8 a0 M Q:=by
 intro M s Q hl hQ
 refine⟨_,rfl, ?_⟩
 unfold Cw
 simp only[gK,bg,UE,lZ]
 have hk1:ag [] M (M.push (.row (BY.row s) true T8 0)):=(ag.refl _ _).push _
 have hr1:Rw BY (M.push (.row (BY.row s) true T8 0)) M.next true T8 s:=Rw.new M s
 generalize M.push (.row (BY.row s) true T8 0)=M1 at *
 refine aG (fun m ys M3=>∃ i:Nat,m=s.length - i∧ys=[N .i64 i]∧i≤s.length∧Rw BY M3 M.next true T8 ((s.take i).map nY++s.drop i)∧ag [] M M3) _
  ⟨0,rfl,rfl,Nat.zero_le _,by simpa using hr1,hk1⟩ ?_
 rintro next m ys M3 hnext ⟨i,rfl,rfl,hi,hR,hK⟩
 simp only[go_sem]
 refine⟨fun hlt=>?_,fun hge=>?_⟩
 ·have hlt:i<s.length:=by simpa using hlt
  have hlen:i<((s.take i).map nY++s.drop i).length:=by simp; omega
  have hc:=hR.au hlen
  have w1:=gL (show i<9223372036854775807 by omega)
  rw[abp hlt hlen] at hc
  refine⟨by omega,_,hc, ?_⟩
  have same:nY s[i]=s[i]→next [N .i64 ((i + 1:Nat) : Int)] M3:=fun h=>by
   refine hnext _ _ _ (by omega) ⟨i + 1,rfl,rfl,by omega, ?_,hK⟩
   rw[Gn hlt,h,← List.drop_eq_getElem_cons hlt]
   exact hR
  have cb:=ajr s[i]
  simp only[w1]
  by_cases h1:65≤s[i].toNat
  ·have e1:((s[i].toNat:Int) ≥ 65):=by omega
   by_cases h2:s[i].toNat≤90
   ·have e2:((s[i].toNat:Int)≤90):=by omega
    have hlow:nY s[i]=UInt8.ofNat (s[i].toNat + 32):=by rw[nY,if_pos ⟨h1,h2⟩]
    have wv:N IntKind.u8 (IntKind.u8.wrap (IntKind.u8.wrap ((s[i].toNat:Int) + 97) - 65))=By (nY s[i]):=by
     rw[hlow,By,agh,Nat.mod_eq_of_lt (by omega)]
     congr 1
     rw[show IntKind.u8.wrap ((s[i].toNat:Int) + 97)=(s[i].toNat:Int) + 97 from BD (by omega) (by omega)]
     rw[BD (by omega) (by omega)]; omega
    obtain⟨hs,hR'⟩:=hR.afh hlen (nY s[i])
    simp only[e1,e2,decide_true,go_sem]
    rw[WI hlt] at hs hR'
    refine⟨by omega,_,(congrArg (fun x=>M3.stores M.next i [x]) wv).trans hs, ?_⟩
    refine hnext _ _ _ (by omega) ⟨i + 1,rfl,rfl,by omega, ?_,hK.put _ (.inl (Nat.le_refl _))⟩
    rw[Gn hlt]
    exact hR'
   ·have e2:¬ ((s[i].toNat:Int)≤90):=by omega
    simp only[e1,e2,decide_true,decide_false,go_sem]
    exact same (by rw[nY,if_neg (by omega)])
  ·have e1:¬ ((s[i].toNat:Int) ≥ 65):=by omega
   simp only[e1,decide_false,go_sem]
   exact same (by rw[nY,if_neg (by omega)])
 ·have:i=s.length:=by simp at hge; omega
  subst this
  rw[List.take_length,List.drop_length,List.append_nil] at hR
  have:=hR.sl (cap:=.op 1)
  rw[List.length_map] at this
  rw[Sl.str this]
  exact hQ M3 hK
theorem aa6 {T8:Nat} : FQ fun args M Q=>∃ a0,args=[a0]∧ab5 T8 a0 M Q:=by
 intro M s Q hl hQ
 refine⟨_,rfl, ?_⟩
 unfold ab5
 simp only[gK,bg,UE,lZ]
 have hk1:ag [] M (M.push (.row (BY.row s) true T8 0)):=(ag.refl _ _).push _
 have hr1:Rw BY (M.push (.row (BY.row s) true T8 0)) M.next true T8 s:=Rw.new M s
 generalize M.push (.row (BY.row s) true T8 0)=M1 at *
 refine aG (fun m ys M3=>∃ i:Nat,m=s.length - i∧ys=[N .i64 i]∧i≤s.length∧Rw BY M3 M.next true T8 ((s.take i).map nY++s.drop i)∧ag [] M M3) _
  ⟨0,rfl,rfl,Nat.zero_le _,by simpa using hr1,hk1⟩ ?_
 rintro next m ys M3 hnext ⟨i,rfl,rfl,hi,hR,hK⟩
 simp only[go_sem]
 refine⟨fun hlt=>?_,fun hge=>?_⟩
 ·have hlt:i<s.length:=by simpa using hlt
  have hlen:i<((s.take i).map nY++s.drop i).length:=by simp; omega
  have hc:=hR.au hlen
  have w1:=gL (show i<9223372036854775807 by omega)
  rw[abp hlt hlen] at hc
  refine⟨by omega,_,hc, ?_⟩
  have same:nY s[i]=s[i]→next [N .i64 ((i + 1:Nat) : Int)] M3:=fun h=>by
   refine hnext _ _ _ (by omega) ⟨i + 1,rfl,rfl,by omega, ?_,hK⟩
   rw[Gn hlt,h,← List.drop_eq_getElem_cons hlt]
   exact hR
  have cb:=ajr s[i]
  simp only[w1]
  by_cases h1:65≤s[i].toNat
  ·have e1:((s[i].toNat:Int) ≥ 65):=by omega
   by_cases h2:s[i].toNat≤90
   ·have e2:((s[i].toNat:Int)≤90):=by omega
    have hlow:nY s[i]=UInt8.ofNat (s[i].toNat + 32):=by rw[nY,if_pos ⟨h1,h2⟩]
    have wv:N IntKind.u8 (IntKind.u8.wrap ((s[i].toNat:Int) + 32))=By (nY s[i]):=by
     rw[hlow,By,agh,Nat.mod_eq_of_lt (by omega)]
     congr 1
     rw[BD (by omega) (by omega)]; omega
    obtain⟨hs,hR'⟩:=hR.afh hlen (nY s[i])
    simp only[e1,decide_true,go_sem]
    refine⟨by omega,_,hc, ?_⟩
    simp only[e2,decide_true,go_sem]
    refine⟨by omega,_,hc, ?_⟩
    simp only[go_sem]
    rw[WI hlt] at hs hR'
    refine⟨by omega,_,(congrArg (fun x=>M3.stores M.next i [x]) wv).trans hs, ?_⟩
    refine hnext _ _ _ (by omega) ⟨i + 1,rfl,rfl,by omega, ?_,hK.put _ (.inl (Nat.le_refl _))⟩
    rw[Gn hlt]
    exact hR'
   ·have e2:¬ ((s[i].toNat:Int)≤90):=by omega
    simp only[e1,decide_true,go_sem]
    refine⟨by omega,_,hc, ?_⟩
    simp only[e2,decide_false,go_sem]
    exact same (by rw[nY,if_neg (by omega)])
  ·have e1:¬ ((s[i].toNat:Int) ≥ 65):=by omega
   simp only[e1,decide_false,go_sem]
   exact same (by rw[nY,if_neg (by omega)])
 ·have:i=s.length:=by simp at hge; omega
  subst this
  rw[List.take_length,List.drop_length,List.append_nil] at hR
  have:=hR.sl (cap:=.op 1)
  rw[List.length_map] at this
  rw[Sl.str this]
  exact hQ M3 hK
abbrev lw (s:List UInt8) : List UInt8:=s.map nY
theorem adD {s:List UInt8} {l h:Nat} (h1:l≤h) (h2:h≤s.length) (k1 k2:IntKind) : KL (St s) (some (N k1 (l:Int))) (some (N k2 (h:Int)))=some (St ((s.drop l).take (h - l))):=by
 simp only[KL,bnd]
 simp[h1,h2]
theorem dO {v:AV} {o:Option AV} {K:AV→Prop} (h:o=some v) : iB o K=K v:=by
 subst h
 exact propext ⟨fun⟨_,e,hk⟩=>by cases e; exact hk,fun hk=>⟨_,rfl,hk⟩⟩
def yu (c:ak) : Prop:=∀ {M:RM} {a b:List UInt8} {Q:aj},a.length<140737488355328→b.length<140737488355328→(∀ M',ag [] M M'→Q (Bo (Lib.contains (lw a) (lw b))) M')→c [St a,St b] M Q
theorem Fa {cl:ak} (hl:FQ cl) : yu fun args M Q=>∃ a0 a1,args=[a0,a1]∧Oi cl a0 a1 M Q:=by
 intro M a b Q ha hb hQ
 refine⟨_,_,rfl, ?_⟩
 unfold Oi
 refine hl (by omega) fun M1 k1=>?_
 refine hl (by omega) fun M2 k2=>?_
 have hal:(lw a).length<140737488355328:=by simpa using ha
 have hbl:(lw b).length<140737488355328:=by simpa using hb
 unfold lw at hQ hal hbl
 generalize hA:a.map nY=A at *
 generalize hB:b.map nY=B' at *
 refine aG (fun z ys M3=>∃ i:Nat,z=A.length + 1 - i∧ys=[N .i64 (i:Int)]∧i≤A.length + 1∧ag [] M M3∧∀ j,j<i→¬ (j + B'.length≤A.length∧(A.drop j).take B'.length=B')) _
  ⟨0,rfl,rfl,Nat.zero_le _,k1.trans k2,fun j hj=>by omega⟩ ?_
 rintro next z ys M3 hnext ⟨i,rfl,rfl,hi,k3,hno⟩
 dsimp only[aa]
 rw[lH,addN (by omega),lH,mo]
 refine aC (fun hle=>?_) (fun hgt=>?_)
 ·have hle:i + B'.length≤A.length:=of_decide_eq_true hle
  rw[lH,addN (by omega),dO (adD (by omega) hle _ _),jC,Nat.add_sub_cancel_left]
  refine aC (fun he=>?_) (fun hne=>?_)
  ·have he:(A.drop i).take B'.length=B':=by simpa using he
   have:=contains_iff.2 ⟨i,hle,he⟩
   rw[this] at hQ
   exact hQ M3 k3
  ·rw[add1 (by omega)]
   refine hnext _ _ _ (by omega) ⟨i + 1,rfl,rfl,by omega,k3,fun j hj=>?_⟩
   rcases Nat.lt_succ_iff_lt_or_eq.1 hj with h | rfl
   ·exact hno j h
   ·rintro⟨_,h⟩
    rw[h] at hne; simp at hne
 ·have hgt:¬ i + B'.length≤A.length:=of_decide_eq_false hgt
  have:Lib.contains A B'=false:=by
   cases hc:Lib.contains A B' with
   | false=>rfl
   | true =>
     obtain⟨j,h1,h2⟩:=contains_iff.1 hc
     exact absurd ⟨h1,h2⟩ (hno j (by omega))
  rw[this] at hQ
  exact hQ M3 k3
def K4 (B:Base) (c:ak) : Prop:=∀ {M:RM} {a b:List UInt8} {Q:aj},M.base=B→a.length<4294967281→Q (N .i64 (Lib.index a b)) M→c [St a,St b] M Q
def KI (B:Base) (c:ak) : Prop:=∀ {M:RM} {a b:List UInt8} {Q:aj},M.base=B→a.length<4294967281→Q (Bo (Lib.contains a b)) M→c [St a,St b] M Q
theorem Vi {B:Base} {c:ak} (h:K4 B c) : K4 B fun args M Q=>∃ a0 a1,args=[a0,a1]∧xN c a0 a1 M Q:=by
 intro M a b Q hB ha hQ
 refine⟨_,_,rfl, ?_⟩
 unfold xN
 exact h hB ha hQ
theorem Vh {B:Base} {c:ak} (h:K4 B c) : KI B fun args M Q=>∃ a0 a1,args=[a0,a1]∧sM c a0 a1 M Q:=by
 intro M a b Q hB ha hQ
 refine⟨_,_,rfl, ?_⟩
 unfold sM
 refine h hB ha ?_
 rw[iW]
 exact hQ
def agH (TS T TF:Nat) (c:ak) : Prop:=∀ {M:RM} {t:Nat} {B:Nat→Prop} {ps:List Pt} {es:List aD} {s:List UInt8} {Q:aj},oF TS T B M t ps es→es.length≤50000 →
 (aY es s=[]→∀ M',ag [] M M'→Q (.tup [di,N .i64 4]) M')→(aY es s≠[]→∀ v M',Ow dD M' M.next TF v (aY es s)→ag [] M M'→Q (.tup [v,N .i64 0]) M')→c [.ptr t 0,St s] M Q
theorem aja {TS T TF:Nat} {cf:ak} (hf:FJ TS T TF cf) : agH TS T TF fun args M Q=>∃ a0 a1,args=[a0,a1]∧II cf a0 a1 M Q:=by
 intro M t B ps es s Q hst hlen h0 h1
 refine⟨_,_,rfl, ?_⟩
 unfold II
 refine hf hst hlen fun v M1 o1 k1=>?_
 rw[aL.len o1.eZ,bL]
 refine aC (fun hc=>?_) (fun hc=>?_)
 ·refine h0 (List.length_eq_zero_iff.1 ?_) M1 k1
  have:((aY es s).length:Int)=0:=by simpa using hc
  omega
 ·refine h1 (fun e=>?_) v M1 o1 k1
  rw[e] at hc; simp at hc
theorem uS {M:RM} {v:AV} {xs:List (List UInt8)} (h:Sl AX M v xs) {i:Nat} (hi:i<xs.length) {kd:IntKind} {K:AV→Prop} : (ah v (N kd (i:Int)) 1 fun p=>au M p K)=K (St xs[i]):=by
 obtain⟨b,o,_,_,hidx,hcell⟩:=Sl.Kq (E:=AX) (i:=i) h (i:Int) hi rfl rfl
 rw[hidx,gX,hcell _ rfl]
 simp
theorem abJ {M:RM} {v:AV} {xs:List rP} (h:Sl dD M v xs) {i:Nat} (hi:i<xs.length) {kd:IntKind} {K:AV→Prop} : (ah v (N kd (i:Int)) 3 fun p=>aB M p 3 K)=K (.agg (dD.cells xs[i])):=by
 obtain⟨b,o,_,_,hidx,hld⟩:=Sl.at (E:=dD) (i:=i) h 3 (i:Int) hi rfl rfl
 rw[hidx,fB,hld]
 simp
theorem TZ {M:RM} {TF:Nat} {x:rP} {K:RM→AV→Prop} (hK:∀ M',M'.next=M.next + 1→ag [] M M'→M'.heap M.next=some (.row (dD.cells x) false TF 0)→K M' (.ptr M.next 0)) :
  bU (.row [(St []),(St []),(N .i64 0)] false TF 0) (fun b=>.ptr b 0) M fun t M1=>aF M1 t (.agg (dD.cells x)) 3 fun M2=>K M2 t:=by
 rw[bg,iw (n:=3) (x:=.agg (dD.cells x)) (l:=[(St []),(St []),(N .i64 0)]) (RM.aT _) rfl rfl (dD.one x)]
 exact hK _ (by rw[jV,wW]) (((ag.refl _ _).push _).new _ (Nat.le_refl _)) (aU _)
theorem ajs {M:RM} {c p:Bool} {f:aj→Prop} {P:RM→Prop} {G:AV→RM→Prop} (h0:P M) (hf:c=false→∀ k:aj,(∀ M',P M'→k (Bo p) M')→f k) (hG:∀ M',P M'→G (Bo (c || p)) M') :
  ai (Bo c) false f (fun k=>k .undef M) (fun t M'=>aK (Bo c) (Bo true) t fun u=>G u M'):=by
 cases c with
 | true=>rw[mZ]; dsimp only; rw[dC]; exact hG M h0
 | false=>rw[gZ]; exact hf rfl _ fun M' h=>by rw[bT]; exact hG M' h
def fT (es:List aD) (t c:List UInt8) : Bool:=Lib.contains (lw c) t || (aY es c).any fun f=>Lib.contains (lw f.2.1) t
def Lf (es:List aD) (s:List UInt8) : List (List UInt8):=(bV es).filter (fT es (lw s))
def BdE (es:List aD) : Prop:=∀ x∈es,x.2.1.length≤600∧x.2.2.1.length≤600∧x.2.2.2.length≤600
theorem fields_of {es:List aD} (hs:rQ es) {c:List UInt8} {f:rP} (hf:f∈aY es c) : ∃ x∈es,x.2.1=c∧x.2.2.1=f.1∧x.2.2.2=f.2.1:=by
 obtain⟨g,hg,rfl⟩:=List.mem_map.1 hf
 have h:=PT hs c
 have:=CS ((Aa _ h).ne g hg)
 have:=Ry.1 (Sr h hg this)
 exact⟨_,this.1,this.2,rfl,rfl⟩
theorem zA (es:List aD) (c:List UInt8) : (aY es c).length≤es.length:=by
 rw[aY,List.length_map]
 exact Nat.le_trans (FV _).1 (List.length_filter_le _ _)
def adW (B:Base) (TS T T9:Nat) (c:ak) : Prop:=∀ {M:RM} {t:Nat} {C:Nat→Prop} {ps:List Pt} {es:List aD} {s:List UInt8} {Q:aj},M.base=B→oF TS T C M t ps es→es.length≤50000→rQ es→BdE es→s.length<140737488355328 →
 (∀ v M',Ow AX M' M.next T9 v (Lf es s)→ag [] M M'→Q v M')→c [.ptr t 0,St s] M Q
theorem find_spec {B:Base} {TS T TF T9:Nat} {cs cc cx cf:ak} (hsm:FQ cs) (hc:DD TS T T9 cc) (hx:KI B cx) (hf:FJ TS T TF cf) :
  adW B TS T T9 fun args M Q=>∃ a0 a1,args=[a0,a1]∧EW cs cc cx cf TF T9 a0 a1 M Q:=by
 intro M t C ps es s Q hB hst hlen hse hbd hsl hQ
 refine⟨_,_,rfl, ?_⟩
 unfold EW
 simp only[gK,eu,dE,dQ,bF]
 refine hsm (by omega) fun M1 k1=>?_
 have st1:=hst.keep k1 (by simp) (by simp)
 refine hc st1 hlen fun v2 M2 o2 k2=>?_
 have k02:=k1.trans k2
 have n1:=k1.next
 have n2:=k2.next
 rw[Dm] at o2
 have hcl:=LF es
 rw[aL.len o2.eZ]
 refine aG (fun z ys M3=>∃ (i:Nat) (dv:AV),z=(bV es).length - i∧ys=[dv,N .i64 (i:Int)]∧i≤(bV es).length∧ag [] M2 M3∧Ow AX M3 M2.next T9 dv (((bV es).take i).filter (fT es (lw s)))) _
  ⟨0,di,rfl,rfl,Nat.zero_le _,ag.refl _ _,.nil⟩ ?_
 rintro next z ys M3 hnext ⟨i,dv,rfl,rfl,hil,k3,o3⟩
 dsimp only[aa]
 rw[dB]
 refine aC (fun hlt=>?_) (fun hge=>?_)
 ·have hlt:i<(bV es).length:=of_decide_eq_true hlt
  have n3:=k3.next
  refine aP (fun zs M'=>∃ dv',zs=[dv']∧ag [] M2 M'∧Ow AX M' M2.next T9 dv' (((bV es).take (i + 1)).filter (fT es (lw s)))) ?_ ?_
  ·rintro zs M' ⟨dv',rfl,k',o'⟩
   dsimp only[aa]
   rw[add1 (by omega)]
   exact hnext _ _ _ (by omega) ⟨i + 1,dv',rfl,rfl,by omega,k',o'⟩
  intro J hJ
  rw[pK hlt] at hJ
  rw[uS (aL.keep o2.eZ k3 (by simp)) hlt]
  have hfl:=uk (fT es (lw s)) (bV es) i
  have hcm:(bV es)[i]∈bV es:=List.getElem_mem hlt
  generalize ((bV es).take i).filter (fT es (lw s))=acc at *
  generalize (bV es)[i]=c at *
  have awE:c.length≤600:=by
   obtain⟨x,hx,rfl⟩:=(Rn c es).1 hcm
   exact(hbd x hx).1
  refine hsm (by omega) fun M4 k4=>?_
  have k04:=(k02.trans k3).trans k4
  refine hx (k04.base.trans hB) (by simp; omega) ?_
  have st4:=hst.keep k04 (by simp) (by simp)
  refine hf st4 hlen fun v5 M5 o5 k5=>?_
  have n4:=k4.next
  have n5:=k5.next
  have k35:=k4.trans k5
  rw[aL.len o5.eZ]
  have agx:=zA es c
  refine aG (fun z ys M6=>∃ (j:Nat),z=(aY es c).length - j∧ys=[Bo (Lib.contains (lw c) (lw s) || ((aY es c).take j).any fun f=>Lib.contains (lw f.2.1) (lw s)),N .i64 (j:Int)]∧j≤(aY es c).length∧ag [] M5 M6) _
   ⟨0,rfl,by simp,Nat.zero_le _,ag.refl _ _⟩ ?_
  rintro iq z ys M6 dm ⟨j,rfl,rfl,hjl,k6⟩
  dsimp only[aa]
  rw[dB]
  have n6:=k6.next
  refine aC (fun hlt2=>?_) (fun mU=>?_)
  ·have hlt2:j<(aY es c).length:=of_decide_eq_true hlt2
   have hts:(aY es c).take (j + 1)=(aY es c).take j++[(aY es c)[j]]:=List.take_succ_eq_append_getElem hlt2
   rw[abJ (aL.keep o5.eZ k6 (by simp)) hlt2]
   have hfm:(aY es c)[j]∈aY es c:=List.getElem_mem hlt2
   generalize (aY es c)[j]=f at *
   have awQ:f.2.1.length≤600:=by
    obtain⟨x,hx,_,_,e⟩:=fields_of hse hfm
    rw[← e]; exact(hbd x hx).2.2
   refine TZ fun M7 n7 k7 h7=>?_
   have k57:=k6.trans k7
   refine ajs (P:=fun M'=>ag [] M5 M') (p:=Lib.contains (lw f.2.1) (lw s)) k57 (fun _ k hk=>?_) fun M9 k9=>?_
   ·rw[aN,az (i:=0 + 1) (x:=St f.2.1) h7 rfl]
    refine hsm (by omega) fun M8 k8=>?_
    refine hx ((((k04.trans k5).trans k57).trans k8).base.trans hB) (by simp; omega) ?_
    exact hk M8 (k57.trans k8)
   ·rw[add1 (by omega)]
    refine dm _ _ _ (by omega) ⟨j + 1,rfl, ?_,by omega,k9⟩
    rw[hts,List.any_append]
    simp[Bool.or_assoc]
  ·have he:j=(aY es c).length:=by
    have:¬ j<(aY es c).length:=of_decide_eq_false mU
    omega
   subst he
   rw[List.take_length]
   have hh:(Lib.contains (lw c) (lw s) || (aY es c).any fun f=>Lib.contains (lw f.2.1) (lw s))=fT es (lw s) c:=rfl
   rw[hh]
   have k36:=k35.trans k6
   have o6:=o3.keep k36 (by simp)
   refine aC (fun hc=>?_) (fun hc=>?_)
   ·rw[mO (x:=St c) (size:=1) rfl rfl rfl,bg]
    refine rE (E:=AX) (a:=c) o6 (by omega) (by decide) (by omega) (by omega) fun v9 M9 o9 k9 n9 _=>?_
    refine hJ _ _ ⟨v9,rfl,(k3.trans k36).cz k9 (fun d hd=>.inl (o6.blk d hd).1), ?_⟩
    rw[if_pos hc]; exact o9
   ·refine hJ _ _ ⟨dv,rfl,k3.trans k36, ?_⟩
    rw[if_neg (by rw[hc]; simp),List.append_nil]; exact o6
 ·have he:i=(bV es).length:=by
   have:¬ i<(bV es).length:=of_decide_eq_false hge
   omega
  subst he
  rw[List.take_length] at o3
  exact hQ dv M3 (Own.mono o3 k02.next) (k02.trans k3)
def Wu (TS T TN:Nat) (c:ak) : Prop:=∀ {M:RM} {t:Nat} {C:Nat→Prop} {ps:List Pt} {es:List aD} {Q:aj},oF TS T C M t ps es→es.length≤50000→rQ es→(∀ v M',Ow aA M' M.next TN v (conf es)→ag [] M M'→Q v M')→c [.ptr t 0] M Q
theorem ail {α:Type} {L K:List (List α)} (h:L.Sublist K) : L.flatten.length≤K.flatten.length:=by
 induction h with
 | slnil=>exact Nat.le_refl _
 | cons a _ ih=>rw[List.flatten_cons,List.length_append]; omega
 | cons_cons a _ ih=>rw[List.flatten_cons,List.flatten_cons,List.length_append,List.length_append]; omega
theorem VV (L:List (List aD)) (p:List aD→Bool) (i:Nat) : (((L.take i).filter p).flatten).length≤L.flatten.length:=ail (List.filter_sublist.trans (List.take_sublist _ _))
theorem adj {TS T TN:Nat} {ce cg:ak} (he:OZ TS T TN ce) (hg:LH cg) : Wu TS T TN fun args M Q=>∃ a0,args=[a0]∧vX ce cg TN a0 M Q:=by
 intro M t C ps es Q hst hlen hse hQ
 refine⟨_,rfl, ?_⟩
 unfold vX
 simp only[gK,eu,dE,dQ,bF]
 refine he hst (by omega) fun v1 M1 o1 k1=>?_
 refine hg o1.eZ hlen fun v2 M2 d2 k2=>?_
 have k02:=k1.trans k2
 have hgl:=FV es
 have aus:=(Aa es hse).flat
 rw[d2.len]
 refine aG (fun z ys M3=>∃ (i:Nat) (dv:AV),z=(dF es).length - i∧ys=[dv,N .i64 (i:Int)]∧i≤(dF es).length∧ag [] M2 M3∧Ow aA M3 M2.next TN dv ((((dF es).take i).filter fun g=>decide (1<g.length)).flatten)) _
  ⟨0,di,rfl,rfl,Nat.zero_le _,ag.refl _ _,.nil⟩ ?_
 rintro next z ys M3 hnext ⟨i,dv,rfl,rfl,hil,k3,o3⟩
 dsimp only[aa]
 rw[dB]
 refine aC (fun hlt=>?_) (fun hge=>?_)
 ·have hlt:i<(dF es).length:=of_decide_eq_true hlt
  have n3:=k3.next
  have hfl:=VV (dF es) (fun g=>decide (1<g.length)) i
  rw[aus] at hfl
  refine aP (fun zs M'=>∃ dv',zs=[dv']∧ag [] M2 M'∧Ow aA M' M2.next TN dv' ((((dF es).take (i + 1)).filter fun g=>decide (1<g.length)).flatten)) ?_ ?_
  ·rintro zs M' ⟨dv',rfl,k',o'⟩
   dsimp only[aa]
   rw[add1 (by omega)]
   exact hnext _ _ _ (by omega) ⟨i + 1,dv',rfl,rfl,by omega,k',o'⟩
  intro J hJ
  rw[pK hlt,List.flatten_append] at hJ
  obtain⟨b,o,cs,_,_,hidx,hld,w,rfl,hw⟩:=iK.at (R:=GR) (d2.keep k3 (by simp)) 1 (i:Int) hlt rfl rfl
  have hgi:=hgl.2 _ (List.getElem_mem hlt)
  generalize (((dF es).take i).filter fun g=>decide (1<g.length)).flatten=acc at *
  generalize (dF es)[i]=g at *
  have hw:=hw.sl
  rw[hidx,gX,uD hld rfl]
  simp only[Option.some.injEq,exists_eq_left']
  rw[aL.len hw,show(N .i64 (1:Int))=N .i64 ((1:Nat) : Int) from rfl,pV]
  refine aC (fun hc=>?_) (fun hc=>?_)
  ·refine yQ (E:=aA) o3 n3 (by decide) hw (by omega) (by omega) fun v9 M9 o9 k9 n9 _=>?_
   refine hJ _ _ ⟨v9,rfl,k3.cz k9 (fun d hd=>.inl (o3.blk d hd).1), ?_⟩
   rw[if_pos (by simpa using hc)]; simpa using o9
  ·refine hJ _ _ ⟨dv,rfl,k3, ?_⟩
   rw[if_neg (by simpa using hc)]; simpa using o3
 ·have he:i=(dF es).length:=by
   have:¬ i<(dF es).length:=of_decide_eq_false hge
   omega
  subst he
  rw[List.take_length] at o3
  exact hQ dv M3 (Own.mono o3 k02.next) (k02.trans k3)
end Go.Ab.Crw.Viw
namespace Go.Ab.Crw
open Go Go.Ab Go.Ab.aH Go.Ab.Vw
abbrev bS:=List UInt8 × (List UInt8 × Nat)
def bi:Enc bS:=⟨3,fun f=>[St f.1,St f.2.1,N .i64 (f.2.2:Int)],fun _=>rfl,fun _=>rfl⟩
def wR:bS→bS→Bool:=lex (fun x:bS=>x.2.1) (fun x y=>decide (x<y)) (lex (fun x:bS=>x.1) (fun x y=>decide (x<y)) fun _ _=>false)
theorem L6:Sort.SWO wR:=BJ sH (BJ sH YA)
def f3L (x y:bS) : Int:=Jc (c3 (fun x y:List UInt8=>decide (x<y)) x.2.1 y.2.1) (Jc (c3 (fun x y:List UInt8=>decide (x<y)) x.1 y.1) 0)
theorem axn:Is3 wR f3L:=BG (k:=fun x:bS=>x.2.1) sH (BG (k:=fun x:bS=>x.1) sH aam)
def J9 (c:ak) : Prop:=∀ {M:RM} {x y:bS} {Q:aj},(∀ M',ag [] M M'→Q (N .i64 (f3L x y)) M')→c [.agg (bi.cells x),.agg (bi.cells y)] M Q
theorem Vj {TL TI:Nat} {cs co:ak} (hs:zH (α:=List UInt8) (fun s=>St s) (fun x y=>decide (x<y)) cs) (ho:OrC co) :
  J9 fun args M Q=>∃ a0 a1,args=[a0,a1]∧Az TL cs TI co a0 a1 M Q:=by
 intro M x y Q hQ
 refine⟨_,_,rfl, ?_⟩
 unfold Az
 rw[dX rfl (by rw[bi.len]; decide),bg,dX rfl (by rw[bi.len]; decide),bg]
 have k1:ag [] M (M.push (.row (bi.cells x) false TL 0)):=(ag.refl _ _).push _
 have k2:ag [] M ((M.push (.row (bi.cells x) false TL 0)).push (.row (bi.cells y) false TL 0)):=k1.push _
 have h2:((M.push (.row (bi.cells x) false TL 0)).push (.row (bi.cells y) false TL 0)).heap (M.push (.row (bi.cells x) false TL 0)).next=some (.row (bi.cells y) false TL 0):=RM.aT _
 have h1:((M.push (.row (bi.cells x) false TL 0)).push (.row (bi.cells y) false TL 0)).heap M.next=some (.row (bi.cells x) false TL 0):=nL (RM.aT _) (by simp[RM.push])
 generalize (M.push (.row (bi.cells x) false TL 0)).push (.row (bi.cells y) false TL 0)=M2 at *
 generalize (M.push (.row (bi.cells x) false TL 0)).next=s at *
 rw[aN,az (i:=0 + 1) (x:=St x.2.1) h1 rfl,aN,az (i:=0 + 1) (x:=St y.2.1) h2 rfl,bK,az (x:=St x.1) h1 rfl,bK,az (x:=St y.1) h2 rfl]
 refine hs ?_
 rw[az (x:=St x.1) h1 rfl]
 refine⟨rfl, ?_⟩
 rw[az (x:=St y.1) h2 rfl]
 refine⟨rfl, ?_⟩
 refine hs ?_
 rw[aju (M:=M2),qo]
 refine ho (xs:=[_,_]) ?_ (by simp) (hQ _ (k2.push _))
 exact Sl.new (E:=INT) [_,_]
theorem al6 {cv:FuncId→ak} {n:Nat} (h:J9 (cv n)) : qj bi wR (cO cv (.fn (.func n) [] [])):=by
 intro M x y Q hQ
 exact⟨n,[],[],rfl,h fun M' k=>hQ _ _ (axn x y) k⟩
end Go.Ab.Crw
