/- Part 7 of the ground of the proofs of this seat (texts G3L to V12). By an AI agent. -/
import Derived.Test.YtngfappichkflaaGreatSho6
set_option maxRecDepth 10000
set_option linter.unusedVariables false
set_option linter.unusedSimpArgs false
namespace Go.Ab.Crw
open Go Go.Ab Go.Ab.aH Go.Ab.Vw
theorem gD {T:Nat} {fv:AV} {lt:bS→bS→Bool} {cv:FuncId→ak} (hl:qj bi lt (cO cv fv)) : SortG bi T 3 fv (Sort.insertionSort lt) (fun _ _ _=>True) fun args M Q=>∃ a0 a1 a2 a3,args=[a0,a1,a2,a3]∧fq cv a0 a1 a2 a3 M Q:=by
 intro M b a e d Q hat hsz hae he _ hQ
 refine⟨_,_,_,_,rfl, ?_⟩
 unfold fq
 simp only[eu,dE,dQ]
 rw[add1 (by omega)]
 rw[Sort.insertionSort] at hQ
 obtain⟨R,hR⟩ : ∃ R,R=Sort.insOuter lt a e (a + 1) d:=⟨_,rfl⟩
 rw[← hR] at hQ
 refine aG (fun m ys M3=>∃ (i:Nat) (d3:Array bS),m=d.size - i∧ys=[N .i64 (i:Int)]∧i≤d.size + 1∧At bi T b d3 M3∧ag [b] M M3∧d3.size=d.size∧R=Sort.insOuter lt a e i d3) _ ⟨a + 1,d,rfl,rfl,by omega,hat,ag.refl _ _,rfl,hR⟩ ?_
 rintro next m ys M3 hnext ⟨i,d3,rfl,rfl,hi,h3,k3,hs3,hm⟩
 dsimp only[aa]
 rw[dB]
 refine aC (fun hlt=>?_) (fun hge=>?_)
 ·have hlt:i<e:=of_decide_eq_true hlt
  rw[Sort.insOuter,if_pos hlt] at hm
  obtain⟨R5,hR5⟩ : ∃ R5,R5=Sort.insInner lt a i d3:=⟨_,rfl⟩
  rw[← hR5] at hm
  refine aG (fun m ys M5=>∃ (j:Nat) (d5:Array bS),m=j + 1∧ys=[N .i64 (j:Int)]∧j≤i∧At bi T b d5 M5∧ag [b] M M5∧d5.size=d.size∧R5=Sort.insInner lt a j d5) _ ⟨i,d3,rfl,rfl,Nat.le_refl _,h3,k3,hs3,hR5⟩ ?_
  rintro iq m ys M5 dm ⟨j,d5,rfl,rfl,hj,h5,k5,hs5,hm5⟩
  dsimp only[aa]
  rw[pV]
  have out:∀ M6,At bi T b d5 M6→ag [b] M M6→Sort.insInner lt a j d5=d5→af .add (N .i64 (i:Int)) (N .i64 1) (fun t14=>next [t14] M6):=fun M6 h6 k6 h=>by
   rw[add1 (by omega)]
   refine hnext _ _ _ (by omega) ⟨i + 1,d5,rfl,rfl,by omega,h6,k6,hs5, ?_⟩
   rw[hm,hm5,h]
  by_cases hg:j > a
  ·obtain⟨k,rfl⟩ : ∃ k,j=k + 1:=⟨j - 1,by omega⟩
   rw[decide_eq_true hg,gI]
   dsimp only
   rw[h5.rd (z:=3) rfl hs5.symm (by omega),bz (by omega) (by omega),Nat.add_sub_cancel,h5.rd (z:=3) rfl hs5.symm (by omega)]
   refine hl.use fun M6 k6=>?_
   have h6:=h5.keep k6
   have k6':=k5.trans (k6.mono (cs:=[b]) (by simp))
   rw[dC]
   rw[Sort.insInner] at hm5 out
   refine aC (fun h=>?_) (fun h=>?_)
   ·rw[if_pos (by simp[hg,h])] at hm5
    rw[bz (by omega) (by omega),bz (by omega) (by omega),Nat.add_sub_cancel,h6.rd (z:=3) rfl hs5.symm (by omega),h6.rd (z:=3) rfl hs5.symm (by omega)]
    refine h6.swap (z:=3) rfl hs5.symm (by omega) (by omega) fun M7 h7 k7=>?_
    rw[bz (by omega) (by omega),Nat.add_sub_cancel]
    exact dm _ _ _ (by omega) ⟨k,_,rfl,rfl,by omega,h7,k6'.trans k7,by rw[bY]; exact hs5,hm5⟩
   ·exact out M6 h6 k6' (by rw[if_neg (by simp[h])])
  ·rw[decide_eq_false hg,gG]
   dsimp only
   rw[bT,bA]
   refine out M5 h5 k5 ?_
   cases j with
   | zero=>rfl
   | succ k=>rw[Sort.insInner,if_neg (by simp[hg])]
 ·have hge:¬ i<e:=of_decide_eq_false hge
  rw[Sort.insOuter,if_neg hge] at hm
  subst hm
  exact hQ M3 h3 k3
theorem aht {T:Nat} {fv:AV} : SortG bi T 3 fv Sort.reverseRange (fun _ a e=>a<e) fun args M Q=>∃ a0 a1 a2 a3,args=[a0,a1,a2,a3]∧jQ a0 a1 a2 a3 M Q:=by
 intro M b a e d Q hat hsz hae he hP hQ
 refine⟨_,_,_,_,rfl, ?_⟩
 unfold jQ
 rw[bz (by omega) (by omega)]
 rw[Sort.reverseRange] at hQ
 obtain⟨R,hR⟩ : ∃ R,R=Sort.reverseLoop a (e - 1) d:=⟨_,rfl⟩
 rw[← hR] at hQ
 refine aG (fun m ys M3=>∃ (i j:Nat) (d3:Array bS),m=j - i∧ys=[N .i64 (i:Int),N .i64 (j:Int)]∧j<d.size∧i≤d.size∧At bi T b d3 M3∧ag [b] M M3∧d3.size=d.size∧R=Sort.reverseLoop i j d3) _ ⟨a,e - 1,d,rfl,rfl,by omega,by omega,hat,ag.refl _ _,rfl,hR⟩ ?_
 rintro next m ys M3 hnext ⟨i,j,d3,rfl,rfl,hj,hi,h3,k3,hs3,hm⟩
 dsimp only[aa]
 rw[dB]
 rw[Sort.reverseLoop] at hm
 refine aC (fun hlt=>?_) (fun hge=>?_)
 ·have hlt:i<j:=of_decide_eq_true hlt
  rw[if_pos hlt] at hm
  rw[h3.rd (z:=3) rfl hs3.symm (by omega),h3.rd (z:=3) rfl hs3.symm (by omega)]
  refine h3.swap (z:=3) rfl hs3.symm (by omega) (by omega) fun M4 h4 k4=>?_
  rw[add1 (by omega),bz (by omega) (by omega)]
  exact hnext _ _ _ (by omega) ⟨i + 1,j - 1,_,rfl,rfl,by omega,by omega,h4,k3.trans k4,by rw[bY]; exact hs3,hm⟩
 ·have hge:¬ i<j:=of_decide_eq_false hge
  rw[if_neg hge] at hm
  subst hm
  exact hQ M3 h3 k3
def adO (T:Nat) (fv:AV) (lt:bS→bS→Bool) (c:ak) : Prop:=∀ {M:RM} {b lo hi first:Nat} {d:Array bS} {Q:aj},At bi T b d M→d.size≤60000→first + hi≤d.size→lo≤1000000→(∀ M',At bi T b (Sort.siftDown lt hi first lo d) M'→ag [b] M M'→Q (.tup []) M') →
 c [sv b d.size 3,N .i64 (lo:Int),N .i64 (hi:Int),N .i64 (first:Int),fv] M Q
theorem ad9 {T:Nat} {fv:AV} {lt:bS→bS→Bool} {cv:FuncId→ak} (hl:qj bi lt (cO cv fv)) : adO T fv lt fun args M Q=>∃ a0 a1 a2 a3 a4,args=[a0,a1,a2,a3,a4]∧lq cv a0 a1 a2 a3 a4 M Q:=by
 intro M b lo hi first d Q hat hsz hfe hlo hQ
 refine⟨_,_,_,_,_,rfl, ?_⟩
 unfold lq
 simp only[eu,dE,dQ,bF]
 obtain⟨R,hR⟩ : ∃ R,R=Sort.siftDown lt hi first lo d:=⟨_,rfl⟩
 rw[← hR] at hQ
 refine aG (fun m ys M3=>∃ (r:Nat) (d3:Array bS),m=1000000 + hi - r∧ys=[N .i64 (r:Int)]∧(r≤1000000)∧At bi T b d3 M3∧ag [b] M M3∧d3.size=d.size∧R=Sort.siftDown lt hi first r d3) _ ⟨lo,d,rfl,rfl,hlo,hat,ag.refl _ _,rfl,hR⟩ ?_
 rintro next m ys M3 hnext ⟨r,d3,rfl,rfl,hr,h3,k3,hs3,hm⟩
 dsimp only[aa]
 rw[agA (by omega),add1 (by omega),jy]
 rw[Sort.siftDown] at hm
 refine aC (fun hg=>?_) (fun hg=>?_)
 ·rw[dif_pos (of_decide_eq_true hg)] at hm
  subst hm
  exact hQ M3 h3 k3
 have hg:¬ 2 * r + 1 ≥ hi:=of_decide_eq_false hg
 rw[dif_neg hg] at hm
 refine aP (fun zs M'=>∃ c:Nat,zs=[N .i64 (c:Int)]∧At bi T b d3 M'∧ag [b] M M'∧r<c∧c<hi∧R=if !lt d3[first + r]! d3[first + c]! then d3 else Sort.siftDown lt hi first c (Sort.swp d3 (first + r) (first + c))) ?_ ?_
 ·rintro zs M' ⟨c,rfl,h4,k4,hrc,aqJ,hm2⟩
  dsimp only[aa]
  rw[addN (by omega),h4.rd (z:=3) rfl hs3.symm (by omega),addN (by omega),h4.rd (z:=3) rfl hs3.symm (by omega)]
  refine hl.use fun M5 k5=>?_
  have h5:=h4.keep k5
  have k5':=k4.trans (k5.mono (cs:=[b]) (by simp))
  rw[bD]
  refine aC (fun h=>?_) (fun h=>?_)
  ·rw[if_pos h] at hm2
   subst hm2
   exact hQ M5 h5 k5'
  ·rw[if_neg (by rw[h]; decide)] at hm2
   rw[addN (by omega),addN (by omega),addN (by omega),h5.rd (z:=3) rfl hs3.symm (by omega),addN (by omega),h5.rd (z:=3) rfl hs3.symm (by omega)]
   refine h5.swap (z:=3) rfl hs3.symm (by omega) (by omega) fun M6 h6 k6=>?_
   exact hnext _ _ _ (by omega) ⟨c,_,rfl,rfl,by omega,h6,k5'.trans k6,by rw[bY]; exact hs3,hm2⟩
 intro J hJ
 rw[add1 (by omega),dB]
 refine qZ (P:=fun M'=>At bi T b d3 M'∧ag [b] M M') (p:=lt d3[first + (2 * r + 1)]! d3[first + (2 * r + 1) + 1]!) ⟨h3,k3⟩ (fun hc k hk=>?_) fun M4 ⟨h4,k4⟩=>?_
 ·have hc:2 * r + 1 + 1<hi:=of_decide_eq_true hc
  rw[addN (by omega),h3.rd (z:=3) rfl hs3.symm (by omega),addN (by omega),add1 (by omega),h3.rd (z:=3) rfl hs3.symm (by omega)]
  exact hl.use fun M5 k5=>hk M5 ⟨h3.keep k5,k3.trans (k5.mono (cs:=[b]) (by simp))⟩
 refine aC (fun h=>?_) (fun h=>?_)
 ·have hc:2 * r + 1 + 1<hi:=by
   rw[Bool.and_eq_true] at h
   exact of_decide_eq_true h.1
  rw[add1 (by omega)]
  refine hJ _ _ ⟨2 * r + 2,rfl,h4,k4,by omega,by omega, ?_⟩
  rw[if_pos h,dif_pos (by omega)] at hm
  exact hm
 ·refine hJ _ _ ⟨2 * r + 1,rfl,h4,k4,by omega,by omega, ?_⟩
  rw[if_neg (by rw[h]; decide)] at hm
  exact hm
theorem aca {T:Nat} {fv:AV} {lt:bS→bS→Bool} {cs:ak} (hs:adO T fv lt cs) : SortG bi T 3 fv (Sort.heapSort lt) (fun _ a e=>a<e) fun args M Q=>∃ a0 a1 a2 a3,args=[a0,a1,a2,a3]∧lG cs a0 a1 a2 a3 M Q:=by
 intro M b a e d Q hat hsz hae he hP hQ
 refine⟨_,_,_,_,rfl, ?_⟩
 unfold lG
 rw[Sort.heapSort] at hQ
 rw[eP hae (by omega),bz (by omega) (by omega),mg]
 refine⟨by decide, ?_⟩
 rw[show(2:Int)=((2:Nat) : Int) from rfl,qz,aZ (by omega) (by omega)]
 obtain⟨R,hR⟩ : ∃ R,R=Sort.heapBuild lt (e - a) a ((e - a - 1) / 2 + 1) d:=⟨_,rfl⟩
 rw[← hR] at hQ
 refine aG (fun m ys M3=>∃ (k:Nat) (d3:Array bS),m=k + 1∧ys=[N .i64 ((k:Int) - 1)]∧k≤(e - a - 1) / 2 + 1∧At bi T b d3 M3∧ag [b] M M3∧d3.size=d.size∧R=Sort.heapBuild lt (e - a) a k d3) _ ⟨(e - a - 1) / 2 + 1,d,rfl,by congr 3; omega,Nat.le_refl _,hat,ag.refl _ _,rfl,hR⟩ ?_
 rintro next m ys M3 hnext ⟨k,d3,rfl,rfl,hk,h3,k3,hs3,hm⟩
 dsimp only[aa]
 rw[iW]
 refine aC (fun hg=>?_) (fun hg=>?_)
 ·have hg:1≤k:=by
   have:(k:Int) - 1 ≥ 0:=of_decide_eq_true hg
   omega
  obtain⟨k',rfl⟩ : ∃ k',k=k' + 1:=⟨k - 1,by omega⟩
  rw[Sort.heapBuild] at hm
  rw[show((k' + 1:Nat) : Int) - 1=(k' : Int) by omega,← hs3]
  refine hs h3 (by omega) (by omega) (by omega) fun M4 h4 k4=>?_
  rw[iX,aZ (by omega) (by omega)]
  exact hnext _ _ _ (by omega) ⟨k',_,rfl,rfl,by omega,h4,k3.trans k4,by rw[zU lt _ _ (e - a) _ _ (by omega)]; exact hs3,hm⟩
 ·have hk0:k=0:=by
   have:¬ (k:Int) - 1 ≥ 0:=of_decide_eq_false hg
   omega
  subst hk0
  rw[Sort.heapBuild] at hm
  rw[hm] at hQ
  rw[bz (by omega) (by omega)]
  obtain⟨R4,hR4⟩ : ∃ R4,R4=Sort.heapPop lt a (e - a) d3:=⟨_,rfl⟩
  rw[← hR4] at hQ
  refine aG (fun m ys M4=>∃ (k:Nat) (d4:Array bS),m=k + 1∧ys=[N .i64 ((k:Int) - 1)]∧k≤e - a∧At bi T b d4 M4∧ag [b] M M4∧d4.size=d.size∧R4=Sort.heapPop lt a k d4) _ ⟨e - a,d3,rfl,by congr 3; omega,Nat.le_refl _,h3,k3,hs3,hR4⟩ ?_
  rintro iq m ys M4 dm ⟨k,d4,rfl,rfl,hk,h4,k4,hs4,hm4⟩
  dsimp only[aa]
  rw[iW]
  refine aC (fun hg=>?_) (fun hg=>?_)
  ·have hg:1≤k:=by
    have:(k:Int) - 1 ≥ 0:=of_decide_eq_true hg
    omega
   obtain⟨k',rfl⟩ : ∃ k',k=k' + 1:=⟨k - 1,by omega⟩
   rw[Sort.heapPop] at hm4
   rw[show((k' + 1:Nat) : Int) - 1=(k' : Int) by omega,addN (by omega),addN (by omega),h4.rd (z:=3) rfl hs4.symm (by omega),h4.rd (z:=3) rfl hs4.symm (by omega)]
   refine h4.swap (z:=3) rfl hs4.symm (by omega) (by omega) fun M5 h5 k5=>?_
   rw[show d.size=(Sort.swp d4 a (a + k')).size by rw[bY]; exact hs4.symm]
   refine hs (lo:=0) h5 (by rw[bY]; omega) (by rw[bY]; omega) (by decide) fun M6 h6 k6=>?_
   rw[iX,aZ (by omega) (by omega)]
   exact dm _ _ _ (by omega) ⟨k',_,rfl,rfl,by omega,h6,(k4.trans k5).trans k6,by rw[zU lt _ _ k' _ _ (by omega),bY]; exact hs4,hm4⟩
  ·have hk0:k=0:=by
    have:¬ (k:Int) - 1 ≥ 0:=of_decide_eq_false hg
    omega
   subst hk0
   rw[Sort.heapPop] at hm4
   subst hm4
   exact hQ M4 h4 k4
def Sg (T:Nat) (fv:AV) (lt:bS→bS→Bool) (c:ak) : Prop:=∀ {M:RM} {b a e pv:Nat} {d:Array bS} {Q:aj},At bi T b d M→d.size≤60000→a≤pv→pv<e→e≤d.size→(∀ M',At bi T b (Sort.partitionEqual lt d a e pv).2 M'→ag [b] M M'→Q (N .i64 (((Sort.partitionEqual lt d a e pv).1:Nat) : Int)) M') →
 c [sv b d.size 3,N .i64 (a:Int),N .i64 (e:Int),N .i64 (pv:Int),fv] M Q
theorem Rv {T:Nat} {fv:AV} {lt:bS→bS→Bool} {cv:FuncId→ak} (hl:qj bi lt (cO cv fv)) : Sg T fv lt fun args M Q=>∃ a0 a1 a2 a3 a4,args=[a0,a1,a2,a3,a4]∧jf cv a0 a1 a2 a3 a4 M Q:=by
 intro M b a e pv d Q hat hsz hap hpe he hQ
 refine⟨_,_,_,_,_,rfl, ?_⟩
 unfold jf
 simp only[eu,dE,dQ]
 rw[Sort.partitionEqual] at hQ
 rw[hat.rd (z:=3) rfl rfl (by omega),hat.rd (z:=3) rfl rfl (by omega)]
 refine hat.swap (z:=3) rfl rfl (by omega) (by omega) fun M2 h2 k2=>?_
 rw[add1 (by omega),bz (by omega) (by omega)]
 obtain⟨R,hR⟩ : ∃ R,R=Sort.partEqLoop lt a (a + 1) (e - 1) (Sort.swp d a pv):=⟨_,rfl⟩
 rw[← hR] at hQ
 refine aG (fun m ys M3=>∃ (i j:Nat) (d3:Array bS),m=j + 1 - i∧ys=[N .i64 (i:Int),N .i64 (j:Int)]∧a + 1≤i∧i≤e + 1∧j<e∧At bi T b d3 M3∧ag [b] M M3∧d3.size=d.size∧R=Sort.partEqLoop lt a i j d3) _ ⟨a + 1,e - 1,_,rfl,rfl,Nat.le_refl _,by omega,by omega,h2,k2,bY _ _ _,hR⟩ ?_
 rintro next m ys M3 hnext ⟨i,j,d3,rfl,rfl,hai,hie,hje,h3,k3,hs3,hm⟩
 dsimp only[aa]
 rw[Sort.partEqLoop] at hm
 refine BF (P:=fun M'=>At bi T b d3 M'∧ag [b] M M') (p:=fun x=>!lt d3[a]! x) (d:=d3) (J:=j) ⟨h3,k3⟩ fun iq i2 M4 ⟨h4,k4⟩ h0 h1 hgo hstop=>?_
 dsimp only[aa]
 rw[mo]
 refine qZ (P:=fun M'=>At bi T b d3 M'∧ag [b] M M') (p:=!lt d3[a]! d3[i2]!) ⟨h4,k4⟩ (fun hc k hk=>?_) fun M5 h5=>?_
 ·have hc:i2≤j:=of_decide_eq_true hc
  rw[h4.rd (z:=3) rfl hs3.symm (by omega),h4.rd (z:=3) rfl hs3.symm (by omega)]
  refine hl.use fun M5 k5=>?_
  rw[bD]
  exact hk M5 ⟨h4.keep k5,k4.trans (k5.mono (cs:=[b]) (by simp))⟩
 refine aC (fun h=>?_) (fun h=>?_)
 ·rw[add1 (by omega)]
  exact hgo h M5 h5
 have hi2:=hstop h
 rw[← hi2] at hm
 refine wH (P:=fun M'=>At bi T b d3 M'∧ag [b] M M') (p:=fun x=>lt d3[a]! x) (d:=d3) (i:=i2) h5 (by omega) fun rV j2 M6 ⟨h6,k6⟩ q0 q1 tH lC=>?_
 dsimp only[aa]
 rw[mo]
 refine qZ (P:=fun M'=>At bi T b d3 M'∧ag [b] M M') (p:=lt d3[a]! d3[j2]!) ⟨h6,k6⟩ (fun hc k hk=>?_) fun M7 ⟨h7,k7⟩=>?_
 ·have hc:i2≤j2:=of_decide_eq_true hc
  rw[h6.rd (z:=3) rfl hs3.symm (by omega),h6.rd (z:=3) rfl hs3.symm (by omega)]
  exact hl.use fun M5 k5=>hk M5 ⟨h6.keep k5,k6.trans (k5.mono (cs:=[b]) (by simp))⟩
 refine aC (fun h=>?_) (fun h=>?_)
 ·have hc:i2≤j2:=by
   rw[Bool.and_eq_true] at h
   exact of_decide_eq_true h.1
  rw[bz (by omega) (by omega)]
  exact tH h M7 ⟨h7,k7⟩
 have hj2:=lC h
 simp only[← hj2] at hm
 rw[pV]
 refine aC (fun hg=>?_) (fun hg=>?_)
 ·rw[if_pos (of_decide_eq_true hg)] at hm
  rw[hm] at hQ
  exact hQ M7 h7 k7
 ·have hg:¬ i2 > j2:=of_decide_eq_false hg
  rw[if_neg hg,dif_pos (by omega)] at hm
  rw[h7.rd (z:=3) rfl hs3.symm (by omega),h7.rd (z:=3) rfl hs3.symm (by omega)]
  refine h7.swap (z:=3) rfl hs3.symm (by omega) (by omega) fun M8 h8 k8=>?_
  rw[add1 (by omega),bz (by omega) (by omega)]
  exact hnext _ _ _ (by omega) ⟨i2 + 1,j2 - 1,_,rfl,rfl,by omega,by omega,by omega,h8,k7.trans k8,by rw[bY,hs3],hm⟩
def adK (T:Nat) (fv:AV) (lt:bS→bS→Bool) (c:ak) : Prop:=∀ {M:RM} {b a e pv:Nat} {d:Array bS} {Q:aj},At bi T b d M→d.size≤60000→a≤pv→pv<e→e≤d.size→(∀ M',At bi T b (Sort.partition lt d a e pv).2.2 M'→ag [b] M M'→Q (.tup [N .i64 (((Sort.partition lt d a e pv).1:Nat) : Int),Bo (Sort.partition lt d a e pv).2.1]) M') →
 c [sv b d.size 3,N .i64 (a:Int),N .i64 (e:Int),N .i64 (pv:Int),fv] M Q
theorem ab8 {T:Nat} {fv:AV} {lt:bS→bS→Bool} {cv:FuncId→ak} (hl:qj bi lt (cO cv fv)) : adK T fv lt fun args M Q=>∃ a0 a1 a2 a3 a4,args=[a0,a1,a2,a3,a4]∧kU cv a0 a1 a2 a3 a4 M Q:=by
 intro M b a e pv d Q hat hsz hap hpe he hQ
 refine⟨_,_,_,_,_,rfl, ?_⟩
 unfold kU
 simp only[eu,dE,dQ]
 have hs2:=bY d a pv
 rw[yM] at hQ
 rw[hat.rd (z:=3) rfl rfl (by omega),hat.rd (z:=3) rfl rfl (by omega)]
 refine hat.swap (z:=3) rfl rfl (by omega) (by omega) fun M2 h2 k2=>?_
 rw[add1 (by omega),bz (by omega) (by omega)]
 generalize Sort.swp d a pv=d2 at *
 refine BF (P:=fun M'=>At bi T b d2 M'∧ag [b] M M') (p:=fun x=>lt x d2[a]!) (d:=d2) (J:=e - 1) ⟨h2,k2⟩ fun iq i M3 ⟨h3,k3⟩ h0 h1 hgo hstop=>?_
 dsimp only[aa]
 rw[mo]
 refine qZ (P:=fun M'=>At bi T b d2 M'∧ag [b] M M') (p:=lt d2[i]! d2[a]!) ⟨h3,k3⟩ (fun hc k hk=>?_) fun M4 h4=>?_
 ·have hc:i≤e - 1:=of_decide_eq_true hc
  rw[h3.rd (z:=3) rfl hs2.symm (by omega),h3.rd (z:=3) rfl hs2.symm (by omega)]
  exact hl.use fun M5 k5=>hk M5 ⟨h3.keep k5,k3.trans (k5.mono (cs:=[b]) (by simp))⟩
 refine aC (fun h=>?_) (fun h=>?_)
 ·rw[add1 (by omega)]
  exact hgo h M4 h4
 have hi2:i=pI lt d2 a e:=hstop h
 have Iu:pJ lt d2 a e=Sort.scanDown (fun x=>!lt x d2[a]!) d2 (pI lt d2 a e) (e - 1):=rfl
 have Iy:pL lt d2 a e=Sort.partLoop lt a (pI lt d2 a e + 1) (pJ lt d2 a e - 1) (Sort.swp d2 (pI lt d2 a e) (pJ lt d2 a e)):=rfl
 rw[← hi2] at Iu Iy hQ
 refine wH (P:=fun M'=>At bi T b d2 M'∧ag [b] M M') (p:=fun x=>!lt x d2[a]!) (d:=d2) (i:=i) h4 (by omega) fun rV j M5 ⟨h5,k5⟩ q0 q1 tH lC=>?_
 dsimp only[aa]
 rw[mo]
 refine qZ (P:=fun M'=>At bi T b d2 M'∧ag [b] M M') (p:=!lt d2[j]! d2[a]!) ⟨h5,k5⟩ (fun hc k hk=>?_) fun M6 ⟨h6,k6⟩=>?_
 ·have hc:i≤j:=of_decide_eq_true hc
  rw[h5.rd (z:=3) rfl hs2.symm (by omega),h5.rd (z:=3) rfl hs2.symm (by omega)]
  refine hl.use fun M7 k7=>?_
  rw[bD]
  exact hk M7 ⟨h5.keep k7,k5.trans (k7.mono (cs:=[b]) (by simp))⟩
 refine aC (fun h=>?_) (fun h=>?_)
 ·have hc:i≤j:=by
   rw[Bool.and_eq_true] at h
   exact of_decide_eq_true h.1
  rw[bz (by omega) (by omega)]
  exact tH h M6 ⟨h6,k6⟩
 have hj2:=lC h
 rw[← hj2] at Iu
 rw[Iu] at Iy hQ
 rw[pV]
 refine aC (fun hg=>?_) (fun hg=>?_)
 ·rw[if_pos (of_decide_eq_true hg)] at hQ
  rw[h6.rd (z:=3) rfl hs2.symm (by omega),h6.rd (z:=3) rfl hs2.symm (by omega)]
  exact h6.swap (z:=3) rfl hs2.symm (by omega) (by omega) fun M7 h7 k7=>hQ M7 h7 (k6.trans k7)
 have hg:¬ i > j:=of_decide_eq_false hg
 rw[if_neg hg] at hQ
 rw[h6.rd (z:=3) rfl hs2.symm (by omega),h6.rd (z:=3) rfl hs2.symm (by omega)]
 refine h6.swap (z:=3) rfl hs2.symm (by omega) (by omega) fun M7 h7 k7=>?_
 rw[add1 (by omega),bz (by omega) (by omega)]
 generalize pL lt d2 a e=R at *
 refine aG (fun m ys M3=>∃ (i j:Nat) (d3:Array bS),m=j + 1 - i∧ys=[N .i64 (i:Int),N .i64 (j:Int)]∧a + 1≤i∧i≤e + 1∧j<e∧At bi T b d3 M3∧ag [b] M M3∧d3.size=d.size∧R=Sort.partLoop lt a i j d3) _ ⟨i + 1,j - 1,_,rfl,rfl,by omega,by omega,by omega,h7,k6.trans k7,by rw[bY,hs2],Iy⟩ ?_
 rintro next m ys M3 hnext ⟨i,j,d3,rfl,rfl,hai,hie,hje,h3,k3,hs3,hm⟩
 dsimp only[aa]
 rw[Sort.partLoop] at hm
 refine BF (P:=fun M'=>At bi T b d3 M'∧ag [b] M M') (p:=fun x=>lt x d3[a]!) (d:=d3) (J:=j) ⟨h3,k3⟩ fun iq i2 M4 ⟨h4,k4⟩ h0 h1 hgo hstop=>?_
 dsimp only[aa]
 rw[mo]
 refine qZ (P:=fun M'=>At bi T b d3 M'∧ag [b] M M') (p:=lt d3[i2]! d3[a]!) ⟨h4,k4⟩ (fun hc k hk=>?_) fun M5 h5=>?_
 ·have hc:i2≤j:=of_decide_eq_true hc
  rw[h4.rd (z:=3) rfl hs3.symm (by omega),h4.rd (z:=3) rfl hs3.symm (by omega)]
  exact hl.use fun M5 k5=>hk M5 ⟨h4.keep k5,k4.trans (k5.mono (cs:=[b]) (by simp))⟩
 refine aC (fun h=>?_) (fun h=>?_)
 ·rw[add1 (by omega)]
  exact hgo h M5 h5
 have hi2:=hstop h
 rw[← hi2] at hm
 refine wH (P:=fun M'=>At bi T b d3 M'∧ag [b] M M') (p:=fun x=>!lt x d3[a]!) (d:=d3) (i:=i2) h5 (by omega) fun rV j2 M6 ⟨h6,k6⟩ q0 q1 tH lC=>?_
 dsimp only[aa]
 rw[mo]
 refine qZ (P:=fun M'=>At bi T b d3 M'∧ag [b] M M') (p:=!lt d3[j2]! d3[a]!) ⟨h6,k6⟩ (fun hc k hk=>?_) fun M7 ⟨h7,k7⟩=>?_
 ·have hc:i2≤j2:=of_decide_eq_true hc
  rw[h6.rd (z:=3) rfl hs3.symm (by omega),h6.rd (z:=3) rfl hs3.symm (by omega)]
  refine hl.use fun M8 k8=>?_
  rw[bD]
  exact hk M8 ⟨h6.keep k8,k6.trans (k8.mono (cs:=[b]) (by simp))⟩
 refine aC (fun h=>?_) (fun h=>?_)
 ·have hc:i2≤j2:=by
   rw[Bool.and_eq_true] at h
   exact of_decide_eq_true h.1
  rw[bz (by omega) (by omega)]
  exact tH h M7 ⟨h7,k7⟩
 have hj2:=lC h
 simp only[← hj2] at hm
 rw[pV]
 refine aC (fun hg=>?_) (fun hg=>?_)
 ·rw[if_pos (of_decide_eq_true hg)] at hm
  rw[hm] at hQ
  rw[h7.rd (z:=3) rfl hs3.symm (by omega),h7.rd (z:=3) rfl hs3.symm (by omega)]
  exact h7.swap (z:=3) rfl hs3.symm (by omega) (by omega) fun M8 h8 k8=>hQ M8 h8 (k7.trans k8)
 ·have hg:¬ i2 > j2:=of_decide_eq_false hg
  rw[if_neg hg,dif_pos (by omega)] at hm
  rw[h7.rd (z:=3) rfl hs3.symm (by omega),h7.rd (z:=3) rfl hs3.symm (by omega)]
  refine h7.swap (z:=3) rfl hs3.symm (by omega) (by omega) fun M8 h8 k8=>?_
  rw[add1 (by omega),bz (by omega) (by omega)]
  exact hnext _ _ _ (by omega) ⟨i2 + 1,j2 - 1,_,rfl,rfl,by omega,by omega,by omega,h8,k7.trans k8,by rw[bY,hs3],hm⟩
def QK (T TI b s:Nat) (d:Array bS) (k:Nat) (M:RM) : Prop:=At bi T b d M∧M.heap s=some (.row [N .i64 (k:Int)] false TI 0)∧s<M.next
def SN (T TI:Nat) (fv:AV) (lt:bS→bS→Bool) (c:ak) : Prop:=∀ {M:RM} {b s k i j:Nat} {d:Array bS} {Q:aj},QK T TI b s d k M→s≠b→i<d.size→j<d.size→k≤1000 →
 (∀ M',QK T TI b s d (Sort.order2 lt d i j k).2.2 M'→ag [s] M M'→Q (.tup [N .i64 (((Sort.order2 lt d i j k).1:Nat) : Int),N .i64 (((Sort.order2 lt d i j k).2.1:Nat) : Int)]) M')→c [sv b d.size 3,N .i64 (i:Int),N .i64 (j:Int),.ptr s 0,fv] M Q
theorem Tg {T TI:Nat} {fv:AV} {lt:bS→bS→Bool} {cv:FuncId→ak} (hl:qj bi lt (cO cv fv)) : SN T TI fv lt fun args M Q=>∃ a0 a1 a2 a3 a4,args=[a0,a1,a2,a3,a4]∧mV cv a0 a1 a2 a3 a4 M Q:=by
 intro M b s k i j d Q ⟨hat,hh,hlt⟩ hsb hi hj hk hQ
 refine⟨_,_,_,_,_,rfl, ?_⟩
 unfold mV
 rw[hat.rd (z:=3) rfl rfl (by omega),hat.rd (z:=3) rfl rfl (by omega)]
 refine hl.use fun M1 k1=>?_
 have h1:=hat.keep k1
 have hh1:=k1.aQ hh hlt (by simp)
 have n1:=k1.next
 unfold Sort.order2 at hQ
 refine aC (fun h=>?_) (fun h=>?_)
 ·rw[if_pos h] at hQ
  rw[aO,az hh1 rfl,add1 (by omega),aO,gY hh1 (by simp) rfl rfl]
  have kk:ag [s] M1 (M1.put s (.row ([N .i64 (k:Int)].set 0 (N .i64 ((k + 1:Nat) : Int))) false TI 0)):=(ag.refl _ _).put _ (.inr (by simp))
  refine hQ _ ⟨h1.keep' kk (by simp; omega),aU _,by rw[jV]; omega⟩ ((k1.mono (by simp)).trans kk)
 ·rw[if_neg (by rw[h]; decide)] at hQ
  exact hQ M1 ⟨h1,hh1,by omega⟩ (k1.mono (by simp))
def L9 (T TI:Nat) (fv:AV) (lt:bS→bS→Bool) (c:ak) : Prop:=∀ {M:RM} {b s k i j h:Nat} {d:Array bS} {Q:aj},QK T TI b s d k M→s≠b→i<d.size→j<d.size→h<d.size→k≤900 →
 (∀ M',QK T TI b s d (Sort.median lt d i j h k).2 M'→ag [s] M M'→Q (N .i64 (((Sort.median lt d i j h k).1:Nat) : Int)) M')→c [sv b d.size 3,N .i64 (i:Int),N .i64 (j:Int),N .i64 (h:Int),.ptr s 0,fv] M Q
theorem Li {T TI:Nat} {fv:AV} {lt:bS→bS→Bool} {c2:ak} (h2:SN T TI fv lt c2) : L9 T TI fv lt fun args M Q=>∃ a0 a1 a2 a3 a4 a5,args=[a0,a1,a2,a3,a4,a5]∧mQ c2 a0 a1 a2 a3 a4 a5 M Q:=by
 intro M b s k i j h d Q hsw hsb hi hj hh hk hQ
 refine⟨_,_,_,_,_,_,rfl, ?_⟩
 unfold mQ
 unfold Sort.median at hQ
 have o1:=vS lt d i j k
 refine h2 hsw hsb hi hj (by omega) fun M1 s1 k1=>?_
 rw[lV,lQ]
 dsimp only at hQ
 generalize Sort.order2 lt d i j k=r1 at *
 have o2:=vS lt d r1.2.1 h r1.2.2
 refine h2 s1 hsb (by omega) hh (by omega) fun M2 s2 k2=>?_
 rw[lV,lQ]
 generalize Sort.order2 lt d r1.2.1 h r1.2.2=r2 at *
 refine h2 s2 hsb (by omega) (by omega) (by omega) fun M3 s3 k3=>?_
 rw[lV,lQ]
 exact hQ M3 s3 ((k1.trans k2).trans k3)
def Sv (T TI:Nat) (fv:AV) (lt:bS→bS→Bool) (c:ak) : Prop:=∀ {M:RM} {b s k i:Nat} {d:Array bS} {Q:aj},QK T TI b s d k M→s≠b→d.size≤60000→1≤i→i + 1<d.size→k≤900 →
 (∀ M',QK T TI b s d (Sort.medianAdjacent lt d i k).2 M'→ag [s] M M'→Q (N .i64 (((Sort.medianAdjacent lt d i k).1:Nat) : Int)) M')→c [sv b d.size 3,N .i64 (i:Int),.ptr s 0,fv] M Q
theorem Tw {T TI:Nat} {fv:AV} {lt:bS→bS→Bool} {cm:ak} (hm:L9 T TI fv lt cm) : Sv T TI fv lt fun args M Q=>∃ a0 a1 a2 a3,args=[a0,a1,a2,a3]∧ji cm a0 a1 a2 a3 M Q:=by
 intro M b s k i d Q hsw hsb hsz h1 h2 hk hQ
 refine⟨_,_,_,_,rfl, ?_⟩
 unfold ji
 rw[bz (by omega) (by omega),add1 (by omega)]
 exact hm hsw hsb (by omega) (by omega) (by omega) hk fun M1 s1 k1=>hQ M1 s1 k1
def Io (lt:bS→bS→Bool) (d:Array bS) (a e:Nat) : Nat × Nat :=
 if e - a ≥ 8 then(if e - a ≥ 50 then Sort.median lt d (Sort.medianAdjacent lt d (a + (e - a) / 4 * 1) 0).1 (Sort.medianAdjacent lt d (a + (e - a) / 4 * 2) (Sort.medianAdjacent lt d (a + (e - a) / 4 * 1) 0).2).1 (Sort.medianAdjacent lt d (a + (e - a) / 4 * 3) (Sort.medianAdjacent lt d (a + (e - a) / 4 * 2) (Sort.medianAdjacent lt d (a + (e - a) / 4 * 1) 0).2).2).1 (Sort.medianAdjacent lt d (a + (e - a) / 4 * 3) (Sort.medianAdjacent lt d (a + (e - a) / 4 * 2) (Sort.medianAdjacent lt d (a + (e - a) / 4 * 1) 0).2).2).2
  else Sort.median lt d (a + (e - a) / 4 * 1) (a + (e - a) / 4 * 2) (a + (e - a) / 4 * 3) 0) else(a + (e - a) / 4 * 2,0)
theorem ahA (lt:bS→bS→Bool) (d:Array bS) (a e:Nat) : Sort.choosePivot lt d a e=((Io lt d a e).1,if (Io lt d a e).2=0 then .increasing else if (Io lt d a e).2=12 then .decreasing else .unknown):=rfl
def Tn (T:Nat) (fv:AV) (lt:bS→bS→Bool) (c:ak) : Prop:=∀ {M:RM} {b a e:Nat} {d:Array bS} {Q:aj},At bi T b d M→d.size≤60000→a<e→e≤d.size →
 (∀ M',At bi T b d M'→ag [] M M'→Q (.tup [N .i64 (((Sort.choosePivot lt d a e).1:Nat) : Int),N .i64 (nW (Sort.choosePivot lt d a e).2)]) M')→c [sv b d.size 3,N .i64 (a:Int),N .i64 (e:Int),fv] M Q
theorem Ta {T TI:Nat} {fv:AV} {lt:bS→bS→Bool} {ca cm:ak} (ha:Sv T TI fv lt ca) (hm:L9 T TI fv lt cm) : Tn T fv lt fun args M Q=>∃ a0 a1 a2 a3,args=[a0,a1,a2,a3]∧jZ TI ca cm a0 a1 a2 a3 M Q:=by
 intro M b a e d Q hat hsz hae he hQ
 refine⟨_,_,_,_,rfl, ?_⟩
 unfold jZ
 simp only[bF]
 rw[eP (by omega) (by omega),bg]
 have kk:ag [] M (M.push (.row [N .i64 0] false TI 0)):=(ag.refl _ _).push _
 have sw0:QK T TI b M.next d 0 (M.push (.row [N .i64 0] false TI 0)):=⟨hat.keep kk,RM.aT _,by simp[RM.push]⟩
 have hsb:M.next≠b:=by have:=hat.lt; omega
 have back:∀ M',ag [M.next] (M.push (.row [N .i64 0] false TI 0)) M'→ag [] M M':=fun M' k=>kk.cz k fun c hc=>.inl (by simp at hc; omega)
 generalize M.push (.row [N .i64 0] false TI 0)=M1 at *
 generalize M.next=s at *
 have hq:∀ (k:Nat) (c:Int),c=(k:Int)→k≤3→∀ (K:AV→Prop),(af .quo (N .i64 ((e - a:Nat) : Int)) (N .i64 4) fun t18=>af .mul t18 (N .i64 c) fun t19=>af .add (N .i64 (a:Int)) t19 K)=K (N .i64 ((a + (e - a) / 4 * k:Nat) : Int)):=fun k c hc hk K=>by
  subst hc
  have hb:(e - a) / 4 * k≤(e - a) * 3:=Nat.mul_le_mul (Nat.div_le_self _ _) hk
  rw[mg,show(4:Int)=((4:Nat) : Int) from rfl,qz,aZ (by omega) (by omega),wy,← Int.natCast_mul,aZ (by omega) (by omega),addN (by omega)]
  exact propext ⟨fun h=>h.2,fun h=>⟨by decide,h⟩⟩
 rw[hq 1 1 rfl (by omega),hq 2 2 rfl (by omega),hq 3 3 rfl (by omega)]
 rw[ahA] at hQ
 have hr:Io lt d a e=Io lt d a e:=rfl
 conv at hr=>rhs; unfold Io
 generalize Io lt d a e=r at *
 refine aP (fun zs M'=>zs=[N .i64 ((r.1:Nat) : Int)]∧QK T TI b s d r.2 M'∧ag [s] M1 M') ?_ ?_
 ·rintro zs M' ⟨rfl,⟨h3,hh,_⟩,k3⟩
  dsimp only[aa]
  have:=hQ M' h3 (back M' k3)
  rw[az hh rfl,bL]
  by_cases h0:r.2=0
  ·rw[show((r.2:Int) == 0)=true by rw[h0]; rfl,dP]
   rw[if_pos h0] at this
   exact this
  ·rw[show((r.2:Int) == 0)=false by rw[beq_eq_false_iff_ne]; omega,bA,bL]
   rw[if_neg h0] at this
   by_cases h12:r.2=12
   ·rw[show((r.2:Int) == 12)=true by rw[h12]; rfl,dP]
    rw[if_pos h12] at this
    exact this
   ·rw[show((r.2:Int) == 12)=false by rw[beq_eq_false_iff_ne]; omega,bA]
    rw[if_neg h12] at this
    exact this
 intro J hJ
 rw[show(8:Int)=((8:Nat) : Int) from rfl,jy]
 refine aC (fun h8=>?_) (fun h8=>?_)
 ·have h8:e - a ≥ 8:=of_decide_eq_true h8
  rw[if_pos h8] at hr
  refine aP (fun zs M'=>∃ x y z k:Nat,zs=[N .i64 (x:Int),N .i64 (y:Int),N .i64 (z:Int)]∧QK T TI b s d k M'∧ag [s] M1 M'∧x<d.size∧y<d.size∧z<d.size∧k≤900∧r=Sort.median lt d x y z k) ?_ ?_
  ·rintro zs M' ⟨x,y,z,k,rfl,s3,k3,hx,hy,hz,hk,rfl⟩
   dsimp only[aa]
   exact hm s3 hsb hx hy hz hk fun M4 s4 k4=>hJ _ _ ⟨rfl,s4,k3.trans k4⟩
  intro J0 hJ0
  rw[show(50:Int)=((50:Nat) : Int) from rfl,jy]
  refine aC (fun h50=>?_) (fun h50=>?_)
  ·have h50:e - a ≥ 50:=of_decide_eq_true h50
   rw[if_pos h50] at hr
   have m1:=yP lt d (i:=a + (e - a) / 4 * 1 - 1) (j:=a + (e - a) / 4 * 1) (h:=a + (e - a) / 4 * 1 + 1) (k:=0) (n:=d.size) (by omega) (by omega) (by omega)
   have r1:(Sort.medianAdjacent lt d (a + (e - a) / 4 * 1) 0).1<d.size∧(Sort.medianAdjacent lt d (a + (e - a) / 4 * 1) 0).2≤0 + 3:=m1
   refine ha sw0 hsb hsz (by omega) (by omega) (by omega) fun M2 s2 k2=>?_
   generalize Sort.medianAdjacent lt d (a + (e - a) / 4 * 1) 0=q1 at *
   have m2:=yP lt d (i:=a + (e - a) / 4 * 2 - 1) (j:=a + (e - a) / 4 * 2) (h:=a + (e - a) / 4 * 2 + 1) (k:=q1.2) (n:=d.size) (by omega) (by omega) (by omega)
   have r2:(Sort.medianAdjacent lt d (a + (e - a) / 4 * 2) q1.2).1<d.size∧(Sort.medianAdjacent lt d (a + (e - a) / 4 * 2) q1.2).2≤q1.2 + 3:=m2
   refine ha s2 hsb hsz (by omega) (by omega) (by omega) fun M3 s3 k3=>?_
   generalize Sort.medianAdjacent lt d (a + (e - a) / 4 * 2) q1.2=q2 at *
   have m3:=yP lt d (i:=a + (e - a) / 4 * 3 - 1) (j:=a + (e - a) / 4 * 3) (h:=a + (e - a) / 4 * 3 + 1) (k:=q2.2) (n:=d.size) (by omega) (by omega) (by omega)
   have r3:(Sort.medianAdjacent lt d (a + (e - a) / 4 * 3) q2.2).1<d.size∧(Sort.medianAdjacent lt d (a + (e - a) / 4 * 3) q2.2).2≤q2.2 + 3:=m3
   refine ha s3 hsb hsz (by omega) (by omega) (by omega) fun M4 s4 k4=>?_
   generalize Sort.medianAdjacent lt d (a + (e - a) / 4 * 3) q2.2=q3 at *
   exact hJ0 _ _ ⟨q1.1,q2.1,q3.1,q3.2,rfl,s4,(k2.trans k3).trans k4,r1.1,r2.1,r3.1,by omega,hr⟩
  ·have h50:¬ e - a ≥ 50:=of_decide_eq_false h50
   rw[if_neg h50] at hr
   exact hJ0 _ _ ⟨_,_,_,0,rfl,sw0,ag.refl _ _,by omega,by omega,by omega,by omega,hr⟩
 ·have h8:¬ e - a ≥ 8:=of_decide_eq_false h8
  rw[if_neg h8] at hr
  subst hr
  exact hJ _ _ ⟨rfl,sw0,ag.refl _ _⟩
def NN (T:Nat) (fv:AV) (lt:bS→bS→Bool) (c:ak) : Prop:=∀ {M:RM} {b a e:Nat} {d:Array bS} {Q:aj},At bi T b d M→d.size≤60000→a<e→e≤d.size→(∀ M',At bi T b (Sort.partialInsertionSort lt d a e).1 M'→ag [b] M M'→Q (Bo (Sort.partialInsertionSort lt d a e).2) M') →
 c [sv b d.size 3,N .i64 (a:Int),N .i64 (e:Int),fv] M Q
theorem NQ {T:Nat} {fv:AV} {lt:bS→bS→Bool} {cv:FuncId→ak} (hl:qj bi lt (cO cv fv)) : NN T fv lt fun args M Q=>∃ a0 a1 a2 a3,args=[a0,a1,a2,a3]∧gT cv a0 a1 a2 a3 M Q:=by
 intro M b a e d Q hat hsz hae he hQ
 refine⟨_,_,_,_,rfl, ?_⟩
 unfold gT
 simp only[eu,dE,dQ,bF]
 rw[add1 (by omega)]
 unfold Sort.partialInsertionSort at hQ
 obtain⟨R,hR⟩ : ∃ R,R=Sort.partialIns lt a e 5 (a + 1) d:=⟨_,rfl⟩
 rw[← hR] at hQ
 refine aG (fun m ys M3=>∃ (i s:Nat) (d3:Array bS),m=s∧s≤5∧ys=[N .i64 (i:Int),N .i64 ((5 - s:Nat) : Int)]∧a + 1≤i∧i≤e∧At bi T b d3 M3∧ag [b] M M3∧d3.size=d.size∧R=Sort.partialIns lt a e s i d3) _ ⟨a + 1,5,d,rfl,by omega,rfl,by omega,by omega,hat,ag.refl _ _,rfl,hR⟩ ?_
 rintro next m ys M3 hnext ⟨i,s,d3,hms,hs5,rfl,hai,hie,h3,k3,hs3,hm⟩
 dsimp only[aa]
 rw[show(5:Int)=((5:Nat) : Int) from rfl,dB]
 refine aC (fun hg=>?_) (fun hg=>?_)
 ·have hg:5 - s<5:=of_decide_eq_true hg
  obtain⟨s',rfl⟩ : ∃ s',s=s' + 1:=⟨s - 1,by omega⟩
  rw[xx] at hm
  refine aP (fun zs M'=>∃ (i' : Nat) (d4:Array bS),zs=[N .i64 (i' : Int)]∧a + 1≤i'∧i'≤e∧At bi T b d4 M'∧ag [b] M M'∧d4.size=d.size∧R=Sort.partialIns lt a e s' i' d4) ?_ ?_
  ·rintro zs M' ⟨i',d4,rfl,h1,h2,h4,k4,h5,h6⟩
   dsimp only[aa]
   rw[add1 (by omega)]
   exact hnext _ _ _ (by omega) ⟨i',s',d4,rfl,by omega,by congr 4; omega,h1,h2,h4,k4,h5,h6⟩
  intro J hJ
  obtain⟨R5,hR5⟩ : ∃ R5,R5=Sort.scanSorted lt d3 e i:=⟨_,rfl⟩
  rw[← hR5] at hm
  refine aG (fun m ys M5=>∃ (j:Nat),m=e - j∧ys=[N .i64 (j:Int)]∧i≤j∧j≤e∧At bi T b d3 M5∧ag [b] M M5∧R5=Sort.scanSorted lt d3 e j) _ ⟨i,rfl,rfl,Nat.le_refl _,hie,h3,k3,hR5⟩ ?_
  rintro iq m ys M5 dm ⟨j,rfl,rfl,hij,hje,h5,k5,hm5⟩
  dsimp only[aa]
  rw[Sort.scanSorted] at hm5
  rw[dB]
  refine qZ (P:=fun M'=>At bi T b d3 M'∧ag [b] M M') (p:=!lt d3[j]! d3[j - 1]!) ⟨h5,k5⟩ (fun hc k hk=>?_) fun M6 ⟨h6,k6⟩=>?_
  ·have hc:j<e:=of_decide_eq_true hc
   rw[h5.rd (z:=3) rfl hs3.symm (by omega),bz (by omega) (by omega),h5.rd (z:=3) rfl hs3.symm (by omega)]
   refine hl.use fun M7 k7=>?_
   rw[bD]
   exact hk M7 ⟨h5.keep k7,k5.trans (k7.mono (cs:=[b]) (by simp))⟩
  refine aC (fun h=>?_) (fun h=>?_)
  ·have hc:j<e:=by
    rw[Bool.and_eq_true] at h
    exact of_decide_eq_true h.1
   rw[if_pos h] at hm5
   rw[add1 (by omega)]
   exact dm _ _ _ (by omega) ⟨j + 1,rfl,rfl,by omega,by omega,h6,k6,hm5⟩
  rw[if_neg (by rw[h]; decide)] at hm5
  subst hm5
  rw[Tj]
  refine aC (fun r9=>?_) (fun r9=>?_)
  ·rw[if_pos (of_decide_eq_true r9)] at hm
   rw[hm] at hQ
   exact hQ M6 h6 k6
  have r9:¬ R5=e:=of_decide_eq_false r9
  rw[if_neg r9] at hm
  rw[eP (by omega) (by omega),show(50:Int)=((50:Nat) : Int) from rfl,dB]
  refine aC (fun h50=>?_) (fun h50=>?_)
  ·rw[if_pos (of_decide_eq_true h50)] at hm
   rw[hm] at hQ
   exact hQ M6 h6 k6
  rw[if_neg (of_decide_eq_false h50)] at hm
  rw[bz (by omega) (by omega),bz (by omega) (by omega),h6.rd (z:=3) rfl hs3.symm (by omega),h6.rd (z:=3) rfl hs3.symm (by omega)]
  refine h6.swap (z:=3) rfl hs3.symm (by omega) (by omega) fun M7 h7 k7'=>?_
  have k7:=k6.trans k7'
  have hs6:(Sort.swp d3 R5 (R5 - 1)).size=d.size:=by rw[bY,hs3]
  generalize Sort.swp d3 R5 (R5 - 1)=d6 at *
  refine aP (fun zs M'=>zs=[]∧At bi T b (if R5 - a ≥ 2 then Sort.shiftDown lt (R5 - 1) d6 else d6) M'∧ag [b] M M') ?_ ?_
  ·rintro zs M8 ⟨rfl,h8,k8⟩
   have hs7:(if R5 - a ≥ 2 then Sort.shiftDown lt (R5 - 1) d6 else d6).size=d.size:=by
    split
    ·rw[zt,hs6]
    ·exact hs6
   generalize (if R5 - a ≥ 2 then Sort.shiftDown lt (R5 - 1) d6 else d6)=d7 at *
   rw[eP (by omega) (by omega),show(2:Int)=((2:Nat) : Int) from rfl,jy]
   refine aC (fun h2=>?_) (fun h2=>?_)
   ·rw[if_pos (of_decide_eq_true h2)] at hm
    rw[add1 (by omega)]
    obtain⟨R8,hR8⟩ : ∃ R8,R8=Sort.shiftUp lt e (R5 + 1) d7:=⟨_,rfl⟩
    rw[← hR8] at hm
    refine aG (fun m ys M8=>∃ (j:Nat) (d8:Array bS),m=e - j∧ys=[N .i64 (j:Int)]∧R5 + 1≤j∧j≤e∧At bi T b d8 M8∧ag [b] M M8∧d8.size=d.size∧R8=Sort.shiftUp lt e j d8) _ ⟨R5 + 1,d7,rfl,rfl,Nat.le_refl _,by omega,h8,k8,hs7,hR8⟩ ?_
    rintro rV m ys M9 sj ⟨j,d8,rfl,rfl,hj1,hj2,h9,k9,fu,hm8⟩
    dsimp only[aa]
    rw[Sort.shiftUp] at hm8
    rw[dB]
    refine aC (fun hl1=>?_) (fun hl1=>?_)
    ·have hl1:j<e:=of_decide_eq_true hl1
     rw[if_pos hl1] at hm8
     rw[h9.rd (z:=3) rfl fu.symm (by omega),bz (by omega) (by omega),h9.rd (z:=3) rfl fu.symm (by omega)]
     refine hl.use fun M10 tQ=>?_
     have h10:=h9.keep tQ
     have k10:=k9.trans (tQ.mono (cs:=[b]) (by simp))
     rw[bD]
     refine aC (fun hn=>?_) (fun hn=>?_)
     ·rw[if_pos hn] at hm8
      subst hm8
      exact hJ _ _ ⟨R5,R8,rfl,by omega,by omega,h10,k10,fu,hm⟩
     ·rw[if_neg (by rw[hn]; decide)] at hm8
      rw[bz (by omega) (by omega),bz (by omega) (by omega),h10.rd (z:=3) rfl fu.symm (by omega),h10.rd (z:=3) rfl fu.symm (by omega)]
      refine h10.swap (z:=3) rfl fu.symm (by omega) (by omega) fun M11 h11 k11=>?_
      rw[add1 (by omega)]
      exact sj _ _ _ (by omega) ⟨j + 1,_,rfl,rfl,by omega,by omega,h11,k10.trans k11,by rw[bY,fu],hm8⟩
    ·rw[if_neg (of_decide_eq_false hl1)] at hm8
     subst hm8
     exact hJ _ _ ⟨R5,R8,rfl,by omega,by omega,h9,k9,fu,hm⟩
   ·rw[if_neg (of_decide_eq_false h2)] at hm
    exact hJ _ _ ⟨R5,d7,rfl,by omega,by omega,h8,k8,hs7,hm⟩
  intro J2 hJ2
  rw[eP (by omega) (by omega),show(2:Int)=((2:Nat) : Int) from rfl,jy]
  refine aC (fun h2=>?_) (fun h2=>?_)
  ·rw[if_pos (of_decide_eq_true h2)] at hJ2
   rw[bz (by omega) (by omega)]
   obtain⟨R8,hR8⟩ : ∃ R8,R8=Sort.shiftDown lt (R5 - 1) d6:=⟨_,rfl⟩
   rw[← hR8] at hJ2
   refine aG (fun m ys M8=>∃ (j:Nat) (d8:Array bS),m=j + 1∧ys=[N .i64 (j:Int)]∧j<R5∧At bi T b d8 M8∧ag [b] M M8∧d8.size=d.size∧R8=Sort.shiftDown lt j d8) _ ⟨R5 - 1,d6,rfl,rfl,by omega,h7,k7,hs6,hR8⟩ ?_
   rintro rV m ys M8 sj ⟨j,d8,rfl,rfl,hj1,h8,k8,fu,hm8⟩
   dsimp only[aa]
   rw[show(1:Int)=((1:Nat) : Int) from rfl,jy]
   refine aC (fun hl1=>?_) (fun hl1=>?_)
   ·have hl1:j ≥ 1:=of_decide_eq_true hl1
    obtain⟨j',rfl⟩ : ∃ j',j=j' + 1:=⟨j - 1,by omega⟩
    rw[Sort.shiftDown] at hm8
    rw[h8.rd (z:=3) rfl fu.symm (by omega),eP (by omega) (by omega),Nat.add_sub_cancel,h8.rd (z:=3) rfl fu.symm (by omega)]
    refine hl.use fun M10 tQ=>?_
    have h10:=h8.keep tQ
    have k10:=k8.trans (tQ.mono (cs:=[b]) (by simp))
    rw[bD]
    refine aC (fun hn=>?_) (fun hn=>?_)
    ·rw[if_pos hn] at hm8
     subst hm8
     exact hJ2 _ _ ⟨rfl,h10,k10⟩
    ·rw[if_neg (by rw[hn]; decide)] at hm8
     rw[eP (by omega) (by omega),eP (by omega) (by omega),Nat.add_sub_cancel,h10.rd (z:=3) rfl fu.symm (by omega),h10.rd (z:=3) rfl fu.symm (by omega)]
     refine h10.swap (z:=3) rfl fu.symm (by omega) (by omega) fun M11 h11 k11=>?_
     rw[eP (by omega) (by omega),Nat.add_sub_cancel]
     exact sj _ _ _ (by omega) ⟨j',_,rfl,rfl,by omega,h11,k10.trans k11,by rw[bY,fu],hm8⟩
   ·have hl1:¬ j ≥ 1:=of_decide_eq_false hl1
    have h0:j=0:=by omega
    subst h0
    rw[Sort.shiftDown] at hm8
    subst hm8
    exact hJ2 _ _ ⟨rfl,h8,k8⟩
  ·rw[if_neg (of_decide_eq_false h2)] at hJ2
   exact hJ2 _ _ ⟨rfl,h7,k7⟩
 ·have hg:¬ 5 - s<5:=of_decide_eq_false hg
  have h0:s=0:=by omega
  subst h0
  rw[Sort.partialIns] at hm
  rw[hm] at hQ
  exact hQ M3 h3 k3
theorem Y4 {T TX:Nat} {fv:AV} {cp cx:ak} (hp:YT cp) (hx:acC TX cx) : SortG bi T 3 fv Sort.breakPatterns (fun _ _ _=>True) fun args M Q=>∃ a0 a1 a2 a3,args=[a0,a1,a2,a3]∧jv TX cp cx a0 a1 a2 a3 M Q:=by
 intro M b a e d Q hat hsz hae he _ hQ
 refine⟨_,_,_,_,rfl, ?_⟩
 unfold jv
 simp only[bF]
 rw[eP hae (by omega),show(8:Int)=((8:Nat) : Int) from rfl,jy]
 unfold Sort.breakPatterns at hQ
 refine aC (fun h8=>?_) (fun h8=>?_)
 ·have h8:e - a ≥ 8:=of_decide_eq_true h8
  rw[if_pos h8] at hQ
  have hbl:=yL (x:=e - a) (by omega) (by omega)
  rw[oJ,jT (by omega) (by omega),bg]
  have kk:ag [] M (M.push (.row [(N .u64 0)] false TX 0)):=(ag.refl _ _).push _
  have hsb:M.next≠b:=by have:=hat.lt; omega
  have hh0:(M.push (.row [(N .u64 0)] false TX 0)).heap M.next=some (.row [N .u64 0] false TX 0):=RM.aT _
  have Yv:(UInt64.ofNat (e - a)).toNat=e - a:=by rw[UInt64.toNat_ofNat']; omega
  have hn0:M.next<(M.push (.row [(N .u64 0)] false TX 0)).next:=by simp[RM.push]
  rw[gY hh0 (by simp) rfl rfl]
  have kS:ag [] M ((M.push (.row [(N .u64 0)] false TX 0)).put M.next (.row (([N .u64 0] : List AV).set 0 (N .u64 ((e - a:Nat) : Int))) false TX 0)):=kk.new _ (Nat.le_refl _)
  have hs1:((M.push (.row [(N .u64 0)] false TX 0)).put M.next (.row (([N .u64 0] : List AV).set 0 (N .u64 ((e - a:Nat) : Int))) false TX 0)).heap M.next=some (.row [N .u64 ((UInt64.ofNat (e - a)).toNat:Int)] false TX 0):=by
   rw[aU,Yv]; rfl
  have hn1:M.next<((M.push (.row [(N .u64 0)] false TX 0)).put M.next (.row (([N .u64 0] : List AV).set 0 (N .u64 ((e - a:Nat) : Int))) false TX 0)).next:=hn0
  generalize (M.push (.row [(N .u64 0)] false TX 0)).put M.next (.row (([N .u64 0] : List AV).set 0 (N .u64 ((e - a:Nat) : Int))) false TX 0)=M1 at *
  have ahr:=hat.keep kS
  have back:∀ M',ag [b,M.next] M1 M'→ag [b] M M':=fun M' k=>(kS.mono (cs:=[b]) (by simp)).cz k fun c hc=>by simp at hc; rcases hc with h | h <;> simp[h]
  generalize M.next=s at *
  refine hp (by omega) (by omega) ?_
  have hq:∀ (c:Int),c=((2:Nat) : Int)→∀ (K:AV→Prop),(af .quo (N .i64 ((e - a:Nat) : Int)) (N .i64 4) fun t18=>af .mul t18 (N .i64 c) fun t19=>af .add (N .i64 (a:Int)) t19 K)=K (N .i64 ((a + (e - a) / 4 * 2:Nat) : Int)):=fun c hc K=>by
   subst hc
   rw[mg,show(4:Int)=((4:Nat) : Int) from rfl,qz,aZ (by omega) (by omega),wy,← Int.natCast_mul,aZ (by omega) (by omega),addN (by omega)]
   exact propext ⟨fun h=>h.2,fun h=>⟨by decide,h⟩⟩
  rw[hq 2 rfl,bz (by omega) (by omega)]
  have Z6:(Sort.breakStep a (e - a) (1 <<< Sort.bitsLen (e - a)) (Sort.breakStep a (e - a) (1 <<< Sort.bitsLen (e - a)) (Sort.breakStep a (e - a) (1 <<< Sort.bitsLen (e - a)) (UInt64.ofNat (e - a),d) (a + (e - a) / 4 * 2 - 1)) (a + (e - a) / 4 * 2 - 1 + 1)) (a + (e - a) / 4 * 2 - 1 + 2)).2=(u7 a (e - a) (2 ^ Sort.bitsLen (e - a)) (a + (e - a) / 4 * 2 - 1) d 3).2:=by
   rw[Nat.shiftLeft_eq,Nat.one_mul]; rfl
  have hQ:∀ M',At bi T b (u7 a (e - a) (2 ^ Sort.bitsLen (e - a)) (a + (e - a) / 4 * 2 - 1) d 3).2 M'→ag [b] M M'→Q (.tup []) M':=fun M' h k=>hQ M' (by rw[Z6]; exact h) k
  generalize hmd:2 ^ Sort.bitsLen (e - a)=md at *
  generalize hi0:a + (e - a) / 4 * 2 - 1=i0 at *
  refine aG (fun m ys M3=>∃ (k:Nat),m=3 - k∧k≤3∧ys=[N .i64 ((i0 + k:Nat) : Int)]∧At bi T b (u7 a (e - a) md i0 d k).2 M3∧M3.heap s=some (.row [N .u64 ((u7 a (e - a) md i0 d k).1.toNat:Int)] false TX 0)∧s<M3.next∧ag [b,s] M1 M3) _ ⟨0,rfl,by omega,rfl,ahr,hs1,hn1,ag.refl _ _⟩ ?_
  rintro next m ys M3 hnext ⟨k,rfl,hk,rfl,h3,hh3,hn3,k3⟩
  dsimp only[aa]
  have hsk:=XK a (e - a) md i0 d k
  have Y2:u7 a (e - a) md i0 d (k + 1)=Sort.breakStep a (e - a) md (u7 a (e - a) md i0 d k) (i0 + k):=rfl
  generalize aao:u7 a (e - a) md i0 d k=st at *
  rw[hq 2 rfl,add1 (by omega),mo]
  refine aC (fun hg=>?_) (fun hg=>?_)
  ·have hg:i0 + k≤a + (e - a) / 4 * 2 + 1:=of_decide_eq_true hg
   refine aP (fun zs M'=>At bi T b (u7 a (e - a) md i0 d (k + 1)).2 M'∧M'.heap s=some (.row [N .u64 ((u7 a (e - a) md i0 d (k + 1)).1.toNat:Int)] false TX 0)∧s<M'.next∧ag [b,s] M1 M') ?_ ?_
   ·rintro zs M' ⟨c1,c2,c3,c4⟩
    rw[add1 (by omega)]
    exact hnext _ _ _ (by omega) ⟨k + 1,rfl,by omega,rfl,c1,c2,c3,c4⟩
   intro J hJ
   refine hx hh3 hn3 fun M4 hh4 k4 n4=>?_
   have h4:=h3.keep' k4 (by simp; omega)
   rw[Y2] at hJ
   unfold Sort.breakStep at hJ
   dsimp only at hJ
   generalize Sort.xorNext st.1=r at *
   rw[iX,jT (by omega) (by omega),show(md:Int) - 1=((md - 1:Nat) : Int) by omega,Nc,Oe rfl]
   have hlt:r.toNat &&& (md - 1)<md:=by
    rw[← hmd,Nat.and_two_pow_sub_one_eq_mod]
    exact Nat.mod_lt _ (by rw[hmd]; omega)
   rw[Nat.mod_eq_of_lt (show r.toNat &&& (md - 1)<2 ^ Bw .u64 by show _<2 ^ 64; omega)]
   generalize r.toNat &&& (md - 1)=o at *
   rw[oJ,aZ (by omega) (by omega)]
   refine aP (fun zs M'=>zs=[N .i64 (((if o ≥ e - a then o - (e - a) else o) : Nat) : Int)]∧M'=M4) ?_ ?_
   ·rintro zs M' ⟨rfl,rfl⟩
    dsimp only[aa]
    have ho:(if o ≥ e - a then o - (e - a) else o)<e - a:=by split <;> omega
    generalize (if o ≥ e - a then o - (e - a) else o)=o2 at *
    rw[addN (by omega),addN (by omega),h4.rd (z:=3) rfl hsk.symm (by omega),h4.rd (z:=3) rfl hsk.symm (by omega)]
    refine h4.swap (z:=3) rfl hsk.symm (by omega) (by omega) fun M5 h5 k5=>?_
    exact hJ _ _ ⟨h5,k5.aQ hh4 (by omega) (by simp; omega),by have:=k5.next; omega,(k3.trans (k4.mono (cs:=[b,s]) (by simp))).trans (k5.mono (cs:=[b,s]) (by simp))⟩
   intro J4 hJ4
   rw[jy]
   refine aC (fun hg2=>?_) (fun hg2=>?_)
   ·have hg2:o ≥ e - a:=of_decide_eq_true hg2
    rw[eP (by omega) (by omega)]
    exact hJ4 _ _ ⟨by rw[if_pos hg2],rfl⟩
   ·exact hJ4 _ _ ⟨by rw[if_neg (of_decide_eq_false hg2)],rfl⟩
  ·have hg:¬ i0 + k≤a + (e - a) / 4 * 2 + 1:=of_decide_eq_false hg
   have hk3:k=3:=by omega
   subst hk3
   rw[aao] at hQ
   exact hQ M3 h3 (back M3 k3)
 ·rw[if_neg (of_decide_eq_false h8)] at hQ
  exact hQ M hat (ag.refl _ _)
def acv (T m:Nat) (fv:AV) (lt:bS→bS→Bool) (c:ak) : Prop:=∀ {M:RM} {b a e limit:Nat} {d:Array bS} {Q:aj},At bi T b d M→d.size≤60000→a≤e→e≤d.size→e - a<m→limit≤1000000→(∀ M',At bi T b (Sort.pdq lt d a e limit true true) M'→ag [b] M M'→Q (.tup []) M') →
 c [sv b d.size 3,N .i64 (a:Int),N .i64 (e:Int),N .i64 (limit:Int),fv] M Q
theorem adR {T m:Nat} {fv:AV} {lt:bS→bS→Bool} {cv:FuncId→ak} {ci ch cb cc cr cp ce ct cq:ak} (hlt:Sort.SWO lt) (hi:SortG bi T 3 fv (Sort.insertionSort lt) (fun _ _ _=>True) ci) (hh:SortG bi T 3 fv (Sort.heapSort lt) (fun _ a e=>a<e) ch) (hb:SortG bi T 3 fv Sort.breakPatterns (fun _ _ _=>True) cb) (hc:Tn T fv lt cc) (hr:SortG bi T 3 fv Sort.reverseRange (fun _ a e=>a<e) cr)
  (hp:NN T fv lt cp) (hl:qj bi lt (cO cv fv)) (he:Sg T fv lt ce) (ht:adK T fv lt ct) (hq:acv T m fv lt cq) : acv T (m + 1) fv lt fun args M Q=>∃ a0 a1 a2 a3 a4,args=[a0,a1,a2,a3,a4]∧gU ci ch cb cc cr cp cv ce ct cq a0 a1 a2 a3 a4 M Q:=by
 intro M b a e limit d Q hat hsz hae hed hm hlim hQ
 refine⟨_,_,_,_,_,rfl, ?_⟩
 unfold gU
 simp only[eu,dE,dQ,bF]
 obtain⟨R,hR⟩ : ∃ R,R=Sort.pdq lt d a e limit true true:=⟨_,rfl⟩
 rw[← hR] at hQ
 refine aG (fun m' ys M3=>∃ (a e limit:Nat) (wb wp:Bool) (d3:Array bS),m'=e - a∧ys=[N .i64 (a:Int),N .i64 (e:Int),N .i64 (limit:Int),Bo wb,Bo wp]∧a≤e∧e≤d.size∧e - a<m + 1∧limit≤1000000∧At bi T b d3 M3∧ag [b] M M3∧d3.size=d.size∧R=Sort.pdq lt d3 a e limit wb wp) _
  ⟨a,e,limit,true,true,d,rfl,rfl,hae,hed,hm,hlim,hat,ag.refl _ _,rfl,hR⟩ ?_
 clear hR hae hed hm hlim
 rintro next m' ys M4 hnext ⟨a,e,limit,wb,wp,d3,rfl,rfl,hae,hed,hm,hlim,h4,k4,hs3,hR⟩
 dsimp only[aa]
 rw[Cx] at hR
 rw[eP hae (by omega),show(12:Int)=((12:Nat) : Int) from rfl,mo]
 refine aC (fun hg=>?_) (fun hg=>?_)
 ·rw[if_pos (of_decide_eq_true hg)] at hR
  rw[← hs3]
  refine hi h4 (by omega) hae (by omega) trivial fun M5 h5 k5=>?_
  rw[← hR] at h5
  exact hQ M5 h5 (k4.trans k5)
 have hg:¬ e - a≤12:=of_decide_eq_false hg
 rw[if_neg hg] at hR
 rw[show(0:Int)=((0:Nat) : Int) from rfl,Tj]
 refine aC (fun hg0=>?_) (fun hg0=>?_)
 ·rw[if_pos (of_decide_eq_true hg0)] at hR
  rw[← hs3]
  refine hh h4 (by omega) hae (by omega) (by omega) fun M5 h5 k5=>?_
  rw[← hR] at h5
  exact hQ M5 h5 (k4.trans k5)
 have hg0:¬ limit=0:=of_decide_eq_false hg0
 rw[if_neg hg0] at hR
 refine aP (fun zs M'=>zs=[N .i64 (((if !wb then limit - 1 else limit) : Nat) : Int)]∧At bi T b (if !wb then Sort.breakPatterns d3 a e else d3) M'∧ag [b] M M') ?_ ?_
 ·rintro zs M5 ⟨rfl,h5,k5⟩
  dsimp only[aa]
  have hs5:(if !wb then Sort.breakPatterns d3 a e else d3).size=d.size:=by
   split
   ·rw[RL,hs3]
   ·exact hs3
  have hl5:(if !wb then limit - 1 else limit)≤1000000:=by split <;> omega
  generalize (if !wb then Sort.breakPatterns d3 a e else d3)=d5 at *
  generalize (if !wb then limit - 1 else limit)=lim at *
  rw[← hs5]
  refine hc h5 (by omega) (by omega) (by omega) fun M6 h6 k6=>?_
  rw[hs5]
  have hcr:=Sort.choosePivot_holds lt d5 a e (by omega)
  unfold gA at hR
  generalize Sort.choosePivot lt d5 a e=cpv at *
  have k6':=k5.trans (k6.mono (cs:=[b]) (by simp))
  rw[lV,lQ]
  refine aP (fun zs M'=>zs=[N .i64 (((if cpv.2=.decreasing then(e - 1) - (cpv.1 - a) else cpv.1) : Nat) : Int),N .i64 (nW (if cpv.2=.decreasing then .increasing else cpv.2))]∧At bi T b (if cpv.2=.decreasing then Sort.reverseRange d5 a e else d5) M'∧ag [b] M M') ?_ ?_
  ·rintro zs M7 ⟨rfl,h7,k7⟩
   dsimp only[aa]
   have hs7:(if cpv.2=.decreasing then Sort.reverseRange d5 a e else d5).size=d.size:=by
    split
    ·rw[adJ,hs5]
    ·exact hs5
   have hpv:a≤(if cpv.2=.decreasing then(e - 1) - (cpv.1 - a) else cpv.1)∧(if cpv.2=.decreasing then(e - 1) - (cpv.1 - a) else cpv.1)<e:=by
    split <;> omega
   generalize (if cpv.2=.decreasing then Sort.reverseRange d5 a e else d5)=d7 at *
   generalize (if cpv.2=.decreasing then(e - 1) - (cpv.1 - a) else cpv.1)=pv at *
   generalize (if cpv.2=.decreasing then Sort.Hint.increasing else cpv.2)=hint at *
   unfold gB gP at hR
   refine aP (fun zs M'=>∃ d8:Array bS,At bi T b d8 M'∧ag [b] M M'∧d8.size=d.size∧R=gC lt d8 a e pv lim wb wp) ?_ ?_
   ·rintro zs M8 ⟨d8,h8,k8,hs8,hR8⟩
    unfold gC at hR8
    rw[pV]
    refine qZ (P:=fun M'=>At bi T b d8 M'∧ag [b] M M') (p:=!lt d8[a - 1]! d8[pv]!) ⟨h8,k8⟩ (fun hc k hk=>?_) fun M9 ⟨h9,k9⟩=>?_
    ·have hc:a > 0:=of_decide_eq_true hc
     rw[bz (by omega) (by omega),h8.rd (z:=3) rfl hs8.symm (by omega),h8.rd (z:=3) rfl hs8.symm (by omega)]
     refine hl.use fun M10 k10=>?_
     rw[bD]
     exact hk M10 ⟨h8.keep k10,k8.trans (k10.mono (cs:=[b]) (by simp))⟩
    refine aC (fun h=>?_) (fun h=>?_)
    ·rw[if_pos h] at hR8
     rw[← hs8]
     have hE:=Tz lt d8 a e pv (by omega)
     refine he h9 (by omega) hpv.1 hpv.2 (by omega) fun M10 h10 k10=>?_
     generalize Sort.partitionEqual lt d8 a e pv=pe at *
     dsimp only at hR8
     rw[dif_pos ⟨hE.2.1,hE.2.2⟩] at hR8
     exact hnext _ _ _ (by omega) ⟨pe.1,e,lim,wb,wp,pe.2,rfl,rfl,hE.2.2,hed,by omega,hl5,h10,k9.trans k10,by rw[hE.1,hs8],hR8⟩
    ·rw[if_neg (by rw[h]; decide)] at hR8
     rw[← hs8]
     have hT:=Sort.partition_holds lt hlt d8 a e pv hpv.1 hpv.2 (by omega)
     have hTs:=XW lt d8 a e pv
     refine ht h9 (by omega) hpv.1 hpv.2 (by omega) fun M10 h10 k10=>?_
     have tQ:=k9.trans k10
     generalize Sort.partition lt d8 a e pv=pp at *
     obtain⟨mid,ap,d9⟩:=pp
     dsimp only at hR8 hT hTs h10 ⊢
     rw[dif_pos ⟨hT.1,hT.2.1⟩] at hR8
     have hT1:=hT.1
     have hT2:=hT.2.1
     rw[lV,lQ,eP hT1 (by omega),eP (by omega) (by omega),mg]
     refine⟨by decide, ?_⟩
     rw[show(8:Int)=((8:Nat) : Int) from rfl,qz,aZ (by omega) (by omega),dB]
     refine aC (fun hc1=>?_) (fun hc1=>?_)
     ·have hc1:mid - a<e - mid:=of_decide_eq_true hc1
      rw[if_pos hc1] at hR8
      rw[jy,← hTs]
      refine hq h10 (by omega) hT1 (by omega) (by omega) hl5 fun M11 h11 k11=>?_
      rw[add1 (by omega)]
      exact hnext _ _ _ (by omega) ⟨mid + 1,e,lim,_,ap,_,rfl,rfl,by omega,hed,by omega,hl5,h11,tQ.trans k11,by rw[Bg lt _ _ _ _ _ _ _ (Nat.le_refl _),hTs,hs8],hR8⟩
     ·have hc1:¬ mid - a<e - mid:=of_decide_eq_false hc1
      rw[if_neg hc1] at hR8
      rw[jy,add1 (by omega),← hTs]
      refine hq h10 (by omega) (by omega) (by omega) (by omega) hl5 fun M11 h11 k11=>?_
      exact hnext _ _ _ (by omega) ⟨a,mid,lim,_,ap,_,rfl,rfl,hT1,by omega,by omega,hl5,h11,tQ.trans k11,by rw[Bg lt _ _ _ _ _ _ _ (Nat.le_refl _),hTs,hs8],hR8⟩
   intro J10 JK
   have no:¬ (wb && wp && decide (hint=.increasing))=true→J10 [] M7:=fun hn=>by
    have hpi:(if (wb && wp && decide (hint=.increasing))=true then Sort.partialInsertionSort lt d7 a e else(d7,false))=(d7,false):=if_neg hn
    rw[hpi] at hR
    exact JK _ _ ⟨d7,h7,k7,hs7,hR⟩
   cases wb with
   | false =>
     rw[bN]
     dsimp only
     rw[bT,bN]
     dsimp only
     rw[bN]
     dsimp only
     rw[bT,bA]
     exact no (by simp)
   | true =>
     rw[bZ]
     dsimp only
     rw[dC]
     cases wp with
     | false =>
       rw[bN]
       dsimp only
       rw[bN]
       dsimp only
       rw[bT,bA]
       exact no (by simp)
     | true =>
       rw[bZ]
       dsimp only
       rw[bZ]
       dsimp only
       rw[bL,dC]
       by_cases hin:hint=.increasing
       ·rw[show(nW hint == 1)=true by rw[hin]; rfl,dP]
        have hpi:(if (true && true && decide (hint=.increasing))=true then Sort.partialInsertionSort lt d7 a e else(d7,false))=Sort.partialInsertionSort lt d7 a e:=if_pos (by simp[hin])
        rw[hpi] at hR
        rw[← hs7]
        have hs8:(Sort.partialInsertionSort lt d7 a e).1.size=d.size:=by
         rw[Sort.partialInsertionSort,DY,hs7]
        refine hp h7 (by omega) (by omega) (by omega) fun M8 h8 k8=>?_
        generalize Sort.partialInsertionSort lt d7 a e=pi at *
        refine aC (fun h=>?_) (fun h=>?_)
        ·rw[if_pos h] at hR
         rw[← hR] at h8
         exact hQ M8 h8 (k7.trans k8)
        ·rw[if_neg (by rw[h]; decide)] at hR
         exact JK _ _ ⟨pi.1,h8,k7.trans k8,hs8,hR⟩
       ·rw[show(nW hint == 1)=false by cases hint <;> first | rfl | exact absurd rfl hin,bA]
        exact no (by simp[hin])
  intro J6 hJ6
  rw[bL]
  by_cases hdec:cpv.2=.decreasing
  ·rw[show(nW cpv.2 == 2)=true by rw[hdec]; rfl,dP,← hs5]
   refine hr h6 (by omega) hae (by omega) (by omega) fun M7 h7 k7=>?_
   rw[bz (by omega) (by omega),eP (by omega) (by omega),eP (by omega) (by omega)]
   exact hJ6 _ _ ⟨by rw[if_pos hdec,if_pos hdec]; rfl,by rw[if_pos hdec]; exact h7,k6'.trans k7⟩
  ·rw[show(nW cpv.2 == 2)=false by cases h:cpv.2 <;> first | rfl | exact absurd h hdec,bA]
   exact hJ6 _ _ ⟨by rw[if_neg hdec,if_neg hdec],by rw[if_neg hdec]; exact h6,k6'⟩
 intro J hJ
 rw[bD]
 cases wb with
 | true =>
   rw[Bool.not_true,bA]
   exact hJ _ _ ⟨rfl,h4,k4⟩
 | false =>
   rw[Bool.not_false,dP,← hs3]
   refine hb h4 (by omega) hae (by omega) trivial fun M5 h5 k5=>?_
   rw[bz (by omega) (by omega)]
   exact hJ _ _ ⟨rfl,h5,k4.trans k5⟩
def Sm (c:ak) : Prop:=∀ {M:RM} {v fv:AV} {Q:aj},Q (.tup []) M→c [v,N .i64 0,N .i64 ((0:Nat) : Int),fv] M Q
theorem SG {cv:FuncId→ak} : Sm fun args M Q=>∃ a0 a1 a2 a3,args=[a0,a1,a2,a3]∧fq cv a0 a1 a2 a3 M Q:=by
 intro M v fv Q hQ
 refine⟨_,_,_,_,rfl, ?_⟩
 unfold fq
 rw[dw,show IntKind.i64.wrap ((0:Int) + 1)=1 from rfl]
 refine aG (fun m ys M3=>m=0∧ys=[N .i64 1]∧M3=M) 0 ⟨rfl,rfl,rfl⟩ ?_
 rintro next m ys M3 hnext ⟨rfl,rfl,rfl⟩
 dsimp only[aa]
 rw[dL,show decide ((1:Int)<((0:Nat) : Int))=false from rfl,bA]
 exact hQ
def SB (c:ak) : Prop:=∀ {M:RM} {v fv:AV} {Q:aj},Q (.tup []) M→c [v,N .i64 0,N .i64 ((0:Nat) : Int),N .i64 ((0:Nat) : Int),fv] M Q
theorem Uf {cv:FuncId→ak} {ci c2 c3 cc c4 cp c6 c7 c8:ak} (hi:Sm ci) : SB fun args M Q=>∃ a0 a1 a2 a3 a4,args=[a0,a1,a2,a3,a4]∧gU ci c2 c3 cc c4 cp cv c6 c7 c8 a0 a1 a2 a3 a4 M Q:=by
 intro M v fv Q hQ
 refine⟨_,_,_,_,_,rfl, ?_⟩
 unfold gU
 refine aG (fun m ys M3=>m=0∧ys=[N .i64 0,N .i64 ((0:Nat) : Int),N .i64 ((0:Nat) : Int),Bo true,Bo true]∧M3=M) 0 ⟨rfl,rfl,rfl⟩ ?_
 rintro next m ys M3 hnext ⟨rfl,rfl,rfl⟩
 dsimp only[aa]
 rw[iX,show IntKind.i64.wrap (((0:Nat) : Int) - 0)=0 from rfl,nP,show decide ((0:Int)≤12)=true from rfl,dP]
 exact hi hQ
def xL (lt:bS→bS→Bool) (xs:List bS) : List bS:=(Sort.sort lt xs.toArray).toList
theorem agc (lt:bS→bS→Bool) : xL lt []=[]:=by
 unfold xL Sort.sort
 rw[Cx,if_pos (by simp),Sort.insertionSort,Sort.insOuter,if_neg (by simp)]
theorem QS {lt:bS→bS→Bool} (hlt:Sort.SWO lt) (xs:List bS) : (xL lt xs).Perm xs:=by
 have h:=(Sort.sort_sorts lt hlt xs.toArray).1
 have h2:=h.2.2
 rw[Array.extract_eq_self_of_le (by rw[h.1]; exact Nat.le_refl _),Array.extract_eq_self_of_le (Nat.le_refl _)] at h2
 exact h2
theorem aib {lt:bS→bS→Bool} (hlt:Sort.SWO lt) (xs:List bS) : (xL lt xs).Pairwise fun x y=>lt y x=false:=by
 rw[List.pairwise_iff_getElem]
 intro i j hi hj hij
 have h:=(Sort.sort_sorts lt hlt xs.toArray)
 have hs:(Sort.sort lt xs.toArray).size=xs.toArray.size:=h.1.1
 unfold xL at hi hj ⊢
 rw[Array.length_toList] at hi hj
 have:=h.2 i j (Nat.zero_le _) hij (by omega)
 rw[KT hj,KT hi] at this
 rw[Array.getElem_toList,Array.getElem_toList]
 exact this
def RV (fv:AV) (lt:bS→bS→Bool) (T:Nat) (c:ak) : Prop:=∀ {M:RM} {base:Nat} {v:AV} {xs:List bS} {Q:aj},Ow bi M base T v xs→xs.length≤60000→(∀ M',Ow bi M' base T v (xL lt xs)→ag (aJ v) M M'→Q (.tup []) M')→c [v,fv] M Q
theorem Tx {T:Nat} {fv:AV} {lt:bS→bS→Bool} {cl cp:ak} (hlt:Sort.SWO lt) (hl:H6 cl) (hp:∀ m,acv T m fv lt cp) (h0:SB cp) : RV fv lt T fun args M Q=>∃ a0 a1,args=[a0,a1]∧jX cl cp a0 a1 M Q:=by
 intro M base v xs Q ho hx hQ
 have hs:Sl bi M v xs:=ho.eZ
 refine⟨_,_,rfl, ?_⟩
 unfold jX
 rw[aL.len hs,oJ,jT (by omega) (by omega)]
 refine hl (by omega) ?_
 rcases Nat.eq_zero_or_pos xs.length with hn | hn
 ·rw[hn,show Sort.bitsLen 0=0 from rfl]
  refine h0 ?_
  have:=List.length_eq_zero_iff.1 hn
  subst this
  exact hQ M (by rw[agc]; exact ho) (ag.refl _ _)
 ·obtain⟨b,rfl,h1,h2,h3,h4⟩:=Own.uO ho hn
  have hb:=yL hn (by omega)
  have hsz:xs.toArray.size=xs.length:=by simp
  have hat:At bi T b xs.toArray M:=⟨by rw[h3],h2⟩
  have hsl:(xL lt xs).length=xs.length:=(QS hlt xs).length_eq
  have:=hp (xs.length + 1) (M:=M) (b:=b) (a:=0) (e:=xs.toArray.size) (limit:=Sort.bitsLen xs.length) (d:=xs.toArray) (Q:=fun bW M_0=>Q (.tup []) M_0) hat (by omega) (by omega) (Nat.le_refl _) (by omega) (by omega) fun M' h' k'=>?_
  ·have e5:bi.size=3:=rfl
   rw[e5]
   simpa using this
  ·have e:(Sort.pdq lt xs.toArray 0 xs.toArray.size (Sort.bitsLen xs.length) true true)=Sort.sort lt xs.toArray:=by rw[Sort.sort]; simp
   rw[e] at h'
   refine hQ _ ?_ (by simpa [aJ] using k')
   have hlast:Own M' base T 3 (.slc b 0 xs.length (.op 3)) (bi.row (xL lt xs)) xs.length:=.op _ _ _ h1 h'.lt h'.heap (by rw[Enc.eH,hsl]; rfl)
   show Own M' base T 3 (.slc b 0 xs.length (.op 3)) (bi.row (xL lt xs)) (xL lt xs).length
   rw[hsl]; exact hlast
end Go.Ab.Crw
namespace Go.Ab.Crw.Viw
open Go Go.Ab Go.Ab.aH Go.Ab.Vw
theorem ajL {M:RM} {c p:Bool} {f:KR→Prop} {G:AV→RM→Prop} (hf:c=true→∀ k:KR,k (Bo p) M none→f k) (hG:G (Bo (c && p)) M) :
  ae (Bo c) true f (fun k=>k .undef M none) (fun t M' b=>aK (Bo c) t (Bo false) fun u=>G u M'):=by
 cases c with
 | false=>rw[gG]; dsimp only; rw[bT]; exact hG
 | true=>rw[gI]; exact hf rfl _ (by rw[dC]; exact hG)
theorem av2 {M:RM} {c p:Bool} {f:KR→Prop} {G:AV→RM→Prop} (hf:c=false→∀ k:KR,k (Bo p) M none→f k) (hG:G (Bo (c || p)) M) :
  ae (Bo c) false f (fun k=>k .undef M none) (fun t M' b=>aK (Bo c) (Bo true) t fun u=>G u M'):=by
 cases c with
 | true=>rw[DR]; dsimp only; rw[dC]; exact hG
 | false=>rw[lK]; exact hf rfl _ (by rw[bT]; exact hG)
theorem BQ {M:RM} {v:AV} {xs:List rP} (h:Sl dD M v xs) {i:Nat} (hi:i<xs.length) {kd:IntKind} {j:Nat} {x:AV} (hx:(dD.cells xs[i])[j]?=some x) {K:AV→Prop} : (ah v (N kd (i:Int)) 3 fun p=>aI p j fun q=>au M q K)=K x:=by
 obtain⟨b,o,_,_,hidx,hld⟩:=Sl.at (E:=dD) (i:=i) h 3 (i:Int) hi rfl rfl
 rw[hidx,aN,gX]
 rw[q9 hld hx]
 simp
def jo (es:List aD) (c:List UInt8) : bS:=(c,(lastT c (aY es c),(aY es c).length))
def cB (es:List aD) : List bS:=xL wR ((bV es).map (jo es))
def acR (TS T TL:Nat) (c:ak) : Prop:=∀ {M:RM} {t:Nat} {C:Nat→Prop} {ps:List Pt} {es:List aD} {Q:aj},oF TS T C M t ps es→es.length≤50000→(∀ v M',Ow bi M' M.next TL v (cB es)→ag [] M M'→Q v M')→c [.ptr t 0] M Q
theorem ade (c:List UInt8) (fs:List rP) (f:rP) : lastT c (fs++[f])=if f.1=AR then f.2.1 else lastT c fs:=by
 rw[lastT,List.foldl_append]; rfl
theorem afZ {TS T TF T9 TL n:Nat} {cc cf cs:ak} (hc:DD TS T T9 cc) (hf:FJ TS T TF cf) (hs:RV (.fn (.func n) [] []) wR TL cs) : acR TS T TL fun args M Q=>∃ a0,args=[a0]∧EK cc TL cf TF cs n a0 M Q:=by
 intro M t C ps es Q hst hlen hQ
 refine⟨_,rfl, ?_⟩
 unfold EK
 simp only[gK,eu,dE,dQ,bF]
 refine hc hst hlen fun v2 M2 o2 k2=>?_
 have n2:=k2.next
 rw[Dm] at o2
 have hcl:=LF es
 rw[aL.len o2.eZ]
 refine aG (fun z ys M3=>∃ (i:Nat) (dv:AV),z=(bV es).length - i∧ys=[dv,N .i64 (i:Int)]∧i≤(bV es).length∧ag [] M2 M3∧Ow bi M3 M2.next TL dv (((bV es).take i).map (jo es))) _
  ⟨0,di,rfl,rfl,Nat.zero_le _,ag.refl _ _,.nil⟩ ?_
 rintro next z ys M3 hnext ⟨i,dv,rfl,rfl,hil,k3,o3⟩
 dsimp only[aa]
 rw[dB]
 refine aC (fun hlt=>?_) (fun hge=>?_)
 ·have hlt:i<(bV es).length:=of_decide_eq_true hlt
  have n3:=k3.next
  have hml:(((bV es).take i).map (jo es)).length≤i:=by rw[List.length_map,List.length_take]; omega
  have hts:((bV es).take (i + 1)).map (jo es)=((bV es).take i).map (jo es)++[jo es (bV es)[i]]:=by
   rw[List.take_succ_eq_append_getElem hlt,List.map_append,List.map_singleton]
  rw[uS (aL.keep o2.eZ k3 (by simp)) hlt]
  generalize (bV es)[i]=c at *
  rw[oH]
  refine⟨dD.cells (c,(c,0)),rfl, ?_⟩
  refine TZ fun M4 n4 k4 h4=>?_
  have k04:=(k2.trans k3).trans k4
  refine hf (hst.keep k04 (by simp) (by simp)) hlen fun v5 M5 o5 k5=>?_
  have n5:=k5.next
  rw[aL.len o5.eZ]
  have agx:=zA es c
  have h5:=k5.aQ h4 (by omega) (by simp)
  refine aG (fun z ys M6=>∃ (j:Nat),z=(aY es c).length - j∧ys=[N .i64 (j:Int)]∧j≤(aY es c).length∧ag [] M3 M6∧M5.next≤M6.next∧Sl dD M6 v5 (aY es c)∧M6.heap M3.next=some (.row (dD.cells (c,(lastT c ((aY es c).take j),j))) false TL 0)) _
   ⟨0,rfl,rfl,Nat.zero_le _,k4.trans k5,Nat.le_refl _,o5.eZ,h5⟩ ?_
  rintro iq z ys M6 dm ⟨j,rfl,rfl,hjl,k6,n6,s6,h6⟩
  dsimp only[aa]
  rw[dB]
  refine aC (fun hlt2=>?_) (fun mU=>?_)
  ·have hlt2:j<(aY es c).length:=of_decide_eq_true hlt2
   have hls:lastT c ((aY es c).take (j + 1))=if (aY es c)[j].1=AR then(aY es c)[j].2.1 else lastT c ((aY es c).take j):=by
    rw[List.take_succ_eq_append_getElem hlt2,ade]
   refine aP (fun zs M'=>zs=[]∧ag [] M3 M'∧M5.next≤M'.next∧Sl dD M' v5 (aY es c)∧M'.heap M3.next=some (.row (dD.cells (c,(lastT c ((aY es c).take (j + 1)),j + 1))) false TL 0)) ?_ ?_
   ·rintro zs M' ⟨rfl,a1,a2,a3,a4⟩
    rw[add1 (by omega)]
    exact dm _ _ _ (by omega) ⟨j + 1,rfl,rfl,by omega,a1,a2,a3,a4⟩
   intro J hJ
   rw[abJ s6 hlt2]
   generalize (aY es c)[j]=f at *
   generalize lastT c ((aY es c).take j)=tt at *
   refine TZ fun M7 n7 k7 h7=>?_
   have h67:=k7.aQ h6 (by omega) (by simp)
   have k37:=k6.trans k7
   have s7:=aL.keep s6 k7 (by simp)
   have hob:M3.next ∉ aJ v5:=fun hm=>by have:=(o5.blk _ hm).1; omega
   rw[aN,az (i:=0 + 2) (x:=N .i64 (j:Int)) h67 rfl,add1 (by omega),aN,
    sV (dD.cells (c,(tt,j + 1))) h67 (by simp[dD]) rfl rfl rfl]
   have kp:ag [M3.next] M7 (M7.put M3.next (.row (dD.cells (c,(tt,j + 1))) false TL 0)):=(ag.refl _ _).put _ (.inr (by simp))
   have h8:(M7.put M3.next (.row (dD.cells (c,(tt,j + 1))) false TL 0)).heap M3.next=some (.row (dD.cells (c,(tt,j + 1))) false TL 0):=aU _
   have h78:=rH (z:=.row (dD.cells (c,(tt,j + 1))) false TL 0) (c:=M3.next) h7 (by omega)
   have n8:(M7.put M3.next (.row (dD.cells (c,(tt,j + 1))) false TL 0)).next=M7.next:=rfl
   have k38:=k37.put (.row (dD.cells (c,(tt,j + 1))) false TL 0) (b:=M3.next) (.inl (Nat.le_refl _))
   have s8:=aL.keep s7 kp (fun b hb hm=>hob (by simp at hm; subst hm; exact hb))
   generalize M7.put M3.next (.row (dD.cells (c,(tt,j + 1))) false TL 0)=M8 at *
   rw[bK,az (x:=St f.1) h78 rfl,jC]
   refine aC (fun hc=>?_) (fun hc=>?_)
   ·have hc:f.1=AR:=by simpa [AR] using hc
    rw[aN,az (i:=0 + 1) (x:=St f.2.1) h78 rfl,aN,sV (dD.cells (c,(f.2.1,j + 1))) h8 (by simp[dD]) rfl rfl rfl]
    refine hJ _ _ ⟨rfl,k38.put _ (.inl (Nat.le_refl _)),by rw[jV]; omega,aL.keep s8 ((ag.refl [M3.next] _).put _ (.inr (by simp))) (fun b hb hm=>hob (by simp at hm; subst hm; exact hb)), ?_⟩
    rw[hls,if_pos hc]; exact aU _
   ·have hc:¬ f.1=AR:=by simpa [AR] using hc
    refine hJ _ _ ⟨rfl,k38,by omega,s8, ?_⟩
    rw[hls,if_neg hc]; exact h8
  ·have he:j=(aY es c).length:=by
    have:¬ j<(aY es c).length:=of_decide_eq_false mU
    omega
   subst he
   rw[List.take_length] at h6
   rw[eQ (n:=3) h6 rfl,mO (x:=.agg (dD.cells (c,(lastT c (aY es c),(aY es c).length)))) (size:=3) rfl rfl rfl,bg]
   refine rE (E:=bi) (a:=jo es c) (o3.keep k6 (by simp)) (by have:=k6.next; omega) (by decide) (by omega) (by omega) fun v9 M9 o9 k9 n9 _=>?_
   rw[add1 (by omega)]
   refine hnext _ _ _ (by omega) ⟨i + 1,v9,rfl,rfl,by omega,(k3.trans k6).cz k9 (fun d hd=>.inl (o3.blk d hd).1), ?_⟩
   rw[hts]; exact o9
 ·have he:i=(bV es).length:=by
   have:¬ i<(bV es).length:=of_decide_eq_false hge
   omega
  subst he
  rw[List.take_length] at o3
  have hml:((bV es).map (jo es)).length≤60000:=by rw[List.length_map]; omega
  refine hs o3 hml fun M9 o9 k9=>?_
  exact hQ dv M9 (Own.mono o9 n2) ((k2.trans k3).cz k9 (fun d hd=>.inl (by have:=(o3.blk d hd).1; omega)))
theorem abt {l r:List AV} {n j:Nat} {x:AV} (h:l.length=n) : (l++r).set (n + j) x=l++r.set j x:=by
 subst h; rw[List.set_append_right _ _ (Nat.le_add_right _ _),Nat.add_sub_cancel_left]
theorem alB {l r:List AV} {n j:Nat} (h:l.length=n) : (l++r)[n + j]?=r[j]?:=by
 subst h; rw[List.getElem?_append_right (Nat.le_add_right _ _),Nat.add_sub_cancel_left]
theorem akQ {M:RM} {n0 TF:Nat} {v:AV} {init:List rP} {f:rP} (h:Ow dD M n0 TF v (init++[f])) :
  ∃ b,n0≤b∧b<M.next∧(∀ (kd:IntKind) (K:AV→Prop),ah v (N kd (init.length:Int)) 3 K=K (.ptr b (init.length * 3))) ∧
    ∀ (val:List UInt8) (u:Nat) (K:RM→Prop),f.2.2 + u<4611686018427387904→(∀ M',Ow dD M' n0 TF v (init++[(f.1,(val,f.2.2 + u))])→ag [b] M M'→K M') →
      aF M (.ptr b (init.length * 3 + 1)) (St val) 1 fun M1=>au M1 (.ptr b (init.length * 3 + 2)) fun t=>af .add t (N .i64 (u:Int)) fun t'=>aF M1 (.ptr b (init.length * 3 + 2)) t' 1 K:=by
 have h' : Own M n0 TF 3 v (dD.row (init++[f])) (init++[f]).length:=h
 obtain⟨b,rfl,hb1,hb2,hb3,hb4⟩:=Own.uO h' (by simp)
 have hr:∀ g:rP,dD.row (init++[g])=dD.row init++[St g.1,St g.2.1,N .i64 (g.2.2:Int)]:=fun g=>by rw[dD.qW,dD.row_one]; rfl
 have hl:(dD.row init).length=init.length * 3:=dD.eH init
 rw[hr] at hb3
 refine⟨b,hb1,hb2,fun kd K=>?_,fun val u K hu hK=>?_⟩
 ·rw[ma]
  simp only[Int.toNat_natCast]
  rw[show 0 + init.length * 3=init.length * 3 by omega]
  exact propext ⟨fun h=>h.2.2,fun h=>⟨by omega,by simp; omega,h⟩⟩
 ·rw[sV (dD.row init++[St f.1,St val,N .i64 (f.2.2:Int)]) hb3 (by simp[hl]) rfl rfl (by rw[abt hl]; rfl)]
  have h2:(M.put b (.row (dD.row init++[St f.1,St val,N .i64 (f.2.2:Int)]) true TF 0)).heap b=some (.row (dD.row init++[St f.1,St val,N .i64 (f.2.2:Int)]) true TF 0):=aU _
  rw[az (x:=N .i64 (f.2.2:Int)) h2 (by rw[alB hl]; rfl),addN (by omega),
   sV (dD.row init++[St f.1,St val,N .i64 ((f.2.2 + u:Nat) : Int)]) h2 (by simp[hl]) rfl rfl (by rw[abt hl]; rfl)]
  refine hK _ ?_ (((ag.refl [b] M).put _ (.inr (by simp))).put _ (.inr (by simp)))
  show Own _ n0 TF 3 _ (dD.row (init++[(f.1,(val,f.2.2 + u))])) (init++[(f.1,(val,f.2.2 + u))]).length
  rw[hr,show(init++[(f.1,(val,f.2.2 + u))]).length=(init++[f]).length by simp]
  exact .op _ _ _ hb1 (by rw[jV,jV]; exact hb2) (aU _) (by simp[hl]; omega)
theorem Wq (c:List UInt8) : ∀ es:List aD,(jD es c).length≤es.length∧∀ f∈jD es c,f.2.2≤es.length:=by
 refine Gp (by simp[jD]) fun es x ih=>?_
 obtain⟨h1,h2⟩:=ih
 have hu:wY es c x≤1:=by rw[wY]; split <;> omega
 have hw:∀ f∈jD es c++[(x.2.2.1,(x.2.2.2,wY es c x))],f.2.2≤(es++[x]).length:=fun f hf=>by
  rw[List.length_append,List.length_singleton]
  rcases List.mem_append.1 hf with hf | hf
  ·have:=h2 f hf; omega
  ·simp at hf; subst hf
   show wY es c x≤_
   omega
 rw[Ku]
 split
 ·rw[E5]
  split
  ·rename_i p hp
   obtain⟨i,e⟩:=wU hp
   split
   ·rw[e] at h1 h2 ⊢
    rw[List.dropLast_concat]
    simp only[List.length_append,List.length_singleton] at h1 ⊢
    refine⟨by omega,fun f hf=>?_⟩
    rcases List.mem_append.1 hf with hf | hf
    ·have:=h2 f (List.mem_append_left _ hf); omega
    ·simp at hf; subst hf
     have:=h2 p (by simp)
     show p.2.2 + wY es c x≤_
     omega
   ·exact⟨by simp; omega,hw⟩
  ·exact⟨by simp; omega,hw⟩
 ·refine⟨by simp; omega,fun f hf=>?_⟩
  have:=h2 f hf
  simp; omega
def uo (TF:Nat) (c:ak) : Prop:=∀ {M:RM} {v:AV} {es:List aD} {s:List UInt8} {Q:aj},Sl aA M v es→es.length≤50000→(∀ v' M',Ow dD M' M.next TF v' (jD es s)→ag [] M M'→Q v' M')→c [v,St s] M Q
theorem TH {TF:Nat} : uo TF fun args M Q=>∃ a0 a1,args=[a0,a1]∧MV TF a0 a1 M Q:=by
 intro M v es s Q hv hlen hQ
 refine⟨_,_,rfl, ?_⟩
 unfold MV
 simp only[gK,eu,dE,dQ,bF]
 refine⟨_,_,_,_,rfl,rfl,by decide,by decide,by decide,by decide, ?_⟩
 dsimp only
 rw[bg]
 have k0:ag [] M (M.push (.row (bO [(St []),(St []),(N .i64 0)] 0) false TF 0)):=(ag.refl _ _).push _
 have o0:Ow dD (M.push (.row (bO [(St []),(St []),(N .i64 0)] 0) false TF 0)) M.next TF (.slc M.next 0 0 (.ex 0)) []:=Ow.lit dD M
 refine aG (fun z ys M3=>∃ (i:Nat) (dv:AV),z=es.length - i∧ys=[dv,N .i64 (i:Int)]∧i≤es.length∧ag [] M M3∧Ow dD M3 M.next TF dv (jD (es.take i) s)) _
  ⟨0,_,rfl,rfl,Nat.zero_le _,k0,o0⟩ ?_
 rintro next z ys M3 hnext ⟨i,dv,rfl,rfl,hil,k3,o3⟩
 dsimp only[aa]
 have v3:=aL.keep hv k3 (by simp)
 rw[aL.len v3,dB]
 refine aC (fun hlt=>?_) (fun hge=>?_)
 ·have hlt:i<es.length:=of_decide_eq_true hlt
  have n3:=k3.next
  refine aP (fun zs M'=>∃ dv',zs=[dv']∧ag [] M M'∧Ow dD M' M.next TF dv' (jD (es.take (i + 1)) s)) ?_ ?_
  ·rintro zs M' ⟨dv',rfl,k',o'⟩
   dsimp only[aa]
   rw[add1 (by omega)]
   exact hnext _ _ _ (by omega) ⟨i + 1,dv',rfl,rfl,by omega,k',o'⟩
  intro J hJ
  have hfs:jD (es.take (i + 1)) s=if es[i].2.1=s then E5 (jD (es.take i) s) es[i] (wY (es.take i) s es[i]) else jD (es.take i) s:=by
   rw[List.take_succ_eq_append_getElem hlt,Ku]
  have hfl:=Wq s (es.take i)
  rw[List.length_take] at hfl
  have xf:∀ {j:Nat} {y:AV},(aA.cells es[i])[j]?=some y→∀ {M' : RM},Sl aA M' v es→∀ {K:AV→Prop},(ah v (N .i64 (i:Int)) 5 fun p=>aI p j fun q=>au M' q K)=K y:=fun hy M' h K=>rF h hlt hy
  generalize es[i]=x at *
  rw[xf (y:=St x.2.1) rfl v3,jW]
  refine aC (fun hc=>?_) (fun hc=>?_)
  ·have hc:¬ x.2.1=s:=by simpa using hc
   exact hJ _ _ ⟨dv,rfl,k3,by rw[hfs,if_neg hc]; exact o3⟩
  ·have hc:x.2.1=s:=by simpa using hc
   rw[if_pos hc] at hfs
   refine aG (fun z ys M4=>∃ (k:Nat),z=i - k∧ys=[N .i64 ((wY (es.take k) s x:Nat) : Int),N .i64 (k:Int)]∧k≤i∧M4=M3) _
    ⟨0,rfl,rfl,Nat.zero_le _,rfl⟩ ?_
   rintro iq z ys M4 dm ⟨k,rfl,rfl,hki,rfl⟩
   dsimp only[aa]
   rw[dB]
   refine aC (fun hlt2=>?_) (fun mU=>?_)
   ·have hlt2:k<i:=of_decide_eq_true hlt2
    have hkl:k<es.length:=by omega
    refine aP (fun zs M'=>zs=[N .i64 ((wY (es.take (k + 1)) s x:Nat) : Int)]∧M'=M4) ?_ ?_
    ·rintro zs M' ⟨rfl,rfl⟩
     dsimp only[aa]
     rw[add1 (by omega)]
     exact dm _ _ _ (by omega) ⟨k + 1,rfl,rfl,by omega,rfl⟩
    intro J4 hJ4
    have hus:wY (es.take (k + 1)) s x=if zw s x es[k] then 0 else wY (es.take k) s x:=by
     rw[List.take_succ_eq_append_getElem hkl,wY,wY,List.any_append]
     simp only[List.any_cons,List.any_nil,Bool.or_false]
     cases(es.take k).any (zw s x) <;> cases zw s x es[k] <;> simp
    rw[rF v3 hkl (x:=St es[k].2.1) rfl,jC]
    refine ajL (p:=decide (es[k].2.2.1=x.2.2.1)) (fun _ K hK=>?_) ?_
    ·rw[rF v3 hkl (x:=St es[k].2.2.1) rfl,xf (y:=St x.2.2.1) rfl v3,jC]
     rw[show(es[k].2.2.1 == x.2.2.1)=decide (es[k].2.2.1=x.2.2.1) by by_cases h:es[k].2.2.1=x.2.2.1 <;> simp[h]]
     exact hK
    refine ajL (p:=decide (es[k].2.2.2=x.2.2.2)) (fun _ K hK=>?_) ?_
    ·rw[rF v3 hkl (x:=St es[k].2.2.2) rfl,xf (y:=St x.2.2.2) rfl v3,jC]
     rw[show(es[k].2.2.2 == x.2.2.2)=decide (es[k].2.2.2=x.2.2.2) by by_cases h:es[k].2.2.2=x.2.2.2 <;> simp[h]]
     exact hK
    rw[show((es[k].2.1 == s && decide (es[k].2.2.1=x.2.2.1)) && decide (es[k].2.2.2=x.2.2.2))=zw s x es[k] by
     rw[zw,Bool.and_assoc]; by_cases h:es[k].2.1=s <;> simp[h]]
    refine aC (fun h=>?_) (fun h=>?_)
    ·exact hJ4 _ _ ⟨by rw[hus,if_pos h]; rfl,rfl⟩
    ·exact hJ4 _ _ ⟨by rw[hus,if_neg (by rw[h]; simp)],rfl⟩
   ·have he:k=i:=by
     have:¬ k<i:=of_decide_eq_false mU
     omega
    subst he
    generalize hu:wY (es.take k) s x=u at *
    have hu1:u≤1:=by rw[← hu,wY]; split <;> omega
    generalize jD (es.take k) s=acc at *
    refine aP (fun zs M'=>∃ dv' init f,zs=[dv']∧ag [] M M'∧Ow dD M' M.next TF dv' (init++[f])∧f.2.2≤es.length∧init.length≤es.length∧E5 acc x u=init++[(f.1,(x.2.2.2,f.2.2 + u))]) ?_ ?_
    ·rintro zs M' ⟨dv',init,f,rfl,k',o',hf1,hi1,e'⟩
     dsimp only[aa]
     have v':=aL.keep hv k' (by simp)
     obtain⟨b,hb1,hb2,hidx,hput⟩:=akQ o'
     rw[aL.len o'.eZ,List.length_append,List.length_singleton,bz (by omega) (by omega),Nat.add_sub_cancel,hidx,xf (y:=St x.2.2.2) rfl v',aO,aN]
     simp only[aO,aN]
     refine hput _ u _ (by omega) fun M9 o9 k9=>?_
     refine hJ _ _ ⟨dv',rfl,k'.cz k9 (by simp; omega), ?_⟩
     rw[hfs,e']; exact o9
    intro J5 hJ5
    rw[aL.len o3.eZ,bL]
    refine av2 (p:=decide (¬ (acc.getLastD ([],([],0))).1=x.2.2.1)) (fun hz K hK=>?_) ?_
    ·have hpos:0<acc.length:=by
      rcases Nat.eq_zero_or_pos acc.length with h | h
      ·rw[h] at hz; simp at hz
      ·exact h
     rw[aL.len o3.eZ,bz (by omega) (by omega),BQ o3.eZ (i:=acc.length - 1) (by omega) (x:=St acc[acc.length - 1].1) rfl,xf (y:=St x.2.2.1) rfl v3,jW]
     have hgl:acc.getLastD ([],([],0))=acc[acc.length - 1]:=by
      rw[List.getLastD_eq_getLast?,List.getLast?_eq_getElem?,List.getElem?_eq_getElem (by omega)]; rfl
     rw[hgl] at hK
     rw[show(acc[acc.length - 1].1 != x.2.2.1)=decide (¬ acc[acc.length - 1].1=x.2.2.1) by by_cases h:acc[acc.length - 1].1=x.2.2.1 <;> simp[h]]
     exact hK
    have hnew:E5 acc x u=(if ((((acc.length:Int) == 0)) || decide (¬ (acc.getLastD ([],([],0))).1=x.2.2.1)) then acc++[(x.2.2.1,(x.2.2.2,u))] else acc.dropLast++[(x.2.2.1,(x.2.2.2,(acc.getLastD ([],([],0))).2.2 + u))]):=by
     rw[E5]
     cases hg:acc.getLast? with
     | none =>
       rw[List.getLast?_eq_none_iff] at hg; subst hg; rfl
     | some p =>
       obtain⟨a,rfl⟩:=wU hg
       have h0:((((a++[p]).length:Nat) : Int) == 0)=false:=by rw[beq_eq_false_iff_ne,List.length_append,List.length_singleton]; omega
       simp only[List.getLastD_concat,h0,Bool.false_or,decide_eq_true_eq]
       by_cases h:p.1=x.2.2.1
       ·rw[if_pos h,if_neg (by simpa using h),h]
       ·rw[if_neg h,if_pos h]
    refine aC (fun hc2=>?_) (fun hc2=>?_)
    ·rw[if_pos hc2] at hnew
     rw[xf (y:=St x.2.2.1) rfl v3,oH]
     refine⟨dD.cells (x.2.2.1,([],0)),rfl, ?_⟩
     rw[mO (x:=.agg (dD.cells (x.2.2.1,([],0)))) (size:=3) rfl rfl rfl,bg]
     refine rE (E:=dD) (a:=(x.2.2.1,([],0))) o3 n3 (by decide) (by omega) (by omega) fun v9 M9 o9 k9 n9 _=>?_
     refine hJ5 _ _ ⟨v9,acc,(x.2.2.1,([],0)),rfl,k3.cz k9 (fun d hd=>.inl (o3.blk d hd).1),o9,Nat.zero_le _,by omega, ?_⟩
     rw[hnew]; simp
    ·rw[if_neg (by rw[hc2]; simp)] at hnew
     cases hg:acc.getLast? with
     | none =>
       rw[List.getLast?_eq_none_iff] at hg; subst hg; simp at hc2
     | some p =>
       obtain⟨a,rfl⟩:=wU hg
       have hp:p.1=x.2.2.1:=by
        have:=(Bool.or_eq_false_iff.1 hc2).2
        simpa using this
       refine hJ5 _ _ ⟨dv,a,p,rfl,k3,o3,by have:=hfl.2 p (by simp); omega,by have:=hfl.1; simp at this; omega, ?_⟩
       rw[hnew,List.dropLast_concat,List.getLastD_concat,hp]
 ·have he:i=es.length:=by
   have:¬ i<es.length:=of_decide_eq_false hge
   omega
  subst he
  rw[List.take_length] at o3
  exact hQ dv M3 o3 k3
def Lb (c:ak) : Prop:=∀ {M:RM} {v:AV} {es:List aD} {s:List UInt8} {Q:aj},Sl aA M v es→es.length≤50000→(∀ M',ag [] M M'→Q (St (firstT s (jD es s))) M')→c [v,St s] M Q
theorem Cz {c:List UInt8} : ∀ {a b:List rP},(∀ f∈a,f.1≠AR)→firstT c (a++b)=firstT c b
 | [],b,_=>rfl
 | f :: a,b,h=>by
   rw[List.cons_append,firstT,if_neg (h f (by simp))]
   exact Cz fun g hg=>h g (List.mem_cons_of_mem _ hg)
theorem Vq {TF:Nat} {cf:ak} (hf:uo TF cf) : Lb fun args M Q=>∃ a0 a1,args=[a0,a1]∧Rm cf a0 a1 M Q:=by
 intro M v es s Q hv hlen hQ
 refine⟨_,_,rfl, ?_⟩
 unfold Rm
 refine hf hv hlen fun v1 M1 o1 k1=>?_
 have hfl:=(Wq s es).1
 refine aG (fun z ys M3=>∃ (i:Nat),z=(jD es s).length - i∧ys=[N .i64 (i:Int)]∧i≤(jD es s).length∧M3=M1∧∀ f∈(jD es s).take i,f.1≠AR) _
  ⟨0,rfl,rfl,Nat.zero_le _,rfl,by simp⟩ ?_
 rintro next z ys M3 hnext ⟨i,rfl,rfl,hil,rfl,hno⟩
 dsimp only[aa]
 rw[aL.len o1.eZ,dB]
 refine aC (fun hlt=>?_) (fun hge=>?_)
 ·have hlt:i<(jD es s).length:=of_decide_eq_true hlt
  rw[BQ o1.eZ hlt (x:=St (jD es s)[i].1) rfl,jC]
  refine aC (fun hc=>?_) (fun hc=>?_)
  ·have hc:(jD es s)[i].1=AR:=by simpa [AR] using hc
   rw[BQ o1.eZ hlt (x:=St (jD es s)[i].2.1) rfl]
   have:firstT s (jD es s)=(jD es s)[i].2.1:=by
    conv=>lhs; rw[← List.take_append_drop i (jD es s)]
    rw[Cz hno,List.drop_eq_getElem_cons hlt,firstT,if_pos hc]
   rw[this] at hQ
   exact hQ M3 k1
  ·have hc:¬ (jD es s)[i].1=AR:=by simpa [AR] using hc
   rw[add1 (by omega)]
   refine hnext _ _ _ (by omega) ⟨i + 1,rfl,rfl,by omega,rfl,fun f hf=>?_⟩
   rw[List.take_succ_eq_append_getElem hlt] at hf
   rcases List.mem_append.1 hf with hf | hf
   ·exact hno f hf
   ·simp at hf; subst hf; exact hc
 ·have he:i=(jD es s).length:=by
   have:¬ i<(jD es s).length:=of_decide_eq_false hge
   omega
  subst he
  rw[List.take_length] at hno
  have:firstT s (jD es s)=s:=by
   have:=Cz (c:=s) (b:=[]) hno
   rw[List.append_nil] at this
   rw[this]; rfl
  rw[this] at hQ
  exact hQ M3 k1
end Go.Ab.Crw.Viw
namespace Go.Ab.Crw
open Go Go.Ab Go.Ab.aH
theorem Ji (l:List Ev) : ∀ x∈uM l,eG x.1 x.2=true:=U4 l [] (by simp)
end Go.Ab.Crw
namespace Go.Ab.Crw.Viw
open Go Go.Ab Go.Ab.aH Go.Ab.Vw
def aea (TS T:Nat) (c:ak) : Prop:=∀ {M:RM} {v:AV} {l:List Ev} {Q:aj},iK xM M v l (fun d=>d<M.next)→l.length≤60 →
 (∀ t M',M.next≤t→oF TS T (fun d=>M.next≤d∧d<M'.next∧d≠t) M' t (ol l).1 (ol l).2→ag [] M M'→Q (.ptr t 0) M')→c [v] M Q
theorem abH {TS T:Nat} {cn cA:ak} (hn:Yu TS T cn) (hA:Zd TS T cA) : aea TS T fun args M Q=>∃ a0,args=[a0]∧G7 cn cA a0 M Q:=by
 intro M v l Q hv hl hQ
 refine⟨_,rfl, ?_⟩
 unfold G7
 simp only[gK,eu,dE,dQ,bF]
 refine hn fun t M1 ht st1 k1=>?_
 refine aG (fun z ys M3=>∃ i:Nat,z=l.length - i∧ys=[N .i64 (i:Int)]∧i≤l.length∧ag [] M M3∧oF TS T (fun d=>M.next≤d∧d<M3.next∧d≠t) M3 t (ol (l.take i)).1 (ol (l.take i)).2) _
  ⟨0,rfl,rfl,Nat.zero_le _,k1,(st1.mono (B':=fun d=>M.next≤d∧d≠t) (fun d hd=>⟨hd.1,by omega⟩) (fun h=>h.2 rfl)).below.mono (fun d hd=>⟨hd.1.1,hd.2,hd.1.2⟩) (fun h=>h.2.2 rfl)⟩ ?_
 rintro next z ys M3 hnext ⟨i,rfl,rfl,hi,k3,st3⟩
 dsimp only[aa]
 have hv3:iK xM M3 v l (fun d=>d<M.next):=hv.keep k3 (by simp)
 rw[RP,bZ]
 try dsimp only
 rw[hv3.len,dB]
 try dsimp only
 rw[dC]
 refine aC (fun hlt=>?_) (fun hge=>?_)
 ·have hlt:i<l.length:=of_decide_eq_true hlt
  have n3:=k3.next
  have hI:MC i (ol (l.take i)):=by
   have:=afA (l.take i)
   rwa [List.length_take,Nat.min_eq_left hi] at this
  have htk:ol (l.take (i + 1))=vC (ol (l.take i)) l[i]:=by rw[List.take_succ_eq_append_getElem hlt,UQ]
  have fin:∀ M',ag [] M M'→oF TS T (fun d=>M.next≤d∧d<M'.next∧d≠t) M' t (ol (l.take (i + 1))).1 (ol (l.take (i + 1))).2→next [N .i64 ((i + 1:Nat) : Int)] M':=fun M' k' st' =>
   hnext _ _ _ (by omega) ⟨i + 1,rfl,rfl,by omega,k',st'⟩
  rw[htk] at fin
  generalize ol (l.take i)=s at *
  obtain⟨b,o,kv,hidx,hl7,_,hkv,hkb⟩:=VM hv3 hlt
  rw[hidx,hl7]
  generalize l[i]=x at *
  have hne:t ∉ aJ kv:=fun h=>by have:=hkb t h; omega
  refine hA st3 hI.si (by omega) (by have:=hI.few; omega) hkv hne (fun hb M4 k4=>?_) (fun hg M4 st4 k4=>?_)
  ·rw[add1 (by omega)]
   refine fin M4 (k3.trans k4) ?_
   unfold vC
   rw[if_neg (by rw[hb]; decide)]
   have n4:=k4.next
   exact(st3.keep k4 (by simp) (by simp)).mono (fun d hd=>⟨hd.1,by omega,hd.2.2⟩) (fun h=>h.2.2 rfl)
  ·rw[add1 (by omega)]
   refine fin M4 (k3.cz k4 (fun d hd=>by simp at hd; omega)) ?_
   unfold vC
   rw[if_pos hg]
   have lt3:=st3.lt
   have n4:=k4.next
   refine(st4.below.mono (B':=fun d=>M.next≤d∧d<M4.next∧d≠t) (fun d hd=>?_) (fun h=>h.2.2 rfl))
   obtain⟨h | h,h'⟩:=hd
   ·exact⟨h.1,h',h.2.2⟩
   ·exact⟨by omega,h',by omega⟩
 ·have he:i=l.length:=by
   have:¬ i<l.length:=of_decide_eq_false hge
   omega
  subst he
  rw[List.take_length] at st3
  exact hQ t M3 ht st3 k3
def acL (TS T:Nat) (c:ak) : Prop:=∀ {M:RM} {t:Nat} {C:Nat→Prop} {ps:List Pt} {es:List aD} {v:AV} {s:List UInt8} {Q:aj},oF TS T C M t ps es→es.length≤50000→rQ es→Sl aA M v es→(∀ M',ag [] M M'→Q (Bo true) M')→c [.ptr t 0,v,St s] M Q
theorem aeU {TS T TF TG:Nat} {cg cf:ak} (hg:agH TS T TF cg) (hf:uo TG cf) : acL TS T fun args M Q=>∃ a0 a1 a2,args=[a0,a1,a2]∧Fe cg cf a0 a1 a2 M Q:=by
 intro M t C ps es v s Q hst hlen hse hv hQ
 refine⟨_,_,_,rfl, ?_⟩
 unfold Fe
 simp only[gK,eu,dE,dQ,bF]
 have hfw:=Bv s es hse
 refine hg hst hlen (fun h0 M1 k1=>?_) (fun h0 v1 M1 o1 k1=>?_)
 ·rw[lV,lQ]
  refine hf (aL.keep hv k1 (by simp)) hlen fun v2 M2 o2 k2=>?_
  rw[aL.len o2.eZ,hfw,h0,bL]
  refine aC (fun _=>?_) (fun hc=>by simp at hc)
  rw[bL,show((4:Int) == 4)=true from rfl,bZ]
  try dsimp only
  rw[aL.len (M:=M2) (size:=3) (.nil),bL]
  try dsimp only
  rw[dC]
  exact hQ M2 (k1.trans k2)
 ·rw[lV,lQ]
  refine hf (aL.keep hv k1 (by simp)) hlen fun v2 M2 o2 k2=>?_
  rw[hfw] at o2
  have agx:=zA es s
  generalize aY es s=fs at *
  have hpos:=List.length_pos_iff.2 h0
  rw[aL.len o2.eZ,bL]
  refine aC (fun hc=>?_) (fun _=>?_)
  ·have:(fs.length:Int)=0:=by simpa using hc
   omega
  have o12:=o1.keep k2 (by simp)
  have n1:=k1.next
  have n2:=k2.next
  rw[jH,show((0:Int) != 0)=false from rfl,gZ]
  try dsimp only
  rw[aL.len o12.eZ,aL.len o2.eZ,jH,show(((fs.length:Nat) : Int) != ((fs.length:Nat) : Int))=false by simp]
  try dsimp only
  rw[bT,bA]
  refine aG (fun z ys M3=>∃ (i:Nat) (fs' : List rP),z=fs.length - i∧ys=[N .i64 (i:Int)]∧i≤fs.length∧ag [] M M3∧Ow dD M3 M.next TF v1 fs'∧Ow dD M3 M1.next TG v2 fs∧fs'.length=fs.length∧∀ j,i≤j→fs'[j]?=fs[j]?) _
   ⟨0,fs,rfl,rfl,Nat.zero_le _,k1.trans k2,o12,o2,rfl,fun _ _=>rfl⟩ ?_
  rintro next z ys M3 hnext ⟨i,fs',rfl,rfl,hil,k3,oa,ob,hfl,heq⟩
  dsimp only[aa]
  rw[aL.len oa.eZ,hfl,dB]
  refine aC (fun hlt=>?_) (fun hge=>?_)
  ·have hlt:i<fs.length:=of_decide_eq_true hlt
   have hlt' : i<fs'.length:=by omega
   have hx:fs'[i]=fs[i]:=by
    have:=heq i (Nat.le_refl _)
    rw[List.getElem?_eq_getElem hlt',List.getElem?_eq_getElem hlt] at this
    exact Option.some.inj this
   have ra:∀ {j:Nat} {y:AV},(dD.cells fs[i])[j]?=some y→∀ {K:AV→Prop},(ah v1 (N .i64 (i:Int)) 3 fun p=>aI p j fun q=>au M3 q K)=K y:=fun hy K=>BQ oa.eZ hlt' (by rw[hx]; exact hy)
   have rb:∀ {j:Nat} {y:AV},(dD.cells fs[i])[j]?=some y→∀ {K:AV→Prop},(ah v2 (N .i64 (i:Int)) 3 fun p=>aI p j fun q=>au M3 q K)=K y:=fun hy K=>BQ ob.eZ hlt hy
   rw[ra (j:=0) (y:=St fs[i].1) rfl,rb (j:=0) (y:=St fs[i].1) rfl,jW,show(fs[i].1 != fs[i].1)=false by simp,lK]
   try dsimp only
   rw[ra (j:=1) (y:=St fs[i].2.1) rfl,rb (j:=1) (y:=St fs[i].2.1) rfl,jW,show(fs[i].2.1 != fs[i].2.1)=false by simp]
   try dsimp only
   rw[bT,lK]
   try dsimp only
   rw[ra (j:=2) (y:=N .i64 (fs[i].2.2:Int)) rfl,rb (j:=2) (y:=N .i64 (fs[i].2.2:Int)) rfl,jH,show(((fs[i].2.2:Nat) : Int) != ((fs[i].2.2:Nat) : Int))=false by simp]
   try dsimp only
   rw[bT,bA]
   obtain⟨b,o,hb1,hb2,hidx,hst⟩:=afP (E:=dD) oa hlt' (j:=1) (by decide) (x:=St [115,112,111,105,108,116]) (y:=(fs'[i].1,([115,112,111,105,108,116],fs'[i].2.2))) rfl rfl rfl
   rw[show(3:Nat)=dD.size from rfl,hidx,aN]
   refine hst _ fun M4 o4 k4=>?_
   rw[add1 (by omega)]
   have hbv:b∈aJ v1:=by
    have oa' : Own M3 M.next TF 3 v1 (dD.row fs') fs'.length:=oa
    obtain⟨b',rfl,_⟩:=Own.uO oa' (by omega)
    have:=hidx .i64 (fun p=>p=.ptr b o)
    rw[ma] at this
    have:=(this.symm▸rfl:_∧_∧_).2.2
    injection this with e _
    simp[aJ,e]
   have hb1':=(o1.blk b hbv).2
   refine hnext _ _ _ (by omega) ⟨i + 1,_,rfl,rfl,by omega,k3.cz k4 (by simp; omega),o4,ob.keep k4 (fun d hd hm=>?_),by rw[List.length_set]; exact hfl,fun j hj=>?_⟩
   ·simp at hm; subst hm
    have:=(ob.blk d hd).1
    omega
   ·rw[List.getElem?_set_ne (by omega)]
    exact heq j (by omega)
  ·have he:i=fs.length:=by
    have:¬ i<fs.length:=of_decide_eq_false hge
    omega
   exact hQ M3 k3
theorem afe {α:Type} {p:α→Bool} {l:List α} {i:Nat} (hi:i<l.length) (hp:p l[i]=true) : (l.filter p)[((l.take i).filter p).length]?=some l[i]:=by
 have:l=l.take i++l[i] :: l.drop (i + 1):=by rw[← List.drop_eq_getElem_cons hi,List.take_append_drop]
 have e:l.filter p=(l.take i).filter p++l[i] :: (l.drop (i + 1)).filter p:=by
  conv=>lhs; rw[this]
  rw[List.filter_append,List.filter_cons_of_pos hp]
 rw[e,List.getElem?_append_right (Nat.le_refl _),Nat.sub_self]; rfl
def TR (B:Base) (TS T:Nat) (c:ak) : Prop:=∀ {M:RM} {t:Nat} {C:Nat→Prop} {ps:List Pt} {es:List aD} {v:AV} {s:List UInt8} {Q:aj},M.base=B→oF TS T C M t ps es→es.length≤50000→rQ es→BdE es→s.length<140737488355328→Sl aA M v es→(∀ M',ag [] M M'→Q (Bo true) M')→c [.ptr t 0,v,St s] M Q
theorem aaR {B:Base} {TS T T9 TA TG:Nat} {cg cc cw cf:ak} (hg:adW B TS T T9 cg) (hc:yg TA cc) (hw:yu cw) (hf:uo TG cf) : TR B TS T fun args M Q=>∃ a0 a1 a2,args=[a0,a1,a2]∧Am cg cc cw cf a0 a1 a2 M Q:=by
 intro M t C ps es v s Q hB hst hlen hse hbd hsl hv hQ
 refine⟨_,_,_,rfl, ?_⟩
 unfold Am
 simp only[gK,eu,dE,dQ,bF]
 refine hg hB hst hlen hse hbd hsl fun v1 M1 o1 k1=>?_
 refine hc (aL.keep hv k1 (by simp)) hlen fun v2 M2 o2 k2=>?_
 rw[Dm] at o2
 have o12:=o1.keep k2 (by simp)
 have hcl:=LF es
 have hfll:(Lf es s).length≤(bV es).length:=List.length_filter_le _ _
 refine aG (fun z ys M3=>∃ (i:Nat),z=(bV es).length - i∧ys=[N .i64 (((((bV es).take i).filter (fT es (lw s))).length:Nat) : Int),N .i64 (i:Int)]∧i≤(bV es).length∧ag [] M2 M3) _
  ⟨0,rfl,rfl,Nat.zero_le _,ag.refl _ _⟩ ?_
 rintro next z ys M3 hnext ⟨i,rfl,rfl,hil,k3⟩
 dsimp only[aa]
 have k03:=(k1.trans k2).trans k3
 have s1:=aL.keep o12.eZ k3 (by simp)
 have s2:=aL.keep o2.eZ k3 (by simp)
 rw[aL.len s2,dB]
 refine aC (fun hlt=>?_) (fun hge=>?_)
 ·have hlt:i<(bV es).length:=of_decide_eq_true hlt
  have hfl:=uk (fT es (lw s)) (bV es) i
  refine aP (fun zs M'=>zs=[N .i64 (((((bV es).take (i + 1)).filter (fT es (lw s))).length:Nat) : Int)]∧ag [] M2 M') ?_ ?_
  ·rintro zs M' ⟨rfl,k'⟩
   dsimp only[aa]
   rw[add1 (by omega)]
   exact hnext _ _ _ (by omega) ⟨i + 1,rfl,rfl,by omega,k'⟩
  intro J hJ
  rw[pK hlt] at hJ
  have hcm:(bV es)[i]∈bV es:=List.getElem_mem hlt
  have hat:=fun h=>afe (p:=fT es (lw s)) hlt h
  have awE:(bV es)[i].length≤600:=by
   obtain⟨x,hx,e⟩:=(Rn (bV es)[i] es).1 hcm
   rw[← e]; exact(hbd x hx).1
  rw[uS s2 hlt]
  refine hw (by omega) hsl fun M4 k4=>?_
  have k24:=k3.trans k4
  rw[uS (aL.keep o2.eZ k24 (by simp)) hlt]
  refine hf (aL.keep hv (k03.trans k4) (by simp)) hlen fun v5 M5 o5 k5=>?_
  rw[Bv _ es hse] at o5
  have agx:=zA es (bV es)[i]
  have k25:=k24.trans k5
  have s25:=fun {M' : RM} (k:ag [] M2 M')=>aL.keep o2.eZ k (by simp)
  refine aG (fun z ys M6=>∃ (j:Nat),z=(aY es (bV es)[i]).length - j∧ys=[Bo (Lib.contains (lw (bV es)[i]) (lw s) || ((aY es (bV es)[i]).take j).any fun f=>Lib.contains (lw f.2.1) (lw s)),N .i64 (j:Int)]∧j≤(aY es (bV es)[i]).length∧ag [] M5 M6) _
   ⟨0,rfl,by simp,Nat.zero_le _,ag.refl _ _⟩ ?_
  rintro iq z ys M6 dm ⟨j,rfl,rfl,hjl,k6⟩
  dsimp only[aa]
  have s6:=aL.keep o5.eZ k6 (by simp)
  rw[aL.len s6,dB]
  refine aC (fun hlt2=>?_) (fun mU=>?_)
  ·have hlt2:j<(aY es (bV es)[i]).length:=of_decide_eq_true hlt2
   have hts:(aY es (bV es)[i]).take (j + 1)=(aY es (bV es)[i]).take j++[(aY es (bV es)[i])[j]]:=List.take_succ_eq_append_getElem hlt2
   have awQ:(aY es (bV es)[i])[j].2.1.length≤600:=by
    obtain⟨x,hx,_,_,e⟩:=fields_of hse (List.getElem_mem hlt2)
    rw[← e]; exact(hbd x hx).2.2
   refine ajs (P:=fun M'=>ag [] M5 M') (p:=Lib.contains (lw (aY es (bV es)[i])[j].2.1) (lw s)) k6 (fun _ k hk=>?_) fun M9 k9=>?_
   ·rw[BQ s6 hlt2 (j:=1) (x:=St (aY es (bV es)[i])[j].2.1) rfl]
    refine hw (by omega) hsl fun M8 k8=>?_
    exact hk M8 (k6.trans k8)
   ·rw[add1 (by omega)]
    refine dm _ _ _ (by omega) ⟨j + 1,rfl, ?_,by omega,k9⟩
    rw[hts,List.any_append]
    simp[Bool.or_assoc]
  ·have he:j=(aY es (bV es)[i]).length:=by
    have:¬ j<(aY es (bV es)[i]).length:=of_decide_eq_false mU
    omega
   subst he
   rw[List.take_length]
   have hh:(Lib.contains (lw (bV es)[i]) (lw s) || (aY es (bV es)[i]).any fun f=>Lib.contains (lw f.2.1) (lw s))=fT es (lw s) (bV es)[i]:=rfl
   rw[hh,bD]
   have k26:=k25.trans k6
   refine aC (fun hc=>?_) (fun hc=>?_)
   ·refine hJ _ _ ⟨?_,k26⟩
    rw[if_neg (by simpa using hc),List.append_nil]
   ·have hc:fT es (lw s) (bV es)[i]=true:=by simpa using hc
    have hat:=hat hc
    have hal:(((bV es).take i).filter (fT es (lw s))).length<(Lf es s).length:=(List.getElem?_eq_some_iff.1 hat).1
    have hae:(Lf es s)[(((bV es).take i).filter (fT es (lw s))).length]=(bV es)[i]:=(List.getElem?_eq_some_iff.1 hat).2
    rw[if_pos hc] at hJ
    generalize hn:(((bV es).take i).filter (fT es (lw s))).length=n at *
    rw[aL.len (aL.keep o12.eZ k26 (by simp)),jy,decide_eq_false (by omega),lK]
    try dsimp only
    rw[uS (aL.keep o12.eZ k26 (by simp)) hal,uS (s25 k26) hlt,jW,hae,show((bV es)[i] != (bV es)[i])=false by simp]
    try dsimp only
    rw[bT,bA,add1 (by omega)]
    refine hJ _ _ ⟨?_,k26⟩
    rw[List.length_append,hn]; rfl
 ·have he:i=(bV es).length:=by
   have:¬ i<(bV es).length:=of_decide_eq_false hge
   omega
  subst he
  rw[List.take_length,aL.len s1,bL]
  have:((((bV es).filter (fT es (lw s))).length:Int) == ((Lf es s).length:Int))=true:=by simp[Lf]
  rw[this]
  exact hQ M3 k03
def NeE (es:List aD) : Prop:=∀ x∈es,x.2.2.1≠[]
def Oc (TS T:Nat) (c:ak) : Prop:=∀ {M:RM} {t:Nat} {C:Nat→Prop} {ps:List Pt} {es:List aD} {v:AV} {Q:aj},oF TS T C M t ps es→es.length≤50000→rQ es→NeE es→Sl aA M v es→(∀ M',ag [] M M'→Q (Bo true) M')→c [.ptr t 0,v] M Q
theorem adq {es:List aD} (h:NeE es) {x:aD} (hx:x∈es) : es.filter (zY x.2.1 x.2.2.1)=es.filter (dS x):=by
 refine List.filter_congr fun y _=>?_
 have:(x.2.2.1 == ([] : List UInt8))=false:=by simpa using h x hx
 rw[zY,dS,this,Bool.false_or]
 rw[Bool.eq_iff_iff]
 simp only[Bool.and_eq_true,beq_iff_eq,decide_eq_true_eq]
 exact⟨fun h=>⟨h.1.symm,h.2.symm⟩,fun h=>⟨h.1.symm,h.2.symm⟩⟩
theorem XH {TS T TN TM TL:Nat} {cg co cs:ak} (hg:Wu TS T TN cg) (ho:Zt TM co) (hs:BM cs) : Oc TS T fun args M Q=>∃ a0 a1,args=[a0,a1]∧zl cg co TL cs a0 a1 M Q:=by
 intro M t C ps es v Q hst hlen hse hne hv hQ
 refine⟨_,_,rfl, ?_⟩
 unfold zl
 simp only[gK,eu,dE,dQ,bF]
 refine hg hst hlen hse fun v1 M1 o1 k1=>?_
 refine aG (fun z ys M3=>∃ (i:Nat) (dv:AV),z=es.length - i∧ys=[dv,N .i64 (i:Int)]∧i≤es.length∧ag [] M1 M3∧Ow aA M3 M1.next TL dv ((es.take i).filter fun x=>decide (1<(es.filter (dS x)).length))) _
  ⟨0,di,rfl,rfl,Nat.zero_le _,ag.refl _ _,.nil⟩ ?_
 rintro next z ys M3 hnext ⟨i,dv,rfl,rfl,hil,k3,o3⟩
 dsimp only[aa]
 have k03:=k1.trans k3
 have v3:=aL.keep hv k03 (by simp)
 rw[aL.len v3,dB]
 have n3:=k3.next
 refine aC (fun hlt=>?_) (fun hge=>?_)
 ·have hlt:i<es.length:=of_decide_eq_true hlt
  have hfl:=uk (fun x:aD=>decide (1<(es.filter (dS x)).length)) es i
  refine aP (fun zs M'=>∃ dv',zs=[dv']∧ag [] M1 M'∧Ow aA M' M1.next TL dv' ((es.take (i + 1)).filter fun x=>decide (1<(es.filter (dS x)).length))) ?_ ?_
  ·rintro zs M' ⟨dv',rfl,k',o'⟩
   dsimp only[aa]
   rw[add1 (by omega)]
   exact hnext _ _ _ (by omega) ⟨i + 1,dv',rfl,rfl,by omega,k',o'⟩
  intro J hJ
  rw[pK hlt] at hJ
  rw[rF v3 hlt (x:=St es[i].2.1) rfl,rF v3 hlt (x:=St es[i].2.2.1) rfl]
  refine ho v3 hlen fun v4 M4 o4 k4=>?_
  rw[adq hne (List.getElem_mem hlt)] at o4
  have v4':=aL.keep v3 k4 (by simp)
  have n4:=k4.next
  rw[aL.len o4.eZ,show(N .i64 (1:Int))=N .i64 ((1:Nat) : Int) from rfl,pV]
  have o34:=o3.keep k4 (by simp)
  refine aC (fun hc=>?_) (fun hc=>?_)
  ·have hc:1<(es.filter (dS es[i])).length:=of_decide_eq_true hc
   rw[show(N .i64 (i:Int))=N .i64 ((i:Nat) : Int) from rfl,pg v4' hlt,mO (x:=.agg (aA.cells es[i])) (size:=5) rfl (oz _) rfl,bg]
   refine rE (E:=aA) (a:=es[i]) o34 (by omega) (by decide) (by omega) (by omega) fun v9 M9 o9 k9 n9 _=>?_
   refine hJ _ _ ⟨v9,rfl,(k3.trans k4).cz k9 (fun d hd=>.inl (o34.blk d hd).1), ?_⟩
   rw[if_pos (by simpa using hc)]; exact o9
  ·have hc:¬ 1<(es.filter (dS es[i])).length:=of_decide_eq_false hc
   refine hJ _ _ ⟨dv,rfl,k3.trans k4, ?_⟩
   rw[if_neg (by simpa using hc),List.append_nil]; exact o34
 ·have he:i=es.length:=by
   have:¬ i<es.length:=of_decide_eq_false hge
   omega
  subst he
  rw[List.take_length,← aiz hse] at o3
  have hcl:=(agX hse).1
  refine hs (aL.keep o1.eZ k3 (by simp)) o3.eZ (by omega) ?_
  rw[decide_eq_true rfl]
  exact hQ M3 k03
theorem ajY {f g:Prop→Prop} {k:Prop} : Jy (Bo true) true f g k=f k:=rfl
theorem aj8 {f g:Prop→Prop} {k:Prop} : Jy (Bo false) true f g k=g k:=rfl
theorem atS {f g:Prop→Prop} {k:Prop} : Jy (Bo false) false f g k=f k:=rfl
structure VI (es:List aD) : Prop where
 st:rQ es
 bd:BdE es
 ne:NeE es
 len:es.length≤60
theorem asR {w:List Ev} (hg:∀ x∈w,eG x.1 x.2=true) (h1:w.Pairwise fun x y=>x.1.1≠y.1.1) (hl:w.length≤60) : VI (ol w).2∧qp w w.length=(ol w).2:=by
 have hch:=Ch.run hg h1 hl
 have hI:YQ w (ol w).1 (ol w).2:=⟨hch,h1,hg,hl⟩
 refine⟨⟨aoS hch.up hch.one,fun x hx=>?_,fun x hx=>?_,hI.few⟩,hI.Ip⟩
 ·have:=hI.ok x hx
  exact⟨this.2.2.2.1,this.2.2.2.2.1,this.2.2.2.2.2⟩
 ·obtain⟨e,he,ho,rfl,_⟩:=(hch.Ip x).1 hx
  have:=hg e he
  simp only[eG,Bool.and_eq_true] at this
  have h2:=this.2
  simp only[E8,Bool.or_eq_true,Bool.and_eq_true,decide_eq_true_eq] at h2
  rcases h2 with h2 | h2
  ·exact h2.2
  ·rw[ho] at h2; exact absurd h2.1 (by decide)
theorem YI {M:RM} {v:AV} {xs:List bS} (h:Sl bi M v xs) {i:Nat} (hi:i<xs.length) :
  ∃ b o,(∀ (kd:IntKind) (K:AV→Prop),ah v (N kd (i:Int)) 3 K=K (.ptr b o))∧∀ (M' : RM),ag [] M M'→∀ (j:Nat) (y:AV),(bi.cells xs[i])[j]?=some y→∀ K:AV→Prop,au M' (.ptr b (o + j)) K=K y:=by
 obtain⟨b,o,hb,_,hidx,hld⟩:=Sl.at (E:=bi) (i:=i) h 3 (i:Int) hi rfl rfl
 refine⟨b,o,hidx,fun M' k j y hy K=>?_⟩
 rw[gX,q9 ((k.loads hb (by simp)).trans hld) hy]
 simp
theorem zf {M:RM} {v:AV} {xs:List bS} (h:Sl bi M v xs) {i:Nat} (hi:i<xs.length) {kd:IntKind} {j:Nat} {x:AV} (hx:(bi.cells xs[i])[j]?=some x) {K:AV→Prop} : (ah v (N kd (i:Int)) 3 fun p=>aI p j fun q=>au M q K)=K x:=by
 obtain⟨b,o,hidx,hl⟩:=YI h hi
 rw[hidx,aN,hl M (ag.refl _ _) j x hx]
theorem Hf (es:List aD) : (cB es).Perm ((bV es).map (jo es)):=QS L6 _
theorem UR (es:List aD) : (cB es).length=(bV es).length:=by rw[(Hf es).length_eq,List.length_map]
theorem an2 {L:List (List UInt8)} (hu:L.Pairwise fun a b=>a<b) {c:List UInt8} (hc:c∈L) : (L.filter fun d=>decide (d=c)).length=1:=by
 obtain⟨a,b,rfl⟩:=List.append_of_mem hc
 obtain⟨_,h2,h3⟩:=List.pairwise_append.1 hu
 have h4:=(List.pairwise_cons.1 h2).1
 have ha:(a.filter fun d=>decide (d=c))=[]:=List.filter_eq_nil_iff.2 fun d hd e=>by
  have e:d=c:=of_decide_eq_true e
  subst e
  exact List.lt_irrefl _ (h3 d hd d (by simp))
 have hb:(b.filter fun d=>decide (d=c))=[]:=List.filter_eq_nil_iff.2 fun d hd e=>by
  have e:d=c:=of_decide_eq_true e
  subst e
  exact List.lt_irrefl _ (h4 d hd)
 rw[List.filter_append,ha,List.filter_cons_of_pos (by simp),hb]; rfl
theorem ahV {es:List aD} (hs:rQ es) {c:List UInt8} (hc:c∈bV es) : ((cB es).filter fun y=>decide (y=jo es c)).length=1:=by
 rw[((Hf es).filter _).length_eq,List.filter_map,List.length_map]
 refine Eq.trans (congrArg List.length (List.filter_congr fun d _=>?_)) (an2 (af3 es hs) hc)
 show decide (jo es d=jo es c)=decide (d=c)
 by_cases h:d=c
 ·subst h; simp
 ·have:jo es d≠jo es c:=fun e=>h (congrArg (fun x:bS=>x.1) e)
  simp[h,this]
theorem al1 {es:List aD} (hs:rQ es) {i:Nat} (hi:i + 1<(cB es).length) : ¬ (cB es)[i + 1].2.1<(cB es)[i].2.1∧((cB es)[i + 1].2.1=(cB es)[i].2.1→¬ (cB es)[i + 1].1<(cB es)[i].1∧(cB es)[i + 1].1≠(cB es)[i].1):=by
 have h1:=List.pairwise_iff_getElem.1 (aib L6 ((bV es).map (jo es))) i (i + 1) (by show i<(cB es).length; omega) hi (by omega)
 have hnd:((cB es).map fun x=>x.1).Nodup:=by
  have hp:=(Hf es).map fun x:bS=>x.1
  rw[List.map_map,show((fun x:bS=>x.1) ∘ jo es)=id from rfl,List.map_id] at hp
  exact hp.nodup_iff.2 ((af3 es hs).imp fun {a b} h e=>by subst e; exact List.lt_irrefl _ h)
 have h2:(cB es)[i].1≠(cB es)[i + 1].1:=by
  have:=List.pairwise_iff_getElem.1 hnd i (i + 1) (by rw[List.length_map]; omega) (by rw[List.length_map]; omega) (by omega)
  simpa using this
 have h1:wR (cB es)[i + 1] (cB es)[i]=false:=h1
 simp only[wR,lex,Bool.or_eq_false_iff,Bool.and_eq_false_iff,decide_eq_false_iff_not] at h1
 exact⟨h1.1,fun e=>⟨by rcases h1.2 with h | h; exact absurd e h; exact h.1,fun e2=>h2 e2.symm⟩⟩
def akX (B:Base) (c:ak) : Prop:=∀ {M:RM} {v:AV} {l:List Ev} {text F6:List UInt8} {Q:aj},M.base=B→iK xM M v l (fun d=>d<M.next)→text.length<140737488355328→(∀ M',Q (Bo true) M')→c [v,St text,St F6] M Q
theorem Ul {B:Base} {TS T TN T9 TL TF TE:Nat} {ca co cof ce cg cc cl ct cf cd cb:ak} (ha:aeR B ca) (ho:aiQ TE co) (hof:aea TS T cof) (he:Er TN ce) (hg:acL TS T cg) (hc:yg T9 cc) (hl:acR TS T TL cl)
  (ht:Lb ct) (hf:uo TF cf) (hd:TR B TS T cd) (hb:Oc TS T cb) : akX B fun args M Q=>∃ a0 a1 a2,args=[a0,a1,a2]∧uL ca co cof ce cg cc cl ct cf cd cb a0 a1 a2 M Q:=by
 intro M v l text F6 Q hB hv htx hQ
 refine⟨_,_,_,rfl, ?_⟩
 unfold uL
 simp only[gK,eu,dE,dQ,bF]
 refine ha hB ?_
 rw[bD,Bool.not_true,bA,hv.len,show(N .i64 (60:Int))=N .i64 ((60:Nat) : Int) from rfl,pV]
 refine aC (fun _=>hQ _) (fun avu=>?_)
 have avJ:l.length≤60:=by
  have:¬ l.length > 60:=of_decide_eq_false avu
  omega
 refine ho hv (by omega) fun v1 M1 d1 k1=>?_
 have hwl:(uM l).length≤60:=Nat.le_trans (aa5 l) avJ
 refine hof d1 hwl fun t M2 ht2 st2 k2=>?_
 have k02:=k1.trans k2
 refine ho (hv.keep k02 (by simp) |>.mono (fun d hd=>Nat.lt_of_lt_of_le hd k02.next)) (by omega) fun v3 M3 d3 k3=>?_
 have hks:∀ e∈uM l,e.2.length≤1000000:=fun e he=>by have:=(xE (Ji l e he)).2.1; omega
 refine he d3 (fun d hd=>hd) (by omega) hks fun v4 M4 o4 k4=>?_
 obtain⟨hvi,hre⟩:=asR (Ji l) (ajj l) hwl
 rw[hre] at o4
 generalize (ol (uM l)).2=es at *
 generalize (ol (uM l)).1=ps at *
 have hes:=hvi.len
 have k24:=k3.trans k4
 have st4:=st2.keep k24 (by simp) (by simp)
 refine hg st4 (by omega) hvi.st o4.eZ fun M5 k5=>?_
 rw[bD,Bool.not_true,bA]
 have o45:=o4.keep k5 (by simp)
 refine hc o45.eZ (by omega) fun v6 M6 o6 k6=>?_
 rw[Dm] at o6
 have k26:=(k24.trans k5).trans k6
 refine hl (st2.keep k26 (by simp) (by simp)) (by omega) fun v7 M7 o7 k7=>?_
 have k27:=k26.trans k7
 have k67:=k6.trans k7
 have o67:=o6.keep k7 (by simp)
 have hcl:=LF es
 rw[aL.len o7.eZ,aL.len o67.eZ,UR,jH,show((((bV es).length:Nat) : Int) != (((bV es).length:Nat) : Int))=false by simp,bA]
 have stk:∀ {M' : RM},ag [] M7 M'→oF TS T _ M' t ps es:=fun k=>st2.keep (k27.trans k) (by simp) (by simp)
 have swk:∀ {M' : RM},ag [] M7 M'→Sl aA M' v4 es:=fun k=>aL.keep (aL.keep o45.eZ k67 (by simp)) k (by simp)
 have sck:∀ {M' : RM},ag [] M7 M'→Sl AX M' v6 (bV es):=fun k=>aL.keep o67.eZ k (by simp)
 have slk:∀ {M' : RM},ag [] M7 M'→Sl bi M' v7 (cB es):=fun k=>aL.keep o7.eZ k (by simp)
 refine aG (fun z ys M8=>∃ (i:Nat),z=(bV es).length - i∧ys=[N .i64 (i:Int)]∧i≤(bV es).length∧ag [] M7 M8) _
  ⟨0,rfl,rfl,Nat.zero_le _,ag.refl _ _⟩ ?_
 rintro next z ys M8 hnext ⟨i,rfl,rfl,hil,k8⟩
 dsimp only[aa]
 rw[aL.len (sck k8),dB]
 refine aC (fun hlt=>?_) (fun hge=>?_)
 ·have hlt:i<(bV es).length:=of_decide_eq_true hlt
  have hcm:(bV es)[i]∈bV es:=List.getElem_mem hlt
  have hone:=ahV hvi.st hcm
  have hLl:=UR es
  rw[uS (sck k8) hlt]
  refine hg (stk k8) (by omega) hvi.st (swk k8) fun M9 k9=>?_
  have k89:=k8.trans k9
  rw[bD,Bool.not_true,bA]
  refine aG (fun z ys Ma=>∃ (k:Nat),z=(cB es).length - k∧ys=[N .i64 ((((((cB es).take k).filter fun y=>decide (y=jo es (bV es)[i])).length:Nat)) : Int),N .i64 (k:Int)]∧k≤(cB es).length∧ag [] M7 Ma) _
   ⟨0,rfl,rfl,Nat.zero_le _,k89⟩ ?_
  rintro iq z ys Ma dm ⟨k,rfl,rfl,hkl,ka⟩
  dsimp only[aa]
  rw[aL.len (slk ka),dB]
  refine aC (fun hlt2=>?_) (fun mU=>?_)
  ·have hlt2:k<(cB es).length:=of_decide_eq_true hlt2
   have hfl:=uk (fun y=>decide (y=jo es (bV es)[i])) (cB es) k
   refine aP (fun zs M'=>zs=[N .i64 ((((((cB es).take (k + 1)).filter fun y=>decide (y=jo es (bV es)[i])).length:Nat)) : Int)]∧ag [] M7 M') ?_ ?_
   ·rintro zs M' ⟨rfl,k'⟩
    dsimp only[aa]
    rw[add1 (by omega)]
    exact dm _ _ _ (by omega) ⟨k + 1,rfl,rfl,by omega,k'⟩
   intro J hJ
   rw[pK hlt2] at hJ
   generalize hn:(((cB es).take k).filter fun y=>decide (y=jo es (bV es)[i])).length=n at *
   rw[zf (slk ka) hlt2 (j:=0) (x:=St (cB es)[k].1) rfl,uS (sck ka) hlt,jC]
   have hno:∀ M',(cB es)[k]≠jo es (bV es)[i]→ag [] M7 M'→J [N .i64 (n:Int)] M':=fun M' h k'=>by
    refine hJ _ _ ⟨?_,k'⟩
    rw[if_neg (by simpa using h),List.append_nil,hn]
   cases h1:((cB es)[k].1 == (bV es)[i]) with
   | false =>
     simp only[gG,bN,aj8,bT,bA]
     exact hno _ (fun e=>by rw[e] at h1; simp[jo] at h1) ka
   | true =>
     have h1:(cB es)[k].1=(bV es)[i]:=by simpa using h1
     simp only[gI,bZ,ajY,dC]
     obtain⟨b,o,hidx,hld⟩:=YI (slk ka) hlt2
     rw[hidx,aN,hld _ (ag.refl _ _) 1 (St (cB es)[k].2.1) rfl,uS (sck ka) hlt]
     refine ht (swk ka) (by omega) fun Mb kb=>?_
     rw[hld _ kb 1 (St (cB es)[k].2.1) rfl]
     refine⟨rfl, ?_⟩
     have kab:=ka.trans kb
     rw[Bv _ es hvi.st,← Uq (aiL hvi.st _),jC]
     cases h2:((cB es)[k].2.1 == lastT (bV es)[i] (aY es (bV es)[i])) with
     | false =>
       simp only[gG,bN,aj8,bT,bA]
       exact hno _ (fun e=>by rw[e] at h2; simp[jo] at h2) kab
     | true =>
       have h2:(cB es)[k].2.1=lastT (bV es)[i] (aY es (bV es)[i]):=by simpa using h2
       simp only[gI,bZ,ajY,dC]
       obtain⟨b2,o2,rR,vJ⟩:=YI (slk kab) hlt2
       rw[rR,aN,vJ _ (ag.refl _ _) 2 (N .i64 ((cB es)[k].2.2:Int)) rfl,uS (sck kab) hlt]
       refine hf (swk kab) (by omega) fun vc Mc oc kc=>?_
       rw[vJ _ kc 2 (N .i64 ((cB es)[k].2.2:Int)) rfl]
       refine⟨rfl, ?_⟩
       rw[aL.len oc.eZ,Bv _ es hvi.st,bL]
       have kac:=kab.trans kc
       refine aC (fun h3=>?_) (fun h3=>?_)
       ·have h3:(cB es)[k].2.2=(aY es (bV es)[i]).length:=by
         have:((cB es)[k].2.2:Int)=((aY es (bV es)[i]).length:Int):=by simpa using h3
         omega
        rw[add1 (by omega)]
        refine hJ _ _ ⟨?_,kac⟩
        rw[if_pos (by
         have:(cB es)[k]=jo es (bV es)[i]:=Prod.ext h1 (Prod.ext h2 h3)
         simp[this]),List.length_append,hn]; rfl
       ·exact hno _ (fun e=>by rw[e] at h3; simp[jo] at h3) kac
  ·have he2:k=(cB es).length:=by
    have:¬ k<(cB es).length:=of_decide_eq_false mU
    omega
   subst he2
   rw[List.take_length,hone,jH,show(((1:Nat) : Int) != 1)=false from rfl]
   simp only[lK,gG,gZ,atS,bT]
   rw[show(N .i64 (0:Int))=N .i64 ((0:Nat) : Int) from rfl,pV]
   have fin:next [N .i64 ((i + 1:Nat) : Int)] Ma:=hnext _ _ _ (by omega) ⟨i + 1,rfl,rfl,by omega,ka⟩
   rw[← add1 (K:=fun t=>next [t] Ma) (by omega)] at fin
   cases i with
   | zero =>
     simp only[Nat.lt_irrefl,gt_iff_lt,decide_false,gG,lK,bT,bA]
     exact fin
   | succ j =>
     obtain⟨q1,q2⟩:=al1 hvi.st (i:=j) (by omega)
     have hj1:j + 1<(cB es).length:=by omega
     have hj0:j<(cB es).length:=by omega
     rw[decide_eq_true (by omega)]
     simp only[gI,dC]
     rw[zf (slk ka) hj1 (j:=1) (x:=St (cB es)[j + 1].2.1) rfl,bz (by omega) (by omega),Nat.add_sub_cancel,zf (slk ka) hj0 (j:=1) (x:=St (cB es)[j].2.1) rfl,Ha,ny,decide_eq_false q1]
     simp only[lK,bT]
     rw[zf (slk ka) hj1 (j:=1) (x:=St (cB es)[j + 1].2.1) rfl,bz (by omega) (by omega),Nat.add_sub_cancel,zf (slk ka) hj0 (j:=1) (x:=St (cB es)[j].2.1) rfl,jC]
     cases h4:((cB es)[j + 1].2.1 == (cB es)[j].2.1) with
     | false =>
       simp only[gG,bT,bA]
       exact fin
     | true =>
       have h4:(cB es)[j + 1].2.1=(cB es)[j].2.1:=by simpa using h4
       obtain⟨q3,q4⟩:=q2 h4
       simp only[gI,dC]
       rw[zf (slk ka) hj1 (j:=0) (x:=St (cB es)[j + 1].1) rfl,bz (by omega) (by omega),Nat.add_sub_cancel,zf (slk ka) hj0 (j:=0) (x:=St (cB es)[j].1) rfl,ai3,ny,decide_eq_false q3,
        show((cB es)[j + 1].1 == (cB es)[j].1)=false by simpa using q4]
       rw[Bool.or_self,bA]
       exact fin
 ·refine hd ((k27.trans k8).base.trans (k02.base.trans hB)) (stk k8) (by omega) hvi.st hvi.bd htx (swk k8) fun Mb kb=>?_
  rw[bZ]
  dsimp only
  refine hb (stk (k8.trans kb)) (by omega) hvi.st hvi.ne (swk (k8.trans kb)) fun Mc kc=>?_
  rw[dC]
  exact hQ Mc
end Go.Ab.Crw.Viw
