/- Part 6 of the ground of the proofs of this seat (texts G3D to J2). By an AI agent. -/
import Derived.Test.YtngfappichkflaaGreatSam5
set_option maxRecDepth 10000
set_option linter.unusedVariables false
set_option linter.unusedSimpArgs false
namespace Go.Ab.Crw
open Go Go.Ab Go.Ab.ay
theorem abe {T:Nat} {fv:AV} {lt:Go.Ab.ay.ay→Go.Ab.ay.ay→Bool} {cv:FuncId→ai} (hl:iR aV lt (bD cv fv)) : SortG aV T 2 fv (Sort.insertionSort lt) (fun _ _ _=>True) fun args M Q=>∃ a0 a1 a2 a3,args=[a0,a1,a2,a3]∧fA cv a0 a1 a2 a3 M Q:=by
 intro M b a e d Q hat hsz hae he _ hQ
 refine⟨_,_,_,_,rfl, ?_⟩
 unfold fA
 simp only[dP,dz,dK]
 rw[add1 (by omega)]
 rw[Sort.insertionSort] at hQ
 obtain⟨R,hR⟩ : ∃ R,R=Sort.insOuter lt a e (a + 1) d:=⟨_,rfl⟩
 rw[← hR] at hQ
 refine aG (fun m ys M3=>∃ (i:Nat) (d3:Array Go.Ab.ay.ay),m=d.size - i∧ys=[N .i64 (i:Int)]∧i≤d.size + 1∧At aV T b d3 M3∧ag [b] M M3∧d3.size=d.size∧R=Sort.insOuter lt a e i d3) _ ⟨a + 1,d,rfl,rfl,by omega,hat,ag.refl _ _,rfl,hR⟩ ?_
 rintro next m ys M3 hnext ⟨i,d3,rfl,rfl,hi,h3,k3,hs3,hm⟩
 dsimp only[aa]
 rw[dC]
 refine aD (fun hlt=>?_) (fun hge=>?_)
 ·have hlt:i<e:=of_decide_eq_true hlt
  rw[Sort.insOuter,if_pos hlt] at hm
  obtain⟨R5,hR5⟩ : ∃ R5,R5=Sort.insInner lt a i d3:=⟨_,rfl⟩
  rw[← hR5] at hm
  refine aG (fun m ys M5=>∃ (j:Nat) (d5:Array Go.Ab.ay.ay),m=j + 1∧ys=[N .i64 (j:Int)]∧j≤i∧At aV T b d5 M5∧ag [b] M M5∧d5.size=d.size∧R5=Sort.insInner lt a j d5) _ ⟨i,d3,rfl,rfl,Nat.le_refl _,h3,k3,hs3,hR5⟩ ?_
  rintro fq m ys M5 dx ⟨j,d5,rfl,rfl,hj,h5,k5,hs5,hm5⟩
  dsimp only[aa]
  rw[lX]
  have out:∀ M6,At aV T b d5 M6→ag [b] M M6→Sort.insInner lt a j d5=d5→af .add (N .i64 (i:Int)) (N .i64 1) (fun t14=>next [t14] M6):=fun M6 h6 k6 h=>by
   rw[add1 (by omega)]
   refine hnext _ _ _ (by omega) ⟨i + 1,d5,rfl,rfl,by omega,h6,k6,hs5, ?_⟩
   rw[hm,hm5,h]
  by_cases hg:j > a
  ·obtain⟨k,rfl⟩ : ∃ k,j=k + 1:=⟨j - 1,by omega⟩
   rw[decide_eq_true hg,iK]
   dsimp only
   rw[h5.rd (z:=2) rfl hs5.symm (by omega),aZ (by omega) (by omega),Nat.add_sub_cancel,h5.rd (z:=2) rfl hs5.symm (by omega)]
   refine hl.use fun M6 k6=>?_
   have h6:=h5.keep k6
   have k6':=k5.trans (k6.mono (cs:=[b]) (by simp))
   rw[dN]
   rw[Sort.insInner] at hm5 out
   refine aD (fun h=>?_) (fun h=>?_)
   ·rw[if_pos (by simp[hg,h])] at hm5
    rw[aZ (by omega) (by omega),aZ (by omega) (by omega),Nat.add_sub_cancel,h6.rd (z:=2) rfl hs5.symm (by omega),h6.rd (z:=2) rfl hs5.symm (by omega)]
    refine h6.swap (z:=2) rfl hs5.symm (by omega) (by omega) fun M7 h7 k7=>?_
    rw[aZ (by omega) (by omega),Nat.add_sub_cancel]
    exact dx _ _ _ (by omega) ⟨k,_,rfl,rfl,by omega,h7,k6'.trans k7,by rw[bF]; exact hs5,hm5⟩
   ·exact out M6 h6 k6' (by rw[if_neg (by simp[h])])
  ·rw[decide_eq_false hg,jd]
   dsimp only
   rw[cz,bz]
   refine out M5 h5 k5 ?_
   cases j with
   | zero=>rfl
   | succ k=>rw[Sort.insInner,if_neg (by simp[hg])]
 ·have hge:¬ i<e:=of_decide_eq_false hge
  rw[Sort.insOuter,if_neg hge] at hm
  subst hm
  exact hQ M3 h3 k3
theorem abl {T:Nat} {fv:AV} : SortG aV T 2 fv Sort.reverseRange (fun _ a e=>a<e) fun args M Q=>∃ a0 a1 a2 a3,args=[a0,a1,a2,a3]∧kP a0 a1 a2 a3 M Q:=by
 intro M b a e d Q hat hsz hae he hP hQ
 refine⟨_,_,_,_,rfl, ?_⟩
 unfold kP
 rw[aZ (by omega) (by omega)]
 rw[Sort.reverseRange] at hQ
 obtain⟨R,hR⟩ : ∃ R,R=Sort.reverseLoop a (e - 1) d:=⟨_,rfl⟩
 rw[← hR] at hQ
 refine aG (fun m ys M3=>∃ (i j:Nat) (d3:Array Go.Ab.ay.ay),m=j - i∧ys=[N .i64 (i:Int),N .i64 (j:Int)]∧j<d.size∧i≤d.size∧At aV T b d3 M3∧ag [b] M M3∧d3.size=d.size∧R=Sort.reverseLoop i j d3) _ ⟨a,e - 1,d,rfl,rfl,by omega,by omega,hat,ag.refl _ _,rfl,hR⟩ ?_
 rintro next m ys M3 hnext ⟨i,j,d3,rfl,rfl,hj,hi,h3,k3,hs3,hm⟩
 dsimp only[aa]
 rw[dC]
 rw[Sort.reverseLoop] at hm
 refine aD (fun hlt=>?_) (fun hge=>?_)
 ·have hlt:i<j:=of_decide_eq_true hlt
  rw[if_pos hlt] at hm
  rw[h3.rd (z:=2) rfl hs3.symm (by omega),h3.rd (z:=2) rfl hs3.symm (by omega)]
  refine h3.swap (z:=2) rfl hs3.symm (by omega) (by omega) fun M4 h4 k4=>?_
  rw[add1 (by omega),aZ (by omega) (by omega)]
  exact hnext _ _ _ (by omega) ⟨i + 1,j - 1,_,rfl,rfl,by omega,by omega,h4,k3.trans k4,by rw[bF]; exact hs3,hm⟩
 ·have hge:¬ i<j:=of_decide_eq_false hge
  rw[if_neg hge] at hm
  subst hm
  exact hQ M3 h3 k3
def Xp (T:Nat) (fv:AV) (lt:Go.Ab.ay.ay→Go.Ab.ay.ay→Bool) (c:ai) : Prop:=∀ {M:RM} {b lo hi first:Nat} {d:Array Go.Ab.ay.ay} {Q:ak},At aV T b d M→d.size≤60000→first + hi≤d.size→lo≤1000000→(∀ M',At aV T b (Sort.siftDown lt hi first lo d) M'→ag [b] M M'→Q (.tup []) M') →
 c [sv b d.size 2,N .i64 (lo:Int),N .i64 (hi:Int),N .i64 (first:Int),fv] M Q
theorem Xo {T:Nat} {fv:AV} {lt:Go.Ab.ay.ay→Go.Ab.ay.ay→Bool} {cv:FuncId→ai} (hl:iR aV lt (bD cv fv)) : Xp T fv lt fun args M Q=>∃ a0 a1 a2 a3 a4,args=[a0,a1,a2,a3,a4]∧nG cv a0 a1 a2 a3 a4 M Q:=by
 intro M b lo hi first d Q hat hsz hfe hlo hQ
 refine⟨_,_,_,_,_,rfl, ?_⟩
 unfold nG
 simp only[dP,dz,dK,bH]
 obtain⟨R,hR⟩ : ∃ R,R=Sort.siftDown lt hi first lo d:=⟨_,rfl⟩
 rw[← hR] at hQ
 refine aG (fun m ys M3=>∃ (r:Nat) (d3:Array Go.Ab.ay.ay),m=1000000 + hi - r∧ys=[N .i64 (r:Int)]∧(r≤1000000)∧At aV T b d3 M3∧ag [b] M M3∧d3.size=d.size∧R=Sort.siftDown lt hi first r d3) _ ⟨lo,d,rfl,rfl,hlo,hat,ag.refl _ _,rfl,hR⟩ ?_
 rintro next m ys M3 hnext ⟨r,d3,rfl,rfl,hr,h3,k3,hs3,hm⟩
 dsimp only[aa]
 rw[XP (by omega),add1 (by omega),eY]
 rw[Sort.siftDown] at hm
 refine aD (fun hg=>?_) (fun hg=>?_)
 ·rw[dif_pos (of_decide_eq_true hg)] at hm
  subst hm
  exact hQ M3 h3 k3
 have hg:¬ 2 * r + 1 ≥ hi:=of_decide_eq_false hg
 rw[dif_neg hg] at hm
 refine aT (fun zs M'=>∃ c:Nat,zs=[N .i64 (c:Int)]∧At aV T b d3 M'∧ag [b] M M'∧r<c∧c<hi∧R=if !lt d3[first + r]! d3[first + c]! then d3 else Sort.siftDown lt hi first c (Sort.swp d3 (first + r) (first + c))) ?_ ?_
 ·rintro zs M' ⟨c,rfl,h4,k4,hrc,ZO,hm2⟩
  dsimp only[aa]
  rw[addN (by omega),h4.rd (z:=2) rfl hs3.symm (by omega),addN (by omega),h4.rd (z:=2) rfl hs3.symm (by omega)]
  refine hl.use fun M5 k5=>?_
  have h5:=h4.keep k5
  have k5':=k4.trans (k5.mono (cs:=[b]) (by simp))
  rw[bu]
  refine aD (fun h=>?_) (fun h=>?_)
  ·rw[if_pos h] at hm2
   subst hm2
   exact hQ M5 h5 k5'
  ·rw[if_neg (by rw[h]; decide)] at hm2
   rw[addN (by omega),addN (by omega),addN (by omega),h5.rd (z:=2) rfl hs3.symm (by omega),addN (by omega),h5.rd (z:=2) rfl hs3.symm (by omega)]
   refine h5.swap (z:=2) rfl hs3.symm (by omega) (by omega) fun M6 h6 k6=>?_
   exact hnext _ _ _ (by omega) ⟨c,_,rfl,rfl,by omega,h6,k5'.trans k6,by rw[bF]; exact hs3,hm2⟩
 intro J hJ
 rw[add1 (by omega),dC]
 refine je (P:=fun M'=>At aV T b d3 M'∧ag [b] M M') (p:=lt d3[first + (2 * r + 1)]! d3[first + (2 * r + 1) + 1]!) ⟨h3,k3⟩ (fun hc k hk=>?_) fun M4 ⟨h4,k4⟩=>?_
 ·have hc:2 * r + 1 + 1<hi:=of_decide_eq_true hc
  rw[addN (by omega),h3.rd (z:=2) rfl hs3.symm (by omega),addN (by omega),add1 (by omega),h3.rd (z:=2) rfl hs3.symm (by omega)]
  exact hl.use fun M5 k5=>hk M5 ⟨h3.keep k5,k3.trans (k5.mono (cs:=[b]) (by simp))⟩
 refine aD (fun h=>?_) (fun h=>?_)
 ·have hc:2 * r + 1 + 1<hi:=by
   rw[Bool.and_eq_true] at h
   exact of_decide_eq_true h.1
  rw[add1 (by omega)]
  refine hJ _ _ ⟨2 * r + 2,rfl,h4,k4,by omega,by omega, ?_⟩
  rw[if_pos h,dif_pos (by omega)] at hm
  exact hm
 ·refine hJ _ _ ⟨2 * r + 1,rfl,h4,k4,by omega,by omega, ?_⟩
  rw[if_neg (by rw[h]; decide)] at hm
  exact hm
theorem VY {T:Nat} {fv:AV} {lt:Go.Ab.ay.ay→Go.Ab.ay.ay→Bool} {cs:ai} (hs:Xp T fv lt cs) : SortG aV T 2 fv (Sort.heapSort lt) (fun _ a e=>a<e) fun args M Q=>∃ a0 a1 a2 a3,args=[a0,a1,a2,a3]∧nD cs a0 a1 a2 a3 M Q:=by
 intro M b a e d Q hat hsz hae he hP hQ
 refine⟨_,_,_,_,rfl, ?_⟩
 unfold nD
 rw[Sort.heapSort] at hQ
 rw[df hae (by omega),aZ (by omega) (by omega),gK]
 refine⟨by decide, ?_⟩
 rw[show(2:Int)=((2:Nat) : Int) from rfl,jE,aS (by omega) (by omega)]
 obtain⟨R,hR⟩ : ∃ R,R=Sort.heapBuild lt (e - a) a ((e - a - 1) / 2 + 1) d:=⟨_,rfl⟩
 rw[← hR] at hQ
 refine aG (fun m ys M3=>∃ (k:Nat) (d3:Array Go.Ab.ay.ay),m=k + 1∧ys=[N .i64 ((k:Int) - 1)]∧k≤(e - a - 1) / 2 + 1∧At aV T b d3 M3∧ag [b] M M3∧d3.size=d.size∧R=Sort.heapBuild lt (e - a) a k d3) _ ⟨(e - a - 1) / 2 + 1,d,rfl,by congr 3; omega,Nat.le_refl _,hat,ag.refl _ _,rfl,hR⟩ ?_
 rintro next m ys M3 hnext ⟨k,d3,rfl,rfl,hk,h3,k3,hs3,hm⟩
 dsimp only[aa]
 rw[fU]
 refine aD (fun hg=>?_) (fun hg=>?_)
 ·have hg:1≤k:=by
   have:(k:Int) - 1 ≥ 0:=of_decide_eq_true hg
   omega
  obtain⟨k',rfl⟩ : ∃ k',k=k' + 1:=⟨k - 1,by omega⟩
  rw[Sort.heapBuild] at hm
  rw[show((k' + 1:Nat) : Int) - 1=(k' : Int) by omega,← hs3]
  refine hs h3 (by omega) (by omega) (by omega) fun M4 h4 k4=>?_
  rw[eT,aS (by omega) (by omega)]
  exact hnext _ _ _ (by omega) ⟨k',_,rfl,rfl,by omega,h4,k3.trans k4,by rw[rQ lt _ _ (e - a) _ _ (by omega)]; exact hs3,hm⟩
 ·have hk0:k=0:=by
   have:¬ (k:Int) - 1 ≥ 0:=of_decide_eq_false hg
   omega
  subst hk0
  rw[Sort.heapBuild] at hm
  rw[hm] at hQ
  rw[aZ (by omega) (by omega)]
  obtain⟨R4,hR4⟩ : ∃ R4,R4=Sort.heapPop lt a (e - a) d3:=⟨_,rfl⟩
  rw[← hR4] at hQ
  refine aG (fun m ys M4=>∃ (k:Nat) (d4:Array Go.Ab.ay.ay),m=k + 1∧ys=[N .i64 ((k:Int) - 1)]∧k≤e - a∧At aV T b d4 M4∧ag [b] M M4∧d4.size=d.size∧R4=Sort.heapPop lt a k d4) _ ⟨e - a,d3,rfl,by congr 3; omega,Nat.le_refl _,h3,k3,hs3,hR4⟩ ?_
  rintro fq m ys M4 dx ⟨k,d4,rfl,rfl,hk,h4,k4,hs4,hm4⟩
  dsimp only[aa]
  rw[fU]
  refine aD (fun hg=>?_) (fun hg=>?_)
  ·have hg:1≤k:=by
    have:(k:Int) - 1 ≥ 0:=of_decide_eq_true hg
    omega
   obtain⟨k',rfl⟩ : ∃ k',k=k' + 1:=⟨k - 1,by omega⟩
   rw[Sort.heapPop] at hm4
   rw[show((k' + 1:Nat) : Int) - 1=(k' : Int) by omega,addN (by omega),addN (by omega),h4.rd (z:=2) rfl hs4.symm (by omega),h4.rd (z:=2) rfl hs4.symm (by omega)]
   refine h4.swap (z:=2) rfl hs4.symm (by omega) (by omega) fun M5 h5 k5=>?_
   rw[show d.size=(Sort.swp d4 a (a + k')).size by rw[bF]; exact hs4.symm]
   refine hs (lo:=0) h5 (by rw[bF]; omega) (by rw[bF]; omega) (by decide) fun M6 h6 k6=>?_
   rw[eT,aS (by omega) (by omega)]
   exact dx _ _ _ (by omega) ⟨k',_,rfl,rfl,by omega,h6,(k4.trans k5).trans k6,by rw[rQ lt _ _ k' _ _ (by omega),bF]; exact hs4,hm4⟩
  ·have hk0:k=0:=by
    have:¬ (k:Int) - 1 ≥ 0:=of_decide_eq_false hg
    omega
   subst hk0
   rw[Sort.heapPop] at hm4
   subst hm4
   exact hQ M4 h4 k4
def Oe (T:Nat) (fv:AV) (lt:Go.Ab.ay.ay→Go.Ab.ay.ay→Bool) (c:ai) : Prop:=∀ {M:RM} {b a e pv:Nat} {d:Array Go.Ab.ay.ay} {Q:ak},At aV T b d M→d.size≤60000→a≤pv→pv<e→e≤d.size→(∀ M',At aV T b (Sort.partitionEqual lt d a e pv).2 M'→ag [b] M M'→Q (N .i64 (((Sort.partitionEqual lt d a e pv).1:Nat) : Int)) M') →
 c [sv b d.size 2,N .i64 (a:Int),N .i64 (e:Int),N .i64 (pv:Int),fv] M Q
theorem Oz {T:Nat} {fv:AV} {lt:Go.Ab.ay.ay→Go.Ab.ay.ay→Bool} {cv:FuncId→ai} (hl:iR aV lt (bD cv fv)) : Oe T fv lt fun args M Q=>∃ a0 a1 a2 a3 a4,args=[a0,a1,a2,a3,a4]∧jW cv a0 a1 a2 a3 a4 M Q:=by
 intro M b a e pv d Q hat hsz hap hpe he hQ
 refine⟨_,_,_,_,_,rfl, ?_⟩
 unfold jW
 simp only[dP,dz,dK]
 rw[Sort.partitionEqual] at hQ
 rw[hat.rd (z:=2) rfl rfl (by omega),hat.rd (z:=2) rfl rfl (by omega)]
 refine hat.swap (z:=2) rfl rfl (by omega) (by omega) fun M2 h2 k2=>?_
 rw[add1 (by omega),aZ (by omega) (by omega)]
 obtain⟨R,hR⟩ : ∃ R,R=Sort.partEqLoop lt a (a + 1) (e - 1) (Sort.swp d a pv):=⟨_,rfl⟩
 rw[← hR] at hQ
 refine aG (fun m ys M3=>∃ (i j:Nat) (d3:Array Go.Ab.ay.ay),m=j + 1 - i∧ys=[N .i64 (i:Int),N .i64 (j:Int)]∧a + 1≤i∧i≤e + 1∧j<e∧At aV T b d3 M3∧ag [b] M M3∧d3.size=d.size∧R=Sort.partEqLoop lt a i j d3) _ ⟨a + 1,e - 1,_,rfl,rfl,Nat.le_refl _,by omega,by omega,h2,k2,bF _ _ _,hR⟩ ?_
 rintro next m ys M3 hnext ⟨i,j,d3,rfl,rfl,hai,hie,hje,h3,k3,hs3,hm⟩
 dsimp only[aa]
 rw[Sort.partEqLoop] at hm
 refine qV (P:=fun M'=>At aV T b d3 M'∧ag [b] M M') (p:=fun x=>!lt d3[a]! x) (d:=d3) (J:=j) ⟨h3,k3⟩ fun fq i2 M4 ⟨h4,k4⟩ h0 h1 hgo hstop=>?_
 dsimp only[aa]
 rw[gU]
 refine je (P:=fun M'=>At aV T b d3 M'∧ag [b] M M') (p:=!lt d3[a]! d3[i2]!) ⟨h4,k4⟩ (fun hc k hk=>?_) fun M5 h5=>?_
 ·have hc:i2≤j:=of_decide_eq_true hc
  rw[h4.rd (z:=2) rfl hs3.symm (by omega),h4.rd (z:=2) rfl hs3.symm (by omega)]
  refine hl.use fun M5 k5=>?_
  rw[bu]
  exact hk M5 ⟨h4.keep k5,k4.trans (k5.mono (cs:=[b]) (by simp))⟩
 refine aD (fun h=>?_) (fun h=>?_)
 ·rw[add1 (by omega)]
  exact hgo h M5 h5
 have hi2:=hstop h
 rw[← hi2] at hm
 refine mG (P:=fun M'=>At aV T b d3 M'∧ag [b] M M') (p:=fun x=>lt d3[a]! x) (d:=d3) (i:=i2) h5 (by omega) fun kW j2 M6 ⟨h6,k6⟩ q0 q1 lH gp=>?_
 dsimp only[aa]
 rw[gU]
 refine je (P:=fun M'=>At aV T b d3 M'∧ag [b] M M') (p:=lt d3[a]! d3[j2]!) ⟨h6,k6⟩ (fun hc k hk=>?_) fun M7 ⟨h7,k7⟩=>?_
 ·have hc:i2≤j2:=of_decide_eq_true hc
  rw[h6.rd (z:=2) rfl hs3.symm (by omega),h6.rd (z:=2) rfl hs3.symm (by omega)]
  exact hl.use fun M5 k5=>hk M5 ⟨h6.keep k5,k6.trans (k5.mono (cs:=[b]) (by simp))⟩
 refine aD (fun h=>?_) (fun h=>?_)
 ·have hc:i2≤j2:=by
   rw[Bool.and_eq_true] at h
   exact of_decide_eq_true h.1
  rw[aZ (by omega) (by omega)]
  exact lH h M7 ⟨h7,k7⟩
 have hj2:=gp h
 simp only[← hj2] at hm
 rw[lX]
 refine aD (fun hg=>?_) (fun hg=>?_)
 ·rw[if_pos (of_decide_eq_true hg)] at hm
  rw[hm] at hQ
  exact hQ M7 h7 k7
 ·have hg:¬ i2 > j2:=of_decide_eq_false hg
  rw[if_neg hg,dif_pos (by omega)] at hm
  rw[h7.rd (z:=2) rfl hs3.symm (by omega),h7.rd (z:=2) rfl hs3.symm (by omega)]
  refine h7.swap (z:=2) rfl hs3.symm (by omega) (by omega) fun M8 h8 k8=>?_
  rw[add1 (by omega),aZ (by omega) (by omega)]
  exact hnext _ _ _ (by omega) ⟨i2 + 1,j2 - 1,_,rfl,rfl,by omega,by omega,by omega,h8,k7.trans k8,by rw[bF,hs3],hm⟩
def Vu (T:Nat) (fv:AV) (lt:Go.Ab.ay.ay→Go.Ab.ay.ay→Bool) (c:ai) : Prop:=∀ {M:RM} {b a e pv:Nat} {d:Array Go.Ab.ay.ay} {Q:ak},At aV T b d M→d.size≤60000→a≤pv→pv<e→e≤d.size→(∀ M',At aV T b (Sort.partition lt d a e pv).2.2 M'→ag [b] M M'→Q (.tup [N .i64 (((Sort.partition lt d a e pv).1:Nat) : Int),Bo (Sort.partition lt d a e pv).2.1]) M') →
 c [sv b d.size 2,N .i64 (a:Int),N .i64 (e:Int),N .i64 (pv:Int),fv] M Q
theorem WG {T:Nat} {fv:AV} {lt:Go.Ab.ay.ay→Go.Ab.ay.ay→Bool} {cv:FuncId→ai} (hl:iR aV lt (bD cv fv)) : Vu T fv lt fun args M Q=>∃ a0 a1 a2 a3 a4,args=[a0,a1,a2,a3,a4]∧mO cv a0 a1 a2 a3 a4 M Q:=by
 intro M b a e pv d Q hat hsz hap hpe he hQ
 refine⟨_,_,_,_,_,rfl, ?_⟩
 unfold mO
 simp only[dP,dz,dK]
 have hs2:=bF d a pv
 rw[qI] at hQ
 rw[hat.rd (z:=2) rfl rfl (by omega),hat.rd (z:=2) rfl rfl (by omega)]
 refine hat.swap (z:=2) rfl rfl (by omega) (by omega) fun M2 h2 k2=>?_
 rw[add1 (by omega),aZ (by omega) (by omega)]
 generalize Sort.swp d a pv=d2 at *
 refine qV (P:=fun M'=>At aV T b d2 M'∧ag [b] M M') (p:=fun x=>lt x d2[a]!) (d:=d2) (J:=e - 1) ⟨h2,k2⟩ fun fq i M3 ⟨h3,k3⟩ h0 h1 hgo hstop=>?_
 dsimp only[aa]
 rw[gU]
 refine je (P:=fun M'=>At aV T b d2 M'∧ag [b] M M') (p:=lt d2[i]! d2[a]!) ⟨h3,k3⟩ (fun hc k hk=>?_) fun M4 h4=>?_
 ·have hc:i≤e - 1:=of_decide_eq_true hc
  rw[h3.rd (z:=2) rfl hs2.symm (by omega),h3.rd (z:=2) rfl hs2.symm (by omega)]
  exact hl.use fun M5 k5=>hk M5 ⟨h3.keep k5,k3.trans (k5.mono (cs:=[b]) (by simp))⟩
 refine aD (fun h=>?_) (fun h=>?_)
 ·rw[add1 (by omega)]
  exact hgo h M4 h4
 have hi2:i=pI lt d2 a e:=hstop h
 have uT:pJ lt d2 a e=Sort.scanDown (fun x=>!lt x d2[a]!) d2 (pI lt d2 a e) (e - 1):=rfl
 have uw:pL lt d2 a e=Sort.partLoop lt a (pI lt d2 a e + 1) (pJ lt d2 a e - 1) (Sort.swp d2 (pI lt d2 a e) (pJ lt d2 a e)):=rfl
 rw[← hi2] at uT uw hQ
 refine mG (P:=fun M'=>At aV T b d2 M'∧ag [b] M M') (p:=fun x=>!lt x d2[a]!) (d:=d2) (i:=i) h4 (by omega) fun kW j M5 ⟨h5,k5⟩ q0 q1 lH gp=>?_
 dsimp only[aa]
 rw[gU]
 refine je (P:=fun M'=>At aV T b d2 M'∧ag [b] M M') (p:=!lt d2[j]! d2[a]!) ⟨h5,k5⟩ (fun hc k hk=>?_) fun M6 ⟨h6,k6⟩=>?_
 ·have hc:i≤j:=of_decide_eq_true hc
  rw[h5.rd (z:=2) rfl hs2.symm (by omega),h5.rd (z:=2) rfl hs2.symm (by omega)]
  refine hl.use fun M7 k7=>?_
  rw[bu]
  exact hk M7 ⟨h5.keep k7,k5.trans (k7.mono (cs:=[b]) (by simp))⟩
 refine aD (fun h=>?_) (fun h=>?_)
 ·have hc:i≤j:=by
   rw[Bool.and_eq_true] at h
   exact of_decide_eq_true h.1
  rw[aZ (by omega) (by omega)]
  exact lH h M6 ⟨h6,k6⟩
 have hj2:=gp h
 rw[← hj2] at uT
 rw[uT] at uw hQ
 rw[lX]
 refine aD (fun hg=>?_) (fun hg=>?_)
 ·rw[if_pos (of_decide_eq_true hg)] at hQ
  rw[h6.rd (z:=2) rfl hs2.symm (by omega),h6.rd (z:=2) rfl hs2.symm (by omega)]
  exact h6.swap (z:=2) rfl hs2.symm (by omega) (by omega) fun M7 h7 k7=>hQ M7 h7 (k6.trans k7)
 have hg:¬ i > j:=of_decide_eq_false hg
 rw[if_neg hg] at hQ
 rw[h6.rd (z:=2) rfl hs2.symm (by omega),h6.rd (z:=2) rfl hs2.symm (by omega)]
 refine h6.swap (z:=2) rfl hs2.symm (by omega) (by omega) fun M7 h7 k7=>?_
 rw[add1 (by omega),aZ (by omega) (by omega)]
 generalize pL lt d2 a e=R at *
 refine aG (fun m ys M3=>∃ (i j:Nat) (d3:Array Go.Ab.ay.ay),m=j + 1 - i∧ys=[N .i64 (i:Int),N .i64 (j:Int)]∧a + 1≤i∧i≤e + 1∧j<e∧At aV T b d3 M3∧ag [b] M M3∧d3.size=d.size∧R=Sort.partLoop lt a i j d3) _ ⟨i + 1,j - 1,_,rfl,rfl,by omega,by omega,by omega,h7,k6.trans k7,by rw[bF,hs2],uw⟩ ?_
 rintro next m ys M3 hnext ⟨i,j,d3,rfl,rfl,hai,hie,hje,h3,k3,hs3,hm⟩
 dsimp only[aa]
 rw[Sort.partLoop] at hm
 refine qV (P:=fun M'=>At aV T b d3 M'∧ag [b] M M') (p:=fun x=>lt x d3[a]!) (d:=d3) (J:=j) ⟨h3,k3⟩ fun fq i2 M4 ⟨h4,k4⟩ h0 h1 hgo hstop=>?_
 dsimp only[aa]
 rw[gU]
 refine je (P:=fun M'=>At aV T b d3 M'∧ag [b] M M') (p:=lt d3[i2]! d3[a]!) ⟨h4,k4⟩ (fun hc k hk=>?_) fun M5 h5=>?_
 ·have hc:i2≤j:=of_decide_eq_true hc
  rw[h4.rd (z:=2) rfl hs3.symm (by omega),h4.rd (z:=2) rfl hs3.symm (by omega)]
  exact hl.use fun M5 k5=>hk M5 ⟨h4.keep k5,k4.trans (k5.mono (cs:=[b]) (by simp))⟩
 refine aD (fun h=>?_) (fun h=>?_)
 ·rw[add1 (by omega)]
  exact hgo h M5 h5
 have hi2:=hstop h
 rw[← hi2] at hm
 refine mG (P:=fun M'=>At aV T b d3 M'∧ag [b] M M') (p:=fun x=>!lt x d3[a]!) (d:=d3) (i:=i2) h5 (by omega) fun kW j2 M6 ⟨h6,k6⟩ q0 q1 lH gp=>?_
 dsimp only[aa]
 rw[gU]
 refine je (P:=fun M'=>At aV T b d3 M'∧ag [b] M M') (p:=!lt d3[j2]! d3[a]!) ⟨h6,k6⟩ (fun hc k hk=>?_) fun M7 ⟨h7,k7⟩=>?_
 ·have hc:i2≤j2:=of_decide_eq_true hc
  rw[h6.rd (z:=2) rfl hs3.symm (by omega),h6.rd (z:=2) rfl hs3.symm (by omega)]
  refine hl.use fun M8 k8=>?_
  rw[bu]
  exact hk M8 ⟨h6.keep k8,k6.trans (k8.mono (cs:=[b]) (by simp))⟩
 refine aD (fun h=>?_) (fun h=>?_)
 ·have hc:i2≤j2:=by
   rw[Bool.and_eq_true] at h
   exact of_decide_eq_true h.1
  rw[aZ (by omega) (by omega)]
  exact lH h M7 ⟨h7,k7⟩
 have hj2:=gp h
 simp only[← hj2] at hm
 rw[lX]
 refine aD (fun hg=>?_) (fun hg=>?_)
 ·rw[if_pos (of_decide_eq_true hg)] at hm
  rw[hm] at hQ
  rw[h7.rd (z:=2) rfl hs3.symm (by omega),h7.rd (z:=2) rfl hs3.symm (by omega)]
  exact h7.swap (z:=2) rfl hs3.symm (by omega) (by omega) fun M8 h8 k8=>hQ M8 h8 (k7.trans k8)
 ·have hg:¬ i2 > j2:=of_decide_eq_false hg
  rw[if_neg hg,dif_pos (by omega)] at hm
  rw[h7.rd (z:=2) rfl hs3.symm (by omega),h7.rd (z:=2) rfl hs3.symm (by omega)]
  refine h7.swap (z:=2) rfl hs3.symm (by omega) (by omega) fun M8 h8 k8=>?_
  rw[add1 (by omega),aZ (by omega) (by omega)]
  exact hnext _ _ _ (by omega) ⟨i2 + 1,j2 - 1,_,rfl,rfl,by omega,by omega,by omega,h8,k7.trans k8,by rw[bF,hs3],hm⟩
def KY (T TI b s:Nat) (d:Array Go.Ab.ay.ay) (k:Nat) (M:RM) : Prop:=At aV T b d M∧M.heap s=some (.row [N .i64 (k:Int)] false TI 0)∧s<M.next
def NS (T TI:Nat) (fv:AV) (lt:Go.Ab.ay.ay→Go.Ab.ay.ay→Bool) (c:ai) : Prop:=∀ {M:RM} {b s k i j:Nat} {d:Array Go.Ab.ay.ay} {Q:ak},KY T TI b s d k M→s≠b→i<d.size→j<d.size→k≤1000 →
 (∀ M',KY T TI b s d (Sort.order2 lt d i j k).2.2 M'→ag [s] M M'→Q (.tup [N .i64 (((Sort.order2 lt d i j k).1:Nat) : Int),N .i64 (((Sort.order2 lt d i j k).2.1:Nat) : Int)]) M')→c [sv b d.size 2,N .i64 (i:Int),N .i64 (j:Int),.ptr s 0,fv] M Q
theorem Nc {T TI:Nat} {fv:AV} {lt:Go.Ab.ay.ay→Go.Ab.ay.ay→Bool} {cv:FuncId→ai} (hl:iR aV lt (bD cv fv)) : NS T TI fv lt fun args M Q=>∃ a0 a1 a2 a3 a4,args=[a0,a1,a2,a3,a4]∧oV cv a0 a1 a2 a3 a4 M Q:=by
 intro M b s k i j d Q ⟨hat,hh,hlt⟩ hsb hi hj hk hQ
 refine⟨_,_,_,_,_,rfl, ?_⟩
 unfold oV
 rw[hat.rd (z:=2) rfl rfl (by omega),hat.rd (z:=2) rfl rfl (by omega)]
 refine hl.use fun M1 k1=>?_
 have h1:=hat.keep k1
 have hh1:=k1.aK hh hlt (by simp)
 have n1:=k1.next
 unfold Sort.order2 at hQ
 refine aD (fun h=>?_) (fun h=>?_)
 ·rw[if_pos h] at hQ
  rw[aU,aA hh1 rfl,add1 (by omega),aU,dV hh1 (by simp) rfl rfl]
  have kk:ag [s] M1 (M1.put s (.row ([N .i64 (k:Int)].set 0 (N .i64 ((k + 1:Nat) : Int))) false TI 0)):=(ag.refl _ _).put _ (.inr (by simp))
  refine hQ _ ⟨h1.keep' kk (by simp; omega),aN _,by rw[gJ]; omega⟩ ((k1.mono (by simp)).trans kk)
 ·rw[if_neg (by rw[h]; decide)] at hQ
  exact hQ M1 ⟨h1,hh1,by omega⟩ (k1.mono (by simp))
def GK (T TI:Nat) (fv:AV) (lt:Go.Ab.ay.ay→Go.Ab.ay.ay→Bool) (c:ai) : Prop:=∀ {M:RM} {b s k i j h:Nat} {d:Array Go.Ab.ay.ay} {Q:ak},KY T TI b s d k M→s≠b→i<d.size→j<d.size→h<d.size→k≤900 →
 (∀ M',KY T TI b s d (Sort.median lt d i j h k).2 M'→ag [s] M M'→Q (N .i64 (((Sort.median lt d i j h k).1:Nat) : Int)) M')→c [sv b d.size 2,N .i64 (i:Int),N .i64 (j:Int),N .i64 (h:Int),.ptr s 0,fv] M Q
theorem GM {T TI:Nat} {fv:AV} {lt:Go.Ab.ay.ay→Go.Ab.ay.ay→Bool} {c2:ai} (h2:NS T TI fv lt c2) : GK T TI fv lt fun args M Q=>∃ a0 a1 a2 a3 a4 a5,args=[a0,a1,a2,a3,a4,a5]∧oW c2 a0 a1 a2 a3 a4 a5 M Q:=by
 intro M b s k i j h d Q hsw hsb hi hj hh hk hQ
 refine⟨_,_,_,_,_,_,rfl, ?_⟩
 unfold oW
 unfold Sort.median at hQ
 have o1:=om lt d i j k
 refine h2 hsw hsb hi hj (by omega) fun M1 s1 k1=>?_
 rw[fo,fu]
 dsimp only at hQ
 generalize Sort.order2 lt d i j k=r1 at *
 have o2:=om lt d r1.2.1 h r1.2.2
 refine h2 s1 hsb (by omega) hh (by omega) fun M2 s2 k2=>?_
 rw[fo,fu]
 generalize Sort.order2 lt d r1.2.1 h r1.2.2=r2 at *
 refine h2 s2 hsb (by omega) (by omega) (by omega) fun M3 s3 k3=>?_
 rw[fo,fu]
 exact hQ M3 s3 ((k1.trans k2).trans k3)
def MZ (T TI:Nat) (fv:AV) (lt:Go.Ab.ay.ay→Go.Ab.ay.ay→Bool) (c:ai) : Prop:=∀ {M:RM} {b s k i:Nat} {d:Array Go.Ab.ay.ay} {Q:ak},KY T TI b s d k M→s≠b→d.size≤60000→1≤i→i + 1<d.size→k≤900 →
 (∀ M',KY T TI b s d (Sort.medianAdjacent lt d i k).2 M'→ag [s] M M'→Q (N .i64 (((Sort.medianAdjacent lt d i k).1:Nat) : Int)) M')→c [sv b d.size 2,N .i64 (i:Int),.ptr s 0,fv] M Q
theorem Mt {T TI:Nat} {fv:AV} {lt:Go.Ab.ay.ay→Go.Ab.ay.ay→Bool} {cm:ai} (hm:GK T TI fv lt cm) : MZ T TI fv lt fun args M Q=>∃ a0 a1 a2 a3,args=[a0,a1,a2,a3]∧jU cm a0 a1 a2 a3 M Q:=by
 intro M b s k i d Q hsw hsb hsz h1 h2 hk hQ
 refine⟨_,_,_,_,rfl, ?_⟩
 unfold jU
 rw[aZ (by omega) (by omega),add1 (by omega)]
 exact hm hsw hsb (by omega) (by omega) (by omega) hk fun M1 s1 k1=>hQ M1 s1 k1
def Dp (lt:Go.Ab.ay.ay→Go.Ab.ay.ay→Bool) (d:Array Go.Ab.ay.ay) (a e:Nat) : Nat × Nat :=
 if e - a ≥ 8 then(if e - a ≥ 50 then Sort.median lt d (Sort.medianAdjacent lt d (a + (e - a) / 4 * 1) 0).1 (Sort.medianAdjacent lt d (a + (e - a) / 4 * 2) (Sort.medianAdjacent lt d (a + (e - a) / 4 * 1) 0).2).1 (Sort.medianAdjacent lt d (a + (e - a) / 4 * 3) (Sort.medianAdjacent lt d (a + (e - a) / 4 * 2) (Sort.medianAdjacent lt d (a + (e - a) / 4 * 1) 0).2).2).1 (Sort.medianAdjacent lt d (a + (e - a) / 4 * 3) (Sort.medianAdjacent lt d (a + (e - a) / 4 * 2) (Sort.medianAdjacent lt d (a + (e - a) / 4 * 1) 0).2).2).2
  else Sort.median lt d (a + (e - a) / 4 * 1) (a + (e - a) / 4 * 2) (a + (e - a) / 4 * 3) 0) else(a + (e - a) / 4 * 2,0)
theorem aa2 (lt:Go.Ab.ay.ay→Go.Ab.ay.ay→Bool) (d:Array Go.Ab.ay.ay) (a e:Nat) : Sort.choosePivot lt d a e=((Dp lt d a e).1,if (Dp lt d a e).2=0 then .increasing else if (Dp lt d a e).2=12 then .decreasing else .unknown):=rfl
def MJ (T:Nat) (fv:AV) (lt:Go.Ab.ay.ay→Go.Ab.ay.ay→Bool) (c:ai) : Prop:=∀ {M:RM} {b a e:Nat} {d:Array Go.Ab.ay.ay} {Q:ak},At aV T b d M→d.size≤60000→a<e→e≤d.size →
 (∀ M',At aV T b d M'→ag [] M M'→Q (.tup [N .i64 (((Sort.choosePivot lt d a e).1:Nat) : Int),N .i64 (iL (Sort.choosePivot lt d a e).2)]) M')→c [sv b d.size 2,N .i64 (a:Int),N .i64 (e:Int),fv] M Q
theorem L8 {T TI:Nat} {fv:AV} {lt:Go.Ab.ay.ay→Go.Ab.ay.ay→Bool} {ca cm:ai} (ha:MZ T TI fv lt ca) (hm:GK T TI fv lt cm) : MJ T fv lt fun args M Q=>∃ a0 a1 a2 a3,args=[a0,a1,a2,a3]∧lg TI ca cm a0 a1 a2 a3 M Q:=by
 intro M b a e d Q hat hsz hae he hQ
 refine⟨_,_,_,_,rfl, ?_⟩
 unfold lg
 simp only[bH]
 rw[df (by omega) (by omega),aX]
 have kk:ag [] M (M.push (.row [N .i64 0] false TI 0)):=(ag.refl _ _).push _
 have sw0:KY T TI b M.next d 0 (M.push (.row [N .i64 0] false TI 0)):=⟨hat.keep kk,RM.aQ _,by simp[RM.push]⟩
 have hsb:M.next≠b:=by have:=hat.lt; omega
 have back:∀ M',ag [M.next] (M.push (.row [N .i64 0] false TI 0)) M'→ag [] M M':=fun M' k=>kk.bW k fun c hc=>.inl (by simp at hc; omega)
 generalize M.push (.row [N .i64 0] false TI 0)=M1 at *
 generalize M.next=s at *
 have hq:∀ (k:Nat) (c:Int),c=(k:Int)→k≤3→∀ (K:AV→Prop),(af .quo (N .i64 ((e - a:Nat) : Int)) (N .i64 4) fun t18=>af .mul t18 (N .i64 c) fun t19=>af .add (N .i64 (a:Int)) t19 K)=K (N .i64 ((a + (e - a) / 4 * k:Nat) : Int)):=fun k c hc hk K=>by
  subst hc
  have hb:(e - a) / 4 * k≤(e - a) * 3:=Nat.mul_le_mul (Nat.div_le_self _ _) hk
  rw[gK,show(4:Int)=((4:Nat) : Int) from rfl,jE,aS (by omega) (by omega),nZ,← Int.natCast_mul,aS (by omega) (by omega),addN (by omega)]
  exact propext ⟨fun h=>h.2,fun h=>⟨by decide,h⟩⟩
 rw[hq 1 1 rfl (by omega),hq 2 2 rfl (by omega),hq 3 3 rfl (by omega)]
 rw[aa2] at hQ
 have hr:Dp lt d a e=Dp lt d a e:=rfl
 conv at hr=>rhs; unfold Dp
 generalize Dp lt d a e=r at *
 refine aT (fun zs M'=>zs=[N .i64 ((r.1:Nat) : Int)]∧KY T TI b s d r.2 M'∧ag [s] M1 M') ?_ ?_
 ·rintro zs M' ⟨rfl,⟨h3,hh,_⟩,k3⟩
  dsimp only[aa]
  have:=hQ M' h3 (back M' k3)
  rw[aA hh rfl,bV]
  by_cases h0:r.2=0
  ·rw[show((r.2:Int) == 0)=true by rw[h0]; rfl,cO]
   rw[if_pos h0] at this
   exact this
  ·rw[show((r.2:Int) == 0)=false by rw[beq_eq_false_iff_ne]; omega,bz,bV]
   rw[if_neg h0] at this
   by_cases h12:r.2=12
   ·rw[show((r.2:Int) == 12)=true by rw[h12]; rfl,cO]
    rw[if_pos h12] at this
    exact this
   ·rw[show((r.2:Int) == 12)=false by rw[beq_eq_false_iff_ne]; omega,bz]
    rw[if_neg h12] at this
    exact this
 intro J hJ
 rw[show(8:Int)=((8:Nat) : Int) from rfl,eY]
 refine aD (fun h8=>?_) (fun h8=>?_)
 ·have h8:e - a ≥ 8:=of_decide_eq_true h8
  rw[if_pos h8] at hr
  refine aT (fun zs M'=>∃ x y z k:Nat,zs=[N .i64 (x:Int),N .i64 (y:Int),N .i64 (z:Int)]∧KY T TI b s d k M'∧ag [s] M1 M'∧x<d.size∧y<d.size∧z<d.size∧k≤900∧r=Sort.median lt d x y z k) ?_ ?_
  ·rintro zs M' ⟨x,y,z,k,rfl,s3,k3,hx,hy,hz,hk,rfl⟩
   dsimp only[aa]
   exact hm s3 hsb hx hy hz hk fun M4 s4 k4=>hJ _ _ ⟨rfl,s4,k3.trans k4⟩
  intro J0 hJ0
  rw[show(50:Int)=((50:Nat) : Int) from rfl,eY]
  refine aD (fun h50=>?_) (fun h50=>?_)
  ·have h50:e - a ≥ 50:=of_decide_eq_true h50
   rw[if_pos h50] at hr
   have m1:=ol lt d (i:=a + (e - a) / 4 * 1 - 1) (j:=a + (e - a) / 4 * 1) (h:=a + (e - a) / 4 * 1 + 1) (k:=0) (n:=d.size) (by omega) (by omega) (by omega)
   have r1:(Sort.medianAdjacent lt d (a + (e - a) / 4 * 1) 0).1<d.size∧(Sort.medianAdjacent lt d (a + (e - a) / 4 * 1) 0).2≤0 + 3:=m1
   refine ha sw0 hsb hsz (by omega) (by omega) (by omega) fun M2 s2 k2=>?_
   generalize Sort.medianAdjacent lt d (a + (e - a) / 4 * 1) 0=q1 at *
   have m2:=ol lt d (i:=a + (e - a) / 4 * 2 - 1) (j:=a + (e - a) / 4 * 2) (h:=a + (e - a) / 4 * 2 + 1) (k:=q1.2) (n:=d.size) (by omega) (by omega) (by omega)
   have r2:(Sort.medianAdjacent lt d (a + (e - a) / 4 * 2) q1.2).1<d.size∧(Sort.medianAdjacent lt d (a + (e - a) / 4 * 2) q1.2).2≤q1.2 + 3:=m2
   refine ha s2 hsb hsz (by omega) (by omega) (by omega) fun M3 s3 k3=>?_
   generalize Sort.medianAdjacent lt d (a + (e - a) / 4 * 2) q1.2=q2 at *
   have m3:=ol lt d (i:=a + (e - a) / 4 * 3 - 1) (j:=a + (e - a) / 4 * 3) (h:=a + (e - a) / 4 * 3 + 1) (k:=q2.2) (n:=d.size) (by omega) (by omega) (by omega)
   have r3:(Sort.medianAdjacent lt d (a + (e - a) / 4 * 3) q2.2).1<d.size∧(Sort.medianAdjacent lt d (a + (e - a) / 4 * 3) q2.2).2≤q2.2 + 3:=m3
   refine ha s3 hsb hsz (by omega) (by omega) (by omega) fun M4 s4 k4=>?_
   generalize Sort.medianAdjacent lt d (a + (e - a) / 4 * 3) q2.2=q3 at *
   exact hJ0 _ _ ⟨q1.1,q2.1,q3.1,q3.2,rfl,s4,(k2.trans k3).trans k4,r1.1,r2.1,r3.1,by omega,hr⟩
  ·have h50:¬ e - a ≥ 50:=of_decide_eq_false h50
   rw[if_neg h50] at hr
   exact hJ0 _ _ ⟨_,_,_,0,rfl,sw0,ag.refl _ _,by omega,by omega,by omega,by omega,hr⟩
 ·have h8:¬ e - a ≥ 8:=of_decide_eq_false h8
  rw[if_neg h8] at hr
  subst hr
  exact hJ _ _ ⟨rfl,sw0,ag.refl _ _⟩
def I1 (T:Nat) (fv:AV) (lt:Go.Ab.ay.ay→Go.Ab.ay.ay→Bool) (c:ai) : Prop:=∀ {M:RM} {b a e:Nat} {d:Array Go.Ab.ay.ay} {Q:ak},At aV T b d M→d.size≤60000→a<e→e≤d.size→(∀ M',At aV T b (Sort.partialInsertionSort lt d a e).1 M'→ag [b] M M'→Q (Bo (Sort.partialInsertionSort lt d a e).2) M') →
 c [sv b d.size 2,N .i64 (a:Int),N .i64 (e:Int),fv] M Q
theorem Kb {T:Nat} {fv:AV} {lt:Go.Ab.ay.ay→Go.Ab.ay.ay→Bool} {cv:FuncId→ai} (hl:iR aV lt (bD cv fv)) : I1 T fv lt fun args M Q=>∃ a0 a1 a2 a3,args=[a0,a1,a2,a3]∧gZ cv a0 a1 a2 a3 M Q:=by
 intro M b a e d Q hat hsz hae he hQ
 refine⟨_,_,_,_,rfl, ?_⟩
 unfold gZ
 simp only[dP,dz,dK,bH]
 rw[add1 (by omega)]
 unfold Sort.partialInsertionSort at hQ
 obtain⟨R,hR⟩ : ∃ R,R=Sort.partialIns lt a e 5 (a + 1) d:=⟨_,rfl⟩
 rw[← hR] at hQ
 refine aG (fun m ys M3=>∃ (i s:Nat) (d3:Array Go.Ab.ay.ay),m=s∧s≤5∧ys=[N .i64 (i:Int),N .i64 ((5 - s:Nat) : Int)]∧a + 1≤i∧i≤e∧At aV T b d3 M3∧ag [b] M M3∧d3.size=d.size∧R=Sort.partialIns lt a e s i d3) _ ⟨a + 1,5,d,rfl,by omega,rfl,by omega,by omega,hat,ag.refl _ _,rfl,hR⟩ ?_
 rintro next m ys M3 hnext ⟨i,s,d3,hms,hs5,rfl,hai,hie,h3,k3,hs3,hm⟩
 dsimp only[aa]
 rw[show(5:Int)=((5:Nat) : Int) from rfl,dC]
 refine aD (fun hg=>?_) (fun hg=>?_)
 ·have hg:5 - s<5:=of_decide_eq_true hg
  obtain⟨s',rfl⟩ : ∃ s',s=s' + 1:=⟨s - 1,by omega⟩
  rw[pK] at hm
  refine aT (fun zs M'=>∃ (i' : Nat) (d4:Array Go.Ab.ay.ay),zs=[N .i64 (i' : Int)]∧a + 1≤i'∧i'≤e∧At aV T b d4 M'∧ag [b] M M'∧d4.size=d.size∧R=Sort.partialIns lt a e s' i' d4) ?_ ?_
  ·rintro zs M' ⟨i',d4,rfl,h1,h2,h4,k4,h5,h6⟩
   dsimp only[aa]
   rw[add1 (by omega)]
   exact hnext _ _ _ (by omega) ⟨i',s',d4,rfl,by omega,by congr 4; omega,h1,h2,h4,k4,h5,h6⟩
  intro J hJ
  obtain⟨R5,hR5⟩ : ∃ R5,R5=Sort.scanSorted lt d3 e i:=⟨_,rfl⟩
  rw[← hR5] at hm
  refine aG (fun m ys M5=>∃ (j:Nat),m=e - j∧ys=[N .i64 (j:Int)]∧i≤j∧j≤e∧At aV T b d3 M5∧ag [b] M M5∧R5=Sort.scanSorted lt d3 e j) _ ⟨i,rfl,rfl,Nat.le_refl _,hie,h3,k3,hR5⟩ ?_
  rintro fq m ys M5 dx ⟨j,rfl,rfl,hij,hje,h5,k5,hm5⟩
  dsimp only[aa]
  rw[Sort.scanSorted] at hm5
  rw[dC]
  refine je (P:=fun M'=>At aV T b d3 M'∧ag [b] M M') (p:=!lt d3[j]! d3[j - 1]!) ⟨h5,k5⟩ (fun hc k hk=>?_) fun M6 ⟨h6,k6⟩=>?_
  ·have hc:j<e:=of_decide_eq_true hc
   rw[h5.rd (z:=2) rfl hs3.symm (by omega),aZ (by omega) (by omega),h5.rd (z:=2) rfl hs3.symm (by omega)]
   refine hl.use fun M7 k7=>?_
   rw[bu]
   exact hk M7 ⟨h5.keep k7,k5.trans (k7.mono (cs:=[b]) (by simp))⟩
  refine aD (fun h=>?_) (fun h=>?_)
  ·have hc:j<e:=by
    rw[Bool.and_eq_true] at h
    exact of_decide_eq_true h.1
   rw[if_pos h] at hm5
   rw[add1 (by omega)]
   exact dx _ _ _ (by omega) ⟨j + 1,rfl,rfl,by omega,by omega,h6,k6,hm5⟩
  rw[if_neg (by rw[h]; decide)] at hm5
  subst hm5
  rw[F8]
  refine aD (fun lK=>?_) (fun lK=>?_)
  ·rw[if_pos (of_decide_eq_true lK)] at hm
   rw[hm] at hQ
   exact hQ M6 h6 k6
  have lK:¬ R5=e:=of_decide_eq_false lK
  rw[if_neg lK] at hm
  rw[df (by omega) (by omega),show(50:Int)=((50:Nat) : Int) from rfl,dC]
  refine aD (fun h50=>?_) (fun h50=>?_)
  ·rw[if_pos (of_decide_eq_true h50)] at hm
   rw[hm] at hQ
   exact hQ M6 h6 k6
  rw[if_neg (of_decide_eq_false h50)] at hm
  rw[aZ (by omega) (by omega),aZ (by omega) (by omega),h6.rd (z:=2) rfl hs3.symm (by omega),h6.rd (z:=2) rfl hs3.symm (by omega)]
  refine h6.swap (z:=2) rfl hs3.symm (by omega) (by omega) fun M7 h7 k7'=>?_
  have k7:=k6.trans k7'
  have hs6:(Sort.swp d3 R5 (R5 - 1)).size=d.size:=by rw[bF,hs3]
  generalize Sort.swp d3 R5 (R5 - 1)=d6 at *
  refine aT (fun zs M'=>zs=[]∧At aV T b (if R5 - a ≥ 2 then Sort.shiftDown lt (R5 - 1) d6 else d6) M'∧ag [b] M M') ?_ ?_
  ·rintro zs M8 ⟨rfl,h8,k8⟩
   have hs7:(if R5 - a ≥ 2 then Sort.shiftDown lt (R5 - 1) d6 else d6).size=d.size:=by
    split
    ·rw[rJ,hs6]
    ·exact hs6
   generalize (if R5 - a ≥ 2 then Sort.shiftDown lt (R5 - 1) d6 else d6)=d7 at *
   rw[df (by omega) (by omega),show(2:Int)=((2:Nat) : Int) from rfl,eY]
   refine aD (fun h2=>?_) (fun h2=>?_)
   ·rw[if_pos (of_decide_eq_true h2)] at hm
    rw[add1 (by omega)]
    obtain⟨R8,hR8⟩ : ∃ R8,R8=Sort.shiftUp lt e (R5 + 1) d7:=⟨_,rfl⟩
    rw[← hR8] at hm
    refine aG (fun m ys M8=>∃ (j:Nat) (d8:Array Go.Ab.ay.ay),m=e - j∧ys=[N .i64 (j:Int)]∧R5 + 1≤j∧j≤e∧At aV T b d8 M8∧ag [b] M M8∧d8.size=d.size∧R8=Sort.shiftUp lt e j d8) _ ⟨R5 + 1,d7,rfl,rfl,Nat.le_refl _,by omega,h8,k8,hs7,hR8⟩ ?_
    rintro kW m ys M9 lL ⟨j,d8,rfl,rfl,hj1,hj2,h9,k9,dw,hm8⟩
    dsimp only[aa]
    rw[Sort.shiftUp] at hm8
    rw[dC]
    refine aD (fun hl1=>?_) (fun hl1=>?_)
    ·have hl1:j<e:=of_decide_eq_true hl1
     rw[if_pos hl1] at hm8
     rw[h9.rd (z:=2) rfl dw.symm (by omega),aZ (by omega) (by omega),h9.rd (z:=2) rfl dw.symm (by omega)]
     refine hl.use fun M10 jR=>?_
     have h10:=h9.keep jR
     have k10:=k9.trans (jR.mono (cs:=[b]) (by simp))
     rw[bu]
     refine aD (fun hn=>?_) (fun hn=>?_)
     ·rw[if_pos hn] at hm8
      subst hm8
      exact hJ _ _ ⟨R5,R8,rfl,by omega,by omega,h10,k10,dw,hm⟩
     ·rw[if_neg (by rw[hn]; decide)] at hm8
      rw[aZ (by omega) (by omega),aZ (by omega) (by omega),h10.rd (z:=2) rfl dw.symm (by omega),h10.rd (z:=2) rfl dw.symm (by omega)]
      refine h10.swap (z:=2) rfl dw.symm (by omega) (by omega) fun M11 h11 k11=>?_
      rw[add1 (by omega)]
      exact lL _ _ _ (by omega) ⟨j + 1,_,rfl,rfl,by omega,by omega,h11,k10.trans k11,by rw[bF,dw],hm8⟩
    ·rw[if_neg (of_decide_eq_false hl1)] at hm8
     subst hm8
     exact hJ _ _ ⟨R5,R8,rfl,by omega,by omega,h9,k9,dw,hm⟩
   ·rw[if_neg (of_decide_eq_false h2)] at hm
    exact hJ _ _ ⟨R5,d7,rfl,by omega,by omega,h8,k8,hs7,hm⟩
  intro J2 hJ2
  rw[df (by omega) (by omega),show(2:Int)=((2:Nat) : Int) from rfl,eY]
  refine aD (fun h2=>?_) (fun h2=>?_)
  ·rw[if_pos (of_decide_eq_true h2)] at hJ2
   rw[aZ (by omega) (by omega)]
   obtain⟨R8,hR8⟩ : ∃ R8,R8=Sort.shiftDown lt (R5 - 1) d6:=⟨_,rfl⟩
   rw[← hR8] at hJ2
   refine aG (fun m ys M8=>∃ (j:Nat) (d8:Array Go.Ab.ay.ay),m=j + 1∧ys=[N .i64 (j:Int)]∧j<R5∧At aV T b d8 M8∧ag [b] M M8∧d8.size=d.size∧R8=Sort.shiftDown lt j d8) _ ⟨R5 - 1,d6,rfl,rfl,by omega,h7,k7,hs6,hR8⟩ ?_
   rintro kW m ys M8 lL ⟨j,d8,rfl,rfl,hj1,h8,k8,dw,hm8⟩
   dsimp only[aa]
   rw[show(1:Int)=((1:Nat) : Int) from rfl,eY]
   refine aD (fun hl1=>?_) (fun hl1=>?_)
   ·have hl1:j ≥ 1:=of_decide_eq_true hl1
    obtain⟨j',rfl⟩ : ∃ j',j=j' + 1:=⟨j - 1,by omega⟩
    rw[Sort.shiftDown] at hm8
    rw[h8.rd (z:=2) rfl dw.symm (by omega),df (by omega) (by omega),Nat.add_sub_cancel,h8.rd (z:=2) rfl dw.symm (by omega)]
    refine hl.use fun M10 jR=>?_
    have h10:=h8.keep jR
    have k10:=k8.trans (jR.mono (cs:=[b]) (by simp))
    rw[bu]
    refine aD (fun hn=>?_) (fun hn=>?_)
    ·rw[if_pos hn] at hm8
     subst hm8
     exact hJ2 _ _ ⟨rfl,h10,k10⟩
    ·rw[if_neg (by rw[hn]; decide)] at hm8
     rw[df (by omega) (by omega),df (by omega) (by omega),Nat.add_sub_cancel,h10.rd (z:=2) rfl dw.symm (by omega),h10.rd (z:=2) rfl dw.symm (by omega)]
     refine h10.swap (z:=2) rfl dw.symm (by omega) (by omega) fun M11 h11 k11=>?_
     rw[df (by omega) (by omega),Nat.add_sub_cancel]
     exact lL _ _ _ (by omega) ⟨j',_,rfl,rfl,by omega,h11,k10.trans k11,by rw[bF,dw],hm8⟩
   ·have hl1:¬ j ≥ 1:=of_decide_eq_false hl1
    have h0:j=0:=by omega
    subst h0
    rw[Sort.shiftDown] at hm8
    subst hm8
    exact hJ2 _ _ ⟨rfl,h8,k8⟩
  ·rw[if_neg (of_decide_eq_false h2)] at hJ2
   exact hJ2 _ _ ⟨rfl,h7,k7⟩
 ·have hg:¬ 5 - s<5:=of_decide_eq_false hg
  have h0:s=0:=by omega
  subst h0
  rw[Sort.partialIns] at hm
  rw[hm] at hQ
  exact hQ M3 h3 k3
theorem Qm {T TX:Nat} {fv:AV} {cp cx:ai} (hp:Nw cp) (hx:Tv TX cx) : SortG aV T 2 fv Sort.breakPatterns (fun _ _ _=>True) fun args M Q=>∃ a0 a1 a2 a3,args=[a0,a1,a2,a3]∧kG TX cp cx a0 a1 a2 a3 M Q:=by
 intro M b a e d Q hat hsz hae he _ hQ
 refine⟨_,_,_,_,rfl, ?_⟩
 unfold kG
 simp only[bH]
 rw[df hae (by omega),show(8:Int)=((8:Nat) : Int) from rfl,eY]
 unfold Sort.breakPatterns at hQ
 refine aD (fun h8=>?_) (fun h8=>?_)
 ·have h8:e - a ≥ 8:=of_decide_eq_true h8
  rw[if_pos h8] at hQ
  have hbl:=qG (x:=e - a) (by omega) (by omega)
  rw[jQ,fJ (by omega) (by omega),aX]
  have kk:ag [] M (M.push (.row [(N .u64 0)] false TX 0)):=(ag.refl _ _).push _
  have hsb:M.next≠b:=by have:=hat.lt; omega
  have hh0:(M.push (.row [(N .u64 0)] false TX 0)).heap M.next=some (.row [N .u64 0] false TX 0):=RM.aQ _
  have JY:(UInt64.ofNat (e - a)).toNat=e - a:=by rw[UInt64.toNat_ofNat']; omega
  have hn0:M.next<(M.push (.row [(N .u64 0)] false TX 0)).next:=by simp[RM.push]
  rw[dV hh0 (by simp) rfl rfl]
  have kS:ag [] M ((M.push (.row [(N .u64 0)] false TX 0)).put M.next (.row (([N .u64 0] : List AV).set 0 (N .u64 ((e - a:Nat) : Int))) false TX 0)):=kk.new _ (Nat.le_refl _)
  have hs1:((M.push (.row [(N .u64 0)] false TX 0)).put M.next (.row (([N .u64 0] : List AV).set 0 (N .u64 ((e - a:Nat) : Int))) false TX 0)).heap M.next=some (.row [N .u64 ((UInt64.ofNat (e - a)).toNat:Int)] false TX 0):=by
   rw[aN,JY]; rfl
  have hn1:M.next<((M.push (.row [(N .u64 0)] false TX 0)).put M.next (.row (([N .u64 0] : List AV).set 0 (N .u64 ((e - a:Nat) : Int))) false TX 0)).next:=hn0
  generalize (M.push (.row [(N .u64 0)] false TX 0)).put M.next (.row (([N .u64 0] : List AV).set 0 (N .u64 ((e - a:Nat) : Int))) false TX 0)=M1 at *
  have Sw:=hat.keep kS
  have back:∀ M',ag [b,M.next] M1 M'→ag [b] M M':=fun M' k=>(kS.mono (cs:=[b]) (by simp)).bW k fun c hc=>by simp at hc; rcases hc with h | h <;> simp[h]
  generalize M.next=s at *
  refine hp (by omega) (by omega) ?_
  have hq:∀ (c:Int),c=((2:Nat) : Int)→∀ (K:AV→Prop),(af .quo (N .i64 ((e - a:Nat) : Int)) (N .i64 4) fun t18=>af .mul t18 (N .i64 c) fun t19=>af .add (N .i64 (a:Int)) t19 K)=K (N .i64 ((a + (e - a) / 4 * 2:Nat) : Int)):=fun c hc K=>by
   subst hc
   rw[gK,show(4:Int)=((4:Nat) : Int) from rfl,jE,aS (by omega) (by omega),nZ,← Int.natCast_mul,aS (by omega) (by omega),addN (by omega)]
   exact propext ⟨fun h=>h.2,fun h=>⟨by decide,h⟩⟩
  rw[hq 2 rfl,aZ (by omega) (by omega)]
  have JZ:(Sort.breakStep a (e - a) (1 <<< Sort.bitsLen (e - a)) (Sort.breakStep a (e - a) (1 <<< Sort.bitsLen (e - a)) (Sort.breakStep a (e - a) (1 <<< Sort.bitsLen (e - a)) (UInt64.ofNat (e - a),d) (a + (e - a) / 4 * 2 - 1)) (a + (e - a) / 4 * 2 - 1 + 1)) (a + (e - a) / 4 * 2 - 1 + 2)).2=(lU a (e - a) (2 ^ Sort.bitsLen (e - a)) (a + (e - a) / 4 * 2 - 1) d 3).2:=by
   rw[Nat.shiftLeft_eq,Nat.one_mul]; rfl
  have hQ:∀ M',At aV T b (lU a (e - a) (2 ^ Sort.bitsLen (e - a)) (a + (e - a) / 4 * 2 - 1) d 3).2 M'→ag [b] M M'→Q (.tup []) M':=fun M' h k=>hQ M' (by rw[JZ]; exact h) k
  generalize hmd:2 ^ Sort.bitsLen (e - a)=md at *
  generalize hi0:a + (e - a) / 4 * 2 - 1=i0 at *
  refine aG (fun m ys M3=>∃ (k:Nat),m=3 - k∧k≤3∧ys=[N .i64 ((i0 + k:Nat) : Int)]∧At aV T b (lU a (e - a) md i0 d k).2 M3∧M3.heap s=some (.row [N .u64 ((lU a (e - a) md i0 d k).1.toNat:Int)] false TX 0)∧s<M3.next∧ag [b,s] M1 M3) _ ⟨0,rfl,by omega,rfl,Sw,hs1,hn1,ag.refl _ _⟩ ?_
  rintro next m ys M3 hnext ⟨k,rfl,hk,rfl,h3,hh3,hn3,k3⟩
  dsimp only[aa]
  have hsk:=K4 a (e - a) md i0 d k
  have JQ:lU a (e - a) md i0 d (k + 1)=Sort.breakStep a (e - a) md (lU a (e - a) md i0 d k) (i0 + k):=rfl
  generalize Ka:lU a (e - a) md i0 d k=st at *
  rw[hq 2 rfl,add1 (by omega),gU]
  refine aD (fun hg=>?_) (fun hg=>?_)
  ·have hg:i0 + k≤a + (e - a) / 4 * 2 + 1:=of_decide_eq_true hg
   refine aT (fun zs M'=>At aV T b (lU a (e - a) md i0 d (k + 1)).2 M'∧M'.heap s=some (.row [N .u64 ((lU a (e - a) md i0 d (k + 1)).1.toNat:Int)] false TX 0)∧s<M'.next∧ag [b,s] M1 M') ?_ ?_
   ·rintro zs M' ⟨c1,c2,c3,c4⟩
    rw[add1 (by omega)]
    exact hnext _ _ _ (by omega) ⟨k + 1,rfl,by omega,rfl,c1,c2,c3,c4⟩
   intro J hJ
   refine hx hh3 hn3 fun M4 hh4 k4 n4=>?_
   have h4:=h3.keep' k4 (by simp; omega)
   rw[JQ] at hJ
   unfold Sort.breakStep at hJ
   dsimp only at hJ
   generalize Sort.xorNext st.1=r at *
   rw[eT,fJ (by omega) (by omega),show(md:Int) - 1=((md - 1:Nat) : Int) by omega,AA,Ea rfl]
   have hlt:r.toNat &&& (md - 1)<md:=by
    rw[← hmd,Nat.and_two_pow_sub_one_eq_mod]
    exact Nat.mod_lt _ (by rw[hmd]; omega)
   rw[Nat.mod_eq_of_lt (show r.toNat &&& (md - 1)<2 ^ wI .u64 by show _<2 ^ 64; omega)]
   generalize r.toNat &&& (md - 1)=o at *
   rw[jQ,aS (by omega) (by omega)]
   refine aT (fun zs M'=>zs=[N .i64 (((if o ≥ e - a then o - (e - a) else o) : Nat) : Int)]∧M'=M4) ?_ ?_
   ·rintro zs M' ⟨rfl,rfl⟩
    dsimp only[aa]
    have ho:(if o ≥ e - a then o - (e - a) else o)<e - a:=by split <;> omega
    generalize (if o ≥ e - a then o - (e - a) else o)=o2 at *
    rw[addN (by omega),addN (by omega),h4.rd (z:=2) rfl hsk.symm (by omega),h4.rd (z:=2) rfl hsk.symm (by omega)]
    refine h4.swap (z:=2) rfl hsk.symm (by omega) (by omega) fun M5 h5 k5=>?_
    exact hJ _ _ ⟨h5,k5.aK hh4 (by omega) (by simp; omega),by have:=k5.next; omega,(k3.trans (k4.mono (cs:=[b,s]) (by simp))).trans (k5.mono (cs:=[b,s]) (by simp))⟩
   intro J4 hJ4
   rw[eY]
   refine aD (fun hg2=>?_) (fun hg2=>?_)
   ·have hg2:o ≥ e - a:=of_decide_eq_true hg2
    rw[df (by omega) (by omega)]
    exact hJ4 _ _ ⟨by rw[if_pos hg2],rfl⟩
   ·exact hJ4 _ _ ⟨by rw[if_neg (of_decide_eq_false hg2)],rfl⟩
  ·have hg:¬ i0 + k≤a + (e - a) / 4 * 2 + 1:=of_decide_eq_false hg
   have hk3:k=3:=by omega
   subst hk3
   rw[Ka] at hQ
   exact hQ M3 h3 (back M3 k3)
 ·rw[if_neg (of_decide_eq_false h8)] at hQ
  exact hQ M hat (ag.refl _ _)
def XZ (T m:Nat) (fv:AV) (lt:Go.Ab.ay.ay→Go.Ab.ay.ay→Bool) (c:ai) : Prop:=∀ {M:RM} {b a e limit:Nat} {d:Array Go.Ab.ay.ay} {Q:ak},At aV T b d M→d.size≤60000→a≤e→e≤d.size→e - a<m→limit≤1000000→(∀ M',At aV T b (Sort.pdq lt d a e limit true true) M'→ag [b] M M'→Q (.tup []) M') →
 c [sv b d.size 2,N .i64 (a:Int),N .i64 (e:Int),N .i64 (limit:Int),fv] M Q
theorem Xd {T m:Nat} {fv:AV} {lt:Go.Ab.ay.ay→Go.Ab.ay.ay→Bool} {cv:FuncId→ai} {ci ch cb cc cr cp ce ct cq:ai} (hlt:Sort.SWO lt) (hi:SortG aV T 2 fv (Sort.insertionSort lt) (fun _ _ _=>True) ci) (hh:SortG aV T 2 fv (Sort.heapSort lt) (fun _ a e=>a<e) ch) (hb:SortG aV T 2 fv Sort.breakPatterns (fun _ _ _=>True) cb) (hc:MJ T fv lt cc) (hr:SortG aV T 2 fv Sort.reverseRange (fun _ a e=>a<e) cr)
  (hp:I1 T fv lt cp) (hl:iR aV lt (bD cv fv)) (he:Oe T fv lt ce) (ht:Vu T fv lt ct) (hq:XZ T m fv lt cq) : XZ T (m + 1) fv lt fun args M Q=>∃ a0 a1 a2 a3 a4,args=[a0,a1,a2,a3,a4]∧iW ci ch cb cc cr cp cv ce ct cq a0 a1 a2 a3 a4 M Q:=by
 intro M b a e limit d Q hat hsz hae hed hm hlim hQ
 refine⟨_,_,_,_,_,rfl, ?_⟩
 unfold iW
 simp only[dP,dz,dK,bH]
 obtain⟨R,hR⟩ : ∃ R,R=Sort.pdq lt d a e limit true true:=⟨_,rfl⟩
 rw[← hR] at hQ
 refine aG (fun m' ys M3=>∃ (a e limit:Nat) (wb wp:Bool) (d3:Array Go.Ab.ay.ay),m'=e - a∧ys=[N .i64 (a:Int),N .i64 (e:Int),N .i64 (limit:Int),Bo wb,Bo wp]∧a≤e∧e≤d.size∧e - a<m + 1∧limit≤1000000∧At aV T b d3 M3∧ag [b] M M3∧d3.size=d.size∧R=Sort.pdq lt d3 a e limit wb wp) _
  ⟨a,e,limit,true,true,d,rfl,rfl,hae,hed,hm,hlim,hat,ag.refl _ _,rfl,hR⟩ ?_
 clear hR hae hed hm hlim
 rintro next m' ys M4 hnext ⟨a,e,limit,wb,wp,d3,rfl,rfl,hae,hed,hm,hlim,h4,k4,hs3,hR⟩
 dsimp only[aa]
 rw[sD] at hR
 rw[df hae (by omega),show(12:Int)=((12:Nat) : Int) from rfl,gU]
 refine aD (fun hg=>?_) (fun hg=>?_)
 ·rw[if_pos (of_decide_eq_true hg)] at hR
  rw[← hs3]
  refine hi h4 (by omega) hae (by omega) trivial fun M5 h5 k5=>?_
  rw[← hR] at h5
  exact hQ M5 h5 (k4.trans k5)
 have hg:¬ e - a≤12:=of_decide_eq_false hg
 rw[if_neg hg] at hR
 rw[show(0:Int)=((0:Nat) : Int) from rfl,F8]
 refine aD (fun hg0=>?_) (fun hg0=>?_)
 ·rw[if_pos (of_decide_eq_true hg0)] at hR
  rw[← hs3]
  refine hh h4 (by omega) hae (by omega) (by omega) fun M5 h5 k5=>?_
  rw[← hR] at h5
  exact hQ M5 h5 (k4.trans k5)
 have hg0:¬ limit=0:=of_decide_eq_false hg0
 rw[if_neg hg0] at hR
 refine aT (fun zs M'=>zs=[N .i64 (((if !wb then limit - 1 else limit) : Nat) : Int)]∧At aV T b (if !wb then Sort.breakPatterns d3 a e else d3) M'∧ag [b] M M') ?_ ?_
 ·rintro zs M5 ⟨rfl,h5,k5⟩
  dsimp only[aa]
  have hs5:(if !wb then Sort.breakPatterns d3 a e else d3).size=d.size:=by
   split
   ·rw[Hm,hs3]
   ·exact hs3
  have hl5:(if !wb then limit - 1 else limit)≤1000000:=by split <;> omega
  generalize (if !wb then Sort.breakPatterns d3 a e else d3)=d5 at *
  generalize (if !wb then limit - 1 else limit)=lim at *
  rw[← hs5]
  refine hc h5 (by omega) (by omega) (by omega) fun M6 h6 k6=>?_
  rw[hs5]
  have hcr:=Sort.choosePivot_holds lt d5 a e (by omega)
  unfold gA at hR
  generalize Sort.choosePivot lt d5 a e=cpv at *
  have k6':=k5.trans (k6.mono (cs:=[b]) (by simp))
  rw[fo,fu]
  refine aT (fun zs M'=>zs=[N .i64 (((if cpv.2=.decreasing then(e - 1) - (cpv.1 - a) else cpv.1) : Nat) : Int),N .i64 (iL (if cpv.2=.decreasing then .increasing else cpv.2))]∧At aV T b (if cpv.2=.decreasing then Sort.reverseRange d5 a e else d5) M'∧ag [b] M M') ?_ ?_
  ·rintro zs M7 ⟨rfl,h7,k7⟩
   dsimp only[aa]
   have hs7:(if cpv.2=.decreasing then Sort.reverseRange d5 a e else d5).size=d.size:=by
    split
    ·rw[P9,hs5]
    ·exact hs5
   have hpv:a≤(if cpv.2=.decreasing then(e - 1) - (cpv.1 - a) else cpv.1)∧(if cpv.2=.decreasing then(e - 1) - (cpv.1 - a) else cpv.1)<e:=by
    split <;> omega
   generalize (if cpv.2=.decreasing then Sort.reverseRange d5 a e else d5)=d7 at *
   generalize (if cpv.2=.decreasing then(e - 1) - (cpv.1 - a) else cpv.1)=pv at *
   generalize (if cpv.2=.decreasing then Sort.Hint.increasing else cpv.2)=hint at *
   unfold gB gP at hR
   refine aT (fun zs M'=>∃ d8:Array Go.Ab.ay.ay,At aV T b d8 M'∧ag [b] M M'∧d8.size=d.size∧R=gC lt d8 a e pv lim wb wp) ?_ ?_
   ·rintro zs M8 ⟨d8,h8,k8,hs8,hR8⟩
    unfold gC at hR8
    rw[lX]
    refine je (P:=fun M'=>At aV T b d8 M'∧ag [b] M M') (p:=!lt d8[a - 1]! d8[pv]!) ⟨h8,k8⟩ (fun hc k hk=>?_) fun M9 ⟨h9,k9⟩=>?_
    ·have hc:a > 0:=of_decide_eq_true hc
     rw[aZ (by omega) (by omega),h8.rd (z:=2) rfl hs8.symm (by omega),h8.rd (z:=2) rfl hs8.symm (by omega)]
     refine hl.use fun M10 k10=>?_
     rw[bu]
     exact hk M10 ⟨h8.keep k10,k8.trans (k10.mono (cs:=[b]) (by simp))⟩
    refine aD (fun h=>?_) (fun h=>?_)
    ·rw[if_pos h] at hR8
     rw[← hs8]
     have hE:=Hw lt d8 a e pv (by omega)
     refine he h9 (by omega) hpv.1 hpv.2 (by omega) fun M10 h10 k10=>?_
     generalize Sort.partitionEqual lt d8 a e pv=pe at *
     dsimp only at hR8
     rw[dif_pos ⟨hE.2.1,hE.2.2⟩] at hR8
     exact hnext _ _ _ (by omega) ⟨pe.1,e,lim,wb,wp,pe.2,rfl,rfl,hE.2.2,hed,by omega,hl5,h10,k9.trans k10,by rw[hE.1,hs8],hR8⟩
    ·rw[if_neg (by rw[h]; decide)] at hR8
     rw[← hs8]
     have hT:=Sort.partition_holds lt hlt d8 a e pv hpv.1 hpv.2 (by omega)
     have hTs:=KD lt d8 a e pv
     refine ht h9 (by omega) hpv.1 hpv.2 (by omega) fun M10 h10 k10=>?_
     have jR:=k9.trans k10
     generalize Sort.partition lt d8 a e pv=pp at *
     obtain⟨mid,ap,d9⟩:=pp
     dsimp only at hR8 hT hTs h10 ⊢
     rw[dif_pos ⟨hT.1,hT.2.1⟩] at hR8
     have hT1:=hT.1
     have hT2:=hT.2.1
     rw[fo,fu,df hT1 (by omega),df (by omega) (by omega),gK]
     refine⟨by decide, ?_⟩
     rw[show(8:Int)=((8:Nat) : Int) from rfl,jE,aS (by omega) (by omega),dC]
     refine aD (fun hc1=>?_) (fun hc1=>?_)
     ·have hc1:mid - a<e - mid:=of_decide_eq_true hc1
      rw[if_pos hc1] at hR8
      rw[eY,← hTs]
      refine hq h10 (by omega) hT1 (by omega) (by omega) hl5 fun M11 h11 k11=>?_
      rw[add1 (by omega)]
      exact hnext _ _ _ (by omega) ⟨mid + 1,e,lim,_,ap,_,rfl,rfl,by omega,hed,by omega,hl5,h11,jR.trans k11,by rw[ul lt _ _ _ _ _ _ _ (Nat.le_refl _),hTs,hs8],hR8⟩
     ·have hc1:¬ mid - a<e - mid:=of_decide_eq_false hc1
      rw[if_neg hc1] at hR8
      rw[eY,add1 (by omega),← hTs]
      refine hq h10 (by omega) (by omega) (by omega) (by omega) hl5 fun M11 h11 k11=>?_
      exact hnext _ _ _ (by omega) ⟨a,mid,lim,_,ap,_,rfl,rfl,hT1,by omega,by omega,hl5,h11,jR.trans k11,by rw[ul lt _ _ _ _ _ _ _ (Nat.le_refl _),hTs,hs8],hR8⟩
   intro J10 Ac
   have no:¬ (wb && wp && decide (hint=.increasing))=true→J10 [] M7:=fun hn=>by
    have hpi:(if (wb && wp && decide (hint=.increasing))=true then Sort.partialInsertionSort lt d7 a e else(d7,false))=(d7,false):=if_neg hn
    rw[hpi] at hR
    exact Ac _ _ ⟨d7,h7,k7,hs7,hR⟩
   cases wb with
   | false =>
     rw[bI]
     dsimp only
     rw[cz,bI]
     dsimp only
     rw[bI]
     dsimp only
     rw[cz,bz]
     exact no (by simp)
   | true =>
     rw[cB]
     dsimp only
     rw[dN]
     cases wp with
     | false =>
       rw[bI]
       dsimp only
       rw[bI]
       dsimp only
       rw[cz,bz]
       exact no (by simp)
     | true =>
       rw[cB]
       dsimp only
       rw[cB]
       dsimp only
       rw[bV,dN]
       by_cases hin:hint=.increasing
       ·rw[show(iL hint == 1)=true by rw[hin]; rfl,cO]
        have hpi:(if (true && true && decide (hint=.increasing))=true then Sort.partialInsertionSort lt d7 a e else(d7,false))=Sort.partialInsertionSort lt d7 a e:=if_pos (by simp[hin])
        rw[hpi] at hR
        rw[← hs7]
        have hs8:(Sort.partialInsertionSort lt d7 a e).1.size=d.size:=by
         rw[Sort.partialInsertionSort,wT,hs7]
        refine hp h7 (by omega) (by omega) (by omega) fun M8 h8 k8=>?_
        generalize Sort.partialInsertionSort lt d7 a e=pi at *
        refine aD (fun h=>?_) (fun h=>?_)
        ·rw[if_pos h] at hR
         rw[← hR] at h8
         exact hQ M8 h8 (k7.trans k8)
        ·rw[if_neg (by rw[h]; decide)] at hR
         exact Ac _ _ ⟨pi.1,h8,k7.trans k8,hs8,hR⟩
       ·rw[show(iL hint == 1)=false by cases hint <;> first | rfl | exact absurd rfl hin,bz]
        exact no (by simp[hin])
  intro J6 hJ6
  rw[bV]
  by_cases hdec:cpv.2=.decreasing
  ·rw[show(iL cpv.2 == 2)=true by rw[hdec]; rfl,cO,← hs5]
   refine hr h6 (by omega) hae (by omega) (by omega) fun M7 h7 k7=>?_
   rw[aZ (by omega) (by omega),df (by omega) (by omega),df (by omega) (by omega)]
   exact hJ6 _ _ ⟨by rw[if_pos hdec,if_pos hdec]; rfl,by rw[if_pos hdec]; exact h7,k6'.trans k7⟩
  ·rw[show(iL cpv.2 == 2)=false by cases h:cpv.2 <;> first | rfl | exact absurd h hdec,bz]
   exact hJ6 _ _ ⟨by rw[if_neg hdec,if_neg hdec],by rw[if_neg hdec]; exact h6,k6'⟩
 intro J hJ
 rw[bu]
 cases wb with
 | true =>
   rw[Bool.not_true,bz]
   exact hJ _ _ ⟨rfl,h4,k4⟩
 | false =>
   rw[Bool.not_false,cO,← hs3]
   refine hb h4 (by omega) hae (by omega) trivial fun M5 h5 k5=>?_
   rw[aZ (by omega) (by omega)]
   exact hJ _ _ ⟨rfl,h5,k4.trans k5⟩
def MP (c:ai) : Prop:=∀ {M:RM} {v fv:AV} {Q:ak},Q (.tup []) M→c [v,N .i64 0,N .i64 ((0:Nat) : Int),fv] M Q
theorem Ng {cv:FuncId→ai} : MP fun args M Q=>∃ a0 a1 a2 a3,args=[a0,a1,a2,a3]∧fA cv a0 a1 a2 a3 M Q:=by
 intro M v fv Q hQ
 refine⟨_,_,_,_,rfl, ?_⟩
 unfold fA
 rw[cZ,show IntKind.i64.wrap ((0:Int) + 1)=1 from rfl]
 refine aG (fun m ys M3=>m=0∧ys=[N .i64 1]∧M3=M) 0 ⟨rfl,rfl,rfl⟩ ?_
 rintro next m ys M3 hnext ⟨rfl,rfl,rfl⟩
 dsimp only[aa]
 rw[dD,show decide ((1:Int)<((0:Nat) : Int))=false from rfl,bz]
 exact hQ
def Ob (c:ai) : Prop:=∀ {M:RM} {v fv:AV} {Q:ak},Q (.tup []) M→c [v,N .i64 0,N .i64 ((0:Nat) : Int),N .i64 ((0:Nat) : Int),fv] M Q
theorem N9 {cv:FuncId→ai} {ci c2 c3 cc c4 cp c6 c7 c8:ai} (hi:MP ci) : Ob fun args M Q=>∃ a0 a1 a2 a3 a4,args=[a0,a1,a2,a3,a4]∧iW ci c2 c3 cc c4 cp cv c6 c7 c8 a0 a1 a2 a3 a4 M Q:=by
 intro M v fv Q hQ
 refine⟨_,_,_,_,_,rfl, ?_⟩
 unfold iW
 refine aG (fun m ys M3=>m=0∧ys=[N .i64 0,N .i64 ((0:Nat) : Int),N .i64 ((0:Nat) : Int),Bo true,Bo true]∧M3=M) 0 ⟨rfl,rfl,rfl⟩ ?_
 rintro next m ys M3 hnext ⟨rfl,rfl,rfl⟩
 dsimp only[aa]
 rw[eT,show IntKind.i64.wrap (((0:Nat) : Int) - 0)=0 from rfl,kH,show decide ((0:Int)≤12)=true from rfl,cO]
 exact hi hQ
def nY (lt:Go.Ab.ay.ay→Go.Ab.ay.ay→Bool) (xs:List Go.Ab.ay.ay) : List Go.Ab.ay.ay:=(Sort.sort lt xs.toArray).toList
theorem Zx (lt:Go.Ab.ay.ay→Go.Ab.ay.ay→Bool) : nY lt []=[]:=by
 unfold nY Sort.sort
 rw[sD,if_pos (by simp),Sort.insertionSort,Sort.insOuter,if_neg (by simp)]
theorem EF {lt:Go.Ab.ay.ay→Go.Ab.ay.ay→Bool} (hlt:Sort.SWO lt) (xs:List Go.Ab.ay.ay) : (nY lt xs).Perm xs:=by
 have h:=(Sort.sort_sorts lt hlt xs.toArray).1
 have h2:=h.2.2
 rw[Array.extract_eq_self_of_le (by rw[h.1]; exact Nat.le_refl _),Array.extract_eq_self_of_le (Nat.le_refl _)] at h2
 exact h2
def Nk (fv:AV) (lt:Go.Ab.ay.ay→Go.Ab.ay.ay→Bool) (T:Nat) (c:ai) : Prop:=∀ {M:RM} {base:Nat} {v:AV} {xs:List Go.Ab.ay.ay} {Q:ak},Ow aV M base T v xs→xs.length≤60000→(∀ M',Ow aV M' base T v (nY lt xs)→ag (aI v) M M'→Q (.tup []) M')→c [v,fv] M Q
theorem Mx {T:Nat} {fv:AV} {lt:Go.Ab.ay.ay→Go.Ab.ay.ay→Bool} {cl cp:ai} (hlt:Sort.SWO lt) (hl:BB cl) (hp:∀ m,XZ T m fv lt cp) (h0:Ob cp) : Nk fv lt T fun args M Q=>∃ a0 a1,args=[a0,a1]∧vF cl cp a0 a1 M Q:=by
 intro M base v xs Q ho hx hQ
 have hs:Sl aV M v xs:=ho.il
 refine⟨_,_,rfl, ?_⟩
 unfold vF
 rw[aR.len hs,jQ,fJ (by omega) (by omega)]
 refine hl (by omega) ?_
 rcases Nat.eq_zero_or_pos xs.length with hn | hn
 ·rw[hn,show Sort.bitsLen 0=0 from rfl]
  refine h0 ?_
  have:=List.length_eq_zero_iff.1 hn
  subst this
  exact hQ M (by rw[Zx]; exact ho) (ag.refl _ _)
 ·obtain⟨b,rfl,h1,h2,h3,h4⟩:=Own.uK ho hn
  have hb:=qG hn (by omega)
  have hsz:xs.toArray.size=xs.length:=by simp
  have hat:At aV T b xs.toArray M:=⟨by rw[h3],h2⟩
  have hsl:(nY lt xs).length=xs.length:=(EF hlt xs).length_eq
  have:=hp (xs.length + 1) (M:=M) (b:=b) (a:=0) (e:=xs.toArray.size) (limit:=Sort.bitsLen xs.length) (d:=xs.toArray) (Q:=fun Py M_0=>Q (.tup []) M_0) hat (by omega) (by omega) (Nat.le_refl _) (by omega) (by omega) fun M' h' k'=>?_
  ·have e5:aV.size=2:=rfl
   rw[e5]
   simpa using this
  ·have e:(Sort.pdq lt xs.toArray 0 xs.toArray.size (Sort.bitsLen xs.length) true true)=Sort.sort lt xs.toArray:=by rw[Sort.sort]; simp
   rw[e] at h'
   refine hQ _ ?_ (by simpa [aI] using k')
   have hlast:Own M' base T 2 (.slc b 0 xs.length (.op 2)) (aV.row (nY lt xs)) xs.length:=.op _ _ _ h1 h'.lt h'.heap (by rw[Enc.eu,hsl]; rfl)
   show Own M' base T 2 (.slc b 0 xs.length (.op 2)) (aV.row (nY lt xs)) (nY lt xs).length
   rw[hsl]; exact hlast
end Go.Ab.Crw
namespace Go.Ab.ay
open Go Go.Ab
theorem aeJ {ps qs:List Pt} (h1:ps.length=16) (h2:qs.length=16) (h:∀ j,j<16→ps.getD j (0,[])=qs.getD j (0,[])) : ps=qs:=by
 refine List.ext_getElem (by omega) fun j hj hj'=>?_
 have:=h j (by omega)
 rw[List.getD_eq_getElem?_getD,List.getD_eq_getElem?_getD,List.getElem?_eq_getElem hj,List.getElem?_eq_getElem hj'] at this
 exact this
theorem U9:∀ {xs ys:List Nat},Asc xs→Asc ys→(∀ x,x∈xs↔x∈ys)→xs=ys
 | [],[],_,_,_=>rfl
 | [],y :: ys,_,_,h=>by have:=(h y).2 (by simp); simp at this
 | x :: xs,[],_,_,h=>by have:=(h x).1 (by simp); simp at this
 | x :: xs,y :: ys,h1,h2,h=>by
   have a1:=List.pairwise_cons.1 h1
   have a2:=List.pairwise_cons.1 h2
   have hxy:x=y:=by
    rcases List.mem_cons.1 ((h x).1 (by simp)) with e | e
    ·exact e
    ·rcases List.mem_cons.1 ((h y).2 (by simp)) with e' | e'
     ·exact e'.symm
     ·have:=a2.1 x e; have:=a1.1 y e'; omega
   subst hxy
   refine congrArg (x :: ·) (U9 a1.2 a2.2 fun z=>⟨fun hz=>?_,fun hz=>?_⟩)
   ·rcases List.mem_cons.1 ((h z).1 (by simp[hz])) with e | e
    ·subst e; have:=a1.1 z hz; omega
    ·exact e
   ·rcases List.mem_cons.1 ((h z).2 (by simp[hz])) with e | e
    ·subst e; have:=a2.1 z hz; omega
    ·exact e
theorem TT {u:Nat} {xs:List Nat} (h:∀ y∈xs,u + 1<y) : settle u xs=(u,xs):=by
 cases xs with
 | nil=>rfl
 | cons x xs =>
   have:=h x (by simp)
   unfold settle
   rw[dS,if_neg (by omega)]; rfl
theorem getD_set_ne {u:List Pt} {i j:Nat} {p:Pt} (h:i≠j) : (u.set i p).getD j (0,[])=u.getD j (0,[]):=by
 rw[List.getD_eq_getElem?_getD,List.getD_eq_getElem?_getD,List.getElem?_set_ne h]
theorem Dm (j:Nat) : jy.getD j (0,[])=(0,[]):=by
 rw[List.getD_eq_getElem?_getD]
 unfold jy
 by_cases h:j<16
 ·rw[List.getElem?_replicate,if_pos h]; rfl
 ·rw[List.getElem?_replicate,if_neg h]; rfl
theorem Xc {M:RM} {b o:Nat} {x:AV} {K:AV→Prop} (h:M.cell b o=some x) : az M (.ptr b o) K=K x:=by
 rw[gL,h]; simp
theorem and_false {c:Bool} {f:KR→Prop} {M:RM} {Z:AV→RM→Prop} (hf:c=true→∀ k:KR,k (Bo false) M none→f k) (hZ:Z (Bo false) M) :
  ae (Bo c) true f (fun k=>k .undef M none) (fun t M' b=>aL (Bo c) t (Bo false) fun t'=>Z t' M'):=by
 cases c with
 | false=>rw[jd]; dsimp only; rw[cz]; exact hZ
 | true=>rw[iK]; exact hf rfl _ (by rw[dN]; exact hZ)
end Go.Ab.ay
namespace Go.Ab.Crw
open Go Go.Ab Go.Ab.ay
theorem qA:∀ (x y:List UInt8),Op.bytesLess x y=decide (x<y)
 | [],[]=>by simp[Op.bytesLess]
 | _ :: _,[]=>by simp[Op.bytesLess]
 | [],_ :: _=>by simp[Op.bytesLess]
 | a :: x,b :: y=>by
   rw[Op.bytesLess,qA x y]
   simp only[List.cons_lt_cons_iff]
   by_cases h1:a<b <;> by_cases h2:a=b <;> by_cases h3:x<y <;> simp[h1,h2,h3]
structure LO {β:Type} (lt:β→β→Bool) : Prop where
 irrefl:∀ x,lt x x=false
 trans:∀ x y z,lt x y=true→lt y z=true→lt x z=true
 tri:∀ x y,lt x y=false→lt y x=false→x=y
def lex {α β:Type} [DecidableEq β] (k:α→β) (lt1:β→β→Bool) (lt2:α→α→Bool) (x y:α) : Bool:=lt1 (k x) (k y) || (decide (k x=k y) && lt2 x y)
theorem tK {α β:Type} [DecidableEq β] {k:α→β} {lt1:β→β→Bool} {lt2:α→α→Bool} (h1:LO lt1) (h2:Sort.SWO lt2) : Sort.SWO (lex k lt1 lt2) where
 irrefl x:=by simp[lex,h1.irrefl,h2.irrefl]
 trans x y z a b:=by
  simp only[lex,Bool.or_eq_true,Bool.and_eq_true,decide_eq_true_eq] at *
  rcases a with a | ⟨a,a'⟩ <;> rcases b with b | ⟨b,b'⟩
  ·exact .inl (h1.trans _ _ _ a b)
  ·exact .inl (by rw[← b]; exact a)
  ·exact .inl (by rw[a]; exact b)
  ·exact .inr ⟨a.trans b,h2.trans _ _ _ a' b'⟩
 ntrans x y z a b:=by
  simp only[lex,Bool.or_eq_false_iff,Bool.and_eq_false_iff,decide_eq_false_iff_not] at *
  obtain⟨a1,a2⟩:=a
  obtain⟨b1,b2⟩:=b
  have c1:lt1 (k x) (k z)=false:=by
   cases h:lt1 (k x) (k z) with
   | false=>rfl
   | true =>
     by_cases e:k x=k y
     ·rw[e,b1] at h; cases h
     ·have:lt1 (k y) (k x)=true:=by
       cases h' : lt1 (k y) (k x) with
       | true=>rfl
       | false=>exact absurd (h1.tri _ _ a1 h') e
      have:=h1.trans _ _ _ this h
      rw[b1] at this; cases this
  refine⟨c1, ?_⟩
  by_cases e:k x=k z
  ·right
   by_cases e2:k x=k y
   ·have e3:k y=k z:=e2.symm.trans e
    rcases a2 with a2 | a2
    ·exact absurd e2 a2
    ·rcases b2 with b2 | b2
     ·exact absurd e3 b2
     ·exact h2.ntrans _ _ _ a2 b2
   ·have h3:lt1 (k y) (k x)=false:=by rw[e]; exact b1
    exact absurd (h1.tri _ _ a1 h3) e2
  ·exact .inl e
theorem F9:LO (fun x y:Nat=>decide (x<y)):=⟨by simp,by simp; omega,by simp; omega⟩
theorem Gb:LO (fun x y:Int=>decide (x<y)):=⟨by simp,by simp; omega,by simp; omega⟩
theorem qz:LO (fun x y:List UInt8=>decide (x<y)) where
 irrefl x:=by simp[List.lt_irrefl]
 trans x y z h1 h2:=by simp only[decide_eq_true_eq] at *; exact List.lt_trans h1 h2
 tri x y h1 h2:=by
  simp only[decide_eq_false_iff_not,List.not_lt] at *
  exact List.le_antisymm h2 h1
theorem JJ {α:Type} : Sort.SWO (fun _ _:α=>false):=⟨fun _=>rfl,(fun _ _ _ h _=>by cases h),(fun _ _ _ _ _=>rfl)⟩
def pF:ay→ay→Bool:=lex (fun d:ay=>d.2) (fun x y:Nat=>decide (x<y)) (lex (fun d:ay=>d.1) (fun x y:Int=>decide (x<y)) fun _ _=>false)
def fO:aH→aH→Bool:=lex (fun x:aH=>x.2.1) (fun x y=>decide (x<y)) (lex (fun x:aH=>x.2.2.1) (fun x y=>decide (x<y)) (lex (fun x:aH=>x.1.2) (fun x y:Nat=>decide (x<y)) (lex (fun x:aH=>x.1.1) (fun x y:Int=>decide (x<y)) fun _ _=>false)))
theorem Hd:Sort.SWO pF:=tK F9 (tK Gb JJ)
theorem iJ:Sort.SWO fO:=tK qz (tK qz (tK F9 (tK Gb JJ)))
def c3 {β:Type} (lt:β→β→Bool) (x y:β) : Int:=if lt x y then -1 else if lt y x then 1 else 0
theorem aa7 {β:Type} {lt:β→β→Bool} (h:LO lt) (x y:β) : (c3 lt x y=-1∧lt x y=true∧x≠y)∨(c3 lt x y=1∧lt x y=false∧x≠y)∨(c3 lt x y=0∧lt x y=false∧x=y):=by
 unfold c3
 cases h1:lt x y with
 | true=>exact .inl ⟨rfl,rfl,fun e=>by rw[e,h.irrefl] at h1; cases h1⟩
 | false =>
   cases h2:lt y x with
   | true=>exact .inr (.inl ⟨rfl,rfl,fun e=>by rw[e,h.irrefl] at h2; cases h2⟩)
   | false=>exact .inr (.inr ⟨rfl,rfl,h.tri _ _ h1 h2⟩)
def EP (a b:Int) : Int:=if a≠0 then a else b
def Vn {α:Type} (lt:α→α→Bool) (f:α→α→Int) : Prop:=∀ x y,decide (f x y<0)=lt x y
theorem tH {α β:Type} [DecidableEq β] {k:α→β} {lt1:β→β→Bool} {lt2:α→α→Bool} {f:α→α→Int} (h1:LO lt1) (h2:Vn lt2 f) : Vn (lex k lt1 lt2) (fun x y=>EP (c3 lt1 (k x) (k y)) (f x y)):=by
 intro x y
 unfold lex
 show decide (EP (c3 lt1 (k x) (k y)) (f x y)<0)=_
 unfold EP
 rcases aa7 h1 (k x) (k y) with⟨a,b,c⟩ | ⟨a,b,c⟩ | ⟨a,b,c⟩
 ·rw[a,b]; rfl
 ·rw[a,b,decide_eq_false c]; rfl
 ·rw[a,b,decide_eq_true c,if_neg (by simp),h2 x y]; rfl
theorem Kh {α:Type} : Vn (fun _ _:α=>false) (fun _ _=>0):=fun _ _=>rfl
def wD {α:Type} (mk:α→AV) (lt:α→α→Bool) (c:ai) : Prop:=∀ {M:RM} {x y:α} {Q:ak},Q (N .i64 (c3 lt x y)) M→c [mk x,mk y] M Q
def DL {α:Type} (mk:α→AV) (c:ai) : Prop:=∀ {M:RM} {x:α} {Q:ak},Q (Bo false) M→c [mk x] M Q
theorem Yy:DL (α:=List UInt8) (fun s=>St s) fun args M Q=>∃ a0,args=[a0]∧wB a0 M Q:=by
 intro M x Q hQ
 refine⟨_,rfl, ?_⟩
 unfold wB
 rw[jF,show(x != x)=false by simp]
 exact hQ
theorem YN:DL (α:=Nat) (fun n=>N .u64 (n:Int)) fun args M Q=>∃ a0,args=[a0]∧ay.qE a0 M Q:=by
 intro M x Q hQ
 exact⟨_,rfl,KM hQ⟩
theorem YR:DL (α:=Int) (fun n=>N .i64 n) fun args M Q=>∃ a0,args=[a0]∧BL a0 M Q:=by
 intro M x Q hQ
 refine⟨_,rfl, ?_⟩
 unfold BL
 rw[iT,show(x != x)=false by simp]
 exact hQ
theorem Y6 {cn:ai} (hn:DL (α:=List UInt8) (fun s=>St s) cn) : wD (α:=List UInt8) (fun s=>St s) (fun x y=>decide (x<y)) fun args M Q=>∃ a0 a1,args=[a0,a1]∧sI cn a0 a1 M Q:=by
 intro M x y Q hQ
 refine⟨_,_,rfl, ?_⟩
 unfold sI
 refine hn (hn ?_)
 rw[bz,bz,Jy,qA]
 unfold c3 at hQ
 by_cases h1:x<y
 ·rw[decide_eq_true h1,cO]
  rw[if_pos (by simpa using h1)] at hQ; exact hQ
 ·rw[decide_eq_false h1,bz,aaI,qA,decide_eq_false h1,Bool.false_or]
  rw[if_neg (by simpa using h1)] at hQ
  by_cases h2:y<x
  ·have hne:x≠y:=fun e=>by subst e; exact List.lt_irrefl _ h2
   rw[show(x == y)=false by simpa using hne,Bool.not_false,cO]
   rw[if_pos (by simpa using h2)] at hQ; exact hQ
  ·have he:x=y:=qz.tri x y (by simpa using h1) (by simpa using h2)
   rw[show(x == y)=true by simpa using he,Bool.not_true,bz]
   rw[if_neg (by simpa using h2)] at hQ; exact hQ
theorem Zk {cn:ai} (hn:DL (α:=Nat) (fun n=>N .u64 (n:Int)) cn) : wD (α:=Nat) (fun n=>N .u64 (n:Int)) (fun x y=>decide (x<y)) fun args M Q=>∃ a0 a1,args=[a0,a1]∧sN cn a0 a1 M Q:=by
 intro M x y Q hQ
 refine⟨_,_,rfl, ?_⟩
 unfold sN
 refine hn (hn ?_)
 rw[bz,bz,dD]
 unfold c3 at hQ
 by_cases h1:x<y
 ·rw[show decide ((x:Int)<(y:Int))=true by simpa using h1,cO]
  rw[if_pos (by simpa using h1)] at hQ; exact hQ
 ·rw[show decide ((x:Int)<(y:Int))=false by simpa using h1,bz,iQ]
  rw[if_neg (by simpa using h1)] at hQ
  by_cases h2:y<x
  ·rw[show decide ((x:Int) > (y:Int))=true by simpa using h2,cO]
   rw[if_pos (by simpa using h2)] at hQ; exact hQ
  ·rw[show decide ((x:Int) > (y:Int))=false by simpa using h2,bz]
   rw[if_neg (by simpa using h2)] at hQ; exact hQ
theorem Yx {cn:ai} (hn:DL (α:=Int) (fun n=>N .i64 n) cn) : wD (α:=Int) (fun n=>N .i64 n) (fun x y=>decide (x<y)) fun args M Q=>∃ a0 a1,args=[a0,a1]∧xM cn a0 a1 M Q:=by
 intro M x y Q hQ
 refine⟨_,_,rfl, ?_⟩
 unfold xM
 refine hn (hn ?_)
 rw[bz,bz,dD]
 unfold c3 at hQ
 by_cases h1:x<y
 ·rw[show decide (x<y)=true by simpa using h1,cO]
  rw[if_pos (by simpa using h1)] at hQ; exact hQ
 ·rw[show decide (x<y)=false by simpa using h1,bz,iQ]
  rw[if_neg (by simpa using h1)] at hQ
  by_cases h2:y<x
  ·rw[show decide (x > y)=true by simpa using h2,cO]
   rw[if_pos (by simpa using h2)] at hQ; exact hQ
  ·rw[show decide (x > y)=false by simpa using h2,bz]
   rw[if_neg (by simpa using h2)] at hQ; exact hQ
def INT:Enc Int:=⟨1,fun n=>[N .i64 n],fun _=>rfl,fun _=>rfl⟩
def JI:List Int→Int
 | []=>0
 | x :: xs=>EP x (JI xs)
def Yz (c:ai) : Prop:=∀ {M:RM} {v:AV} {xs:List Int} {Q:ak},Sl INT M v xs→xs.length≤100→Q (N .i64 (JI xs)) M→c [v] M Q
theorem ab4:Yz fun args M Q=>∃ a0,args=[a0]∧JU a0 M Q:=by
 intro M v xs Q hs hl hQ
 refine⟨_,rfl, ?_⟩
 unfold JU
 rw[aR.len hs]
 refine aG (fun m ys M3=>∃ i:Nat,m=xs.length - i∧ys=[N .i64 (i:Int)]∧i≤xs.length∧M3=M∧JI xs=JI (xs.drop i)) _ ⟨0,rfl,rfl,Nat.zero_le _,rfl,rfl⟩ ?_
 rintro next m ys M3 hnext ⟨i,rfl,rfl,hi,rfl,hm⟩
 dsimp only[aa]
 rw[dD]
 refine aD (fun hlt=>?_) (fun hge=>?_)
 ·have hlt:i<xs.length:=by simpa using hlt
  obtain⟨b1,o1,_,_,yJ,hc1⟩:=Sl.Gd (E:=INT) hs (i:Int) hlt
  rw[yJ,Xc (hc1 _ rfl),iT]
  rw[List.drop_eq_getElem_cons hlt,JI,EP] at hm
  by_cases h0:xs[i]=0
  ·rw[show(xs[i] != 0)=false by simp[h0],bz,cZ,fZ (by omega)]
   rw[if_neg (by simp[h0])] at hm
   exact hnext _ _ _ (by omega) ⟨i + 1,rfl,rfl,hlt,rfl,hm⟩
  ·rw[show(xs[i] != 0)=true by simp[h0],cO]
   rw[if_pos (by simp[h0])] at hm
   rw[hm] at hQ
   exact hQ
 ·have he:i=xs.length:=by simp at hge; omega
  subst he
  rw[List.drop_length] at hm
  rw[hm] at hQ
  exact hQ
theorem abP {T:Nat} {M:RM} {x y:Int} {K:RB→(Nat→AV)→Prop} : dW T 2 [(N .i64 0)] [(0,1,N .i64 x),(1,1,N .i64 y)] K=K (.row [N .i64 x,N .i64 y] false T 0) (fun b=>.slc b 0 2 (.ex 2)):=by
 apply propext; unfold dW
 constructor
 ·rintro⟨l,h,hk⟩; cases h; exact hk
 ·intro hk; exact⟨_,rfl,hk⟩
theorem aev {T:Nat} {M:RM} {x y z:Int} {K:RB→(Nat→AV)→Prop} : dW T 3 [(N .i64 0)] [(0,1,N .i64 x),(1,1,N .i64 y),(2,1,N .i64 z)] K=K (.row [N .i64 x,N .i64 y,N .i64 z] false T 0) (fun b=>.slc b 0 3 (.ex 3)):=by
 apply propext; unfold dW
 constructor
 ·rintro⟨l,h,hk⟩; cases h; exact hk
 ·intro hk; exact⟨_,rfl,hk⟩
def f3D (x y:ay) : Int:=EP (c3 (fun x y:Nat=>decide (x<y)) x.2 y.2) (EP (c3 (fun x y:Int=>decide (x<y)) x.1 y.1) 0)
def f3E (x y:aH) : Int:=EP (c3 (fun x y:List UInt8=>decide (x<y)) x.2.1 y.2.1) (EP (c3 (fun x y:List UInt8=>decide (x<y)) x.2.2.1 y.2.2.1) (f3D x.1 y.1))
theorem agS:Vn pF f3D:=tH (k:=fun d:ay=>d.2) F9 (tH (k:=fun d:ay=>d.1) Gb Kh)
theorem ag1:Vn fO f3E:=tH (k:=fun x:aH=>x.2.1) qz (tH (k:=fun x:aH=>x.2.2.1) qz (tH (k:=fun x:aH=>x.1.2) F9 (tH (k:=fun x:aH=>x.1.1) Gb Kh)))
def KC (c:ai) : Prop:=∀ {M:RM} {x y:ay} {Q:ak},(∀ M',ag [] M M'→Q (N .i64 (f3D x y)) M')→c [.agg (aO x),.agg (aO y)] M Q
theorem Xf {TD TI:Nat} {cu ci co:ai} (hu:wD (α:=Nat) (fun n=>N .u64 (n:Int)) (fun x y=>decide (x<y)) cu) (hi:wD (α:=Int) (fun n=>N .i64 n) (fun x y=>decide (x<y)) ci) (ho:Yz co) :
  KC fun args M Q=>∃ a0 a1,args=[a0,a1]∧NG TD cu ci TI co a0 a1 M Q:=by
 intro M x y Q hQ
 refine⟨_,_,rfl, ?_⟩
 unfold NG
 rw[dJ rfl (by simp),aX,dJ rfl (by simp),aX]
 have k1:ag [] M (M.push (.row (aO x) false TD 0)):=(ag.refl _ _).push _
 have k2:ag [] M ((M.push (.row (aO x) false TD 0)).push (.row (aO y) false TD 0)):=k1.push _
 have h2:((M.push (.row (aO x) false TD 0)).push (.row (aO y) false TD 0)).heap (M.push (.row (aO x) false TD 0)).next=some (.row (aO y) false TD 0):=RM.aQ _
 have h1:((M.push (.row (aO x) false TD 0)).push (.row (aO y) false TD 0)).heap M.next=some (.row (aO x) false TD 0):=iV (RM.aQ _) (by simp[RM.push])
 generalize (M.push (.row (aO x) false TD 0)).push (.row (aO y) false TD 0)=M2 at *
 generalize (M.push (.row (aO x) false TD 0)).next=s at *
 rw[bJ,aA h1 rfl,bJ,aA h2 rfl,bJ,aA h1 rfl,bJ,aA h2 rfl]
 refine hu ?_
 rw[aA h1 rfl]
 refine⟨rfl, ?_⟩
 rw[aA h2 rfl]
 refine⟨rfl, ?_⟩
 refine hi ?_
 rw[abP (M:=M2),nL]
 refine ho (xs:=[_,_]) ?_ (by simp) (hQ _ (k2.push _))
 exact Sl.new (E:=INT) [_,_]
def J8 (c:ai) : Prop:=∀ {M:RM} {x y:aH} {Q:ak},(∀ M',ag [] M M'→Q (N .i64 (f3E x y)) M')→c [.agg (aF.cells x),.agg (aF.cells y)] M Q
theorem Ta {TE TI:Nat} {cs cd co:ai} (hs:wD (α:=List UInt8) (fun s=>St s) (fun x y=>decide (x<y)) cs) (hd:KC cd) (ho:Yz co) :
  J8 fun args M Q=>∃ a0 a1,args=[a0,a1]∧Gv TE cs cd TI co a0 a1 M Q:=by
 intro M x y Q hQ
 refine⟨_,_,rfl, ?_⟩
 unfold Gv
 rw[dJ rfl (by rw[aF.len]; decide),aX,dJ rfl (by rw[aF.len]; decide),aX]
 have k1:ag [] M (M.push (.row (aF.cells x) false TE 0)):=(ag.refl _ _).push _
 have k2:ag [] M ((M.push (.row (aF.cells x) false TE 0)).push (.row (aF.cells y) false TE 0)):=k1.push _
 have h2:((M.push (.row (aF.cells x) false TE 0)).push (.row (aF.cells y) false TE 0)).heap (M.push (.row (aF.cells x) false TE 0)).next=some (.row (aF.cells y) false TE 0):=RM.aQ _
 have h1:((M.push (.row (aF.cells x) false TE 0)).push (.row (aF.cells y) false TE 0)).heap M.next=some (.row (aF.cells x) false TE 0):=iV (RM.aQ _) (by simp[RM.push])
 have n1:M.next<((M.push (.row (aF.cells x) false TE 0)).push (.row (aF.cells y) false TE 0)).next:=by simp[RM.push]; omega
 have n2:(M.push (.row (aF.cells x) false TE 0)).next<((M.push (.row (aF.cells x) false TE 0)).push (.row (aF.cells y) false TE 0)).next:=by simp[RM.push]
 generalize (M.push (.row (aF.cells x) false TE 0)).push (.row (aF.cells y) false TE 0)=M2 at *
 generalize (M.push (.row (aF.cells x) false TE 0)).next=s at *
 have ld:∀ {M' : RM} {b:Nat} {z:aH},M'.heap b=some (.row (aF.cells z) false TE 0)→∀ K:AV→Prop,av M' (.ptr b 0) 2 K=K (.agg (aO z.1)):=fun {M' b z} h K=>by
  rw[dQ,RM.dF h (by show 0 + 2≤5; decide)]
  simp[aF]
 rw[bJ,aA h1 rfl,bJ,aA h2 rfl,bJ,aA h1 rfl,bJ,aA h2 rfl,bJ,ld h1,bJ,ld h2]
 refine hs ?_
 rw[aA h1 rfl]
 refine⟨rfl, ?_⟩
 rw[aA h2 rfl]
 refine⟨rfl, ?_⟩
 rw[ld h1]
 refine⟨rfl, ?_⟩
 rw[ld h2]
 refine⟨rfl, ?_⟩
 refine hs ?_
 rw[ld h1]
 refine⟨rfl, ?_⟩
 rw[ld h2]
 refine⟨rfl, ?_⟩
 refine hd fun M3 k3=>?_
 rw[aev (M:=M3),nL]
 refine ho (xs:=[_,_,_]) (Sl.new (E:=INT) [_,_,_]) (by simp) ?_
 have e:JI [c3 (fun x y:List UInt8=>decide (x<y)) x.2.1 y.2.1,c3 (fun x y:List UInt8=>decide (x<y)) x.2.2.1 y.2.2.1,f3D x.1 y.1]=f3E x y:=by
  simp only[JI,f3E]
  congr 2
  unfold EP; split <;> simp_all
 rw[e]
 exact hQ _ ((k2.trans k3).push _)
theorem acs {cv:FuncId→ai} {n:Nat} (h:J8 (cv n)) : iR aF fO (bD cv (.fn (.func n) [] [])):=by
 intro M x y Q hQ
 exact⟨n,[],[],rfl,h fun M' k=>hQ _ _ (ag1 x y) k⟩
theorem acr {cv:FuncId→ai} {n:Nat} (h:KC (cv n)) : iR aV pF (bD cv (.fn (.func n) [] [])):=by
 intro M x y Q hQ
 exact⟨n,[],[],rfl,h fun M' k=>hQ _ _ (agS x y) k⟩
abbrev lh:=ay × (Int × (List UInt8 × (List UInt8 × List UInt8)))
def EvE:Enc lh:=⟨6,fun e=>aO e.1++[N .i64 e.2.1,St e.2.2.1,St e.2.2.2.1,St e.2.2.2.2],fun _=>rfl,fun _=>rfl⟩
abbrev bg (e:lh) (kv:AV) : List AV:=EvE.cells e++[kv]
theorem Qr {M:RM} {c p:Bool} {f:KR→Prop} {P:RM→Prop} {G:AV→RM→Prop} (h0:P M) (hf:c=false→∀ k:KR,(∀ M',P M'→k (Bo p) M' none)→f k) (hG:∀ M',P M'→G (Bo (c || p)) M') :
  ae (Bo c) false f (fun k=>k .undef M none) (fun t M' b=>aL (Bo c) (Bo true) t fun u=>G u M'):=by
 cases c with
 | true=>rw[FI]; dsimp only; rw[dN]; exact hG M h0
 | false=>rw[AY]; exact hf rfl _ fun M' h=>by rw[cz]; exact hG M' h
theorem Dt {M:RM} {c p:Bool} {f:ak→Prop} {G:AV→RM→Prop} (hf:c=false→∀ k:ak,k (Bo p) M→f k) (hG:G (Bo (c || p)) M) :
  aj (Bo c) false f (fun k=>k .undef M) (fun t M'=>aL (Bo c) (Bo true) t fun u=>G u M'):=by
 cases c with
 | true=>rw[mF]; dsimp only; rw[dN]; exact hG
 | false=>rw[iE]; exact hf rfl _ (by rw[cz]; exact hG)
theorem abF {M:RM} {c q r:Bool} {f0:KR→Prop} {f:RM→KR→Prop} {P:RM→Prop} {G:AV→RM→Prop} (h0:P M) (hf0:c=false→∀ k:KR,k (Bo q) M none→f0 k) (hf:c=false→q=true→∀ k:KR,(∀ M',P M'→k (Bo r) M' none)→f M k) (hG:∀ M',P M'→G (Bo (c || (q && r))) M') :
  ae (Bo c) false f0 (fun k=>k .undef M none) fun t45 M1 b1=>ae t45 true (f M1) (fun k=>k .undef M1 none) fun t54 M2 b2=>ae (Bo c) false (fun k3=>aL t45 t54 (Bo false) fun t55=>k3 t55 M2 none) (fun k=>k .undef M2 none) fun t55 M3 b3=>aL (Bo c) (Bo true) t55 fun t56=>G t56 M3:=by
 cases c with
 | true=>rw[FI]; dsimp only; rw[QB]; dsimp only; rw[FI]; dsimp only; rw[dN]; exact hG M h0
 | false =>
   rw[AY]
   refine hf0 rfl _ ?_
   cases q with
   | false=>rw[jd]; dsimp only; rw[AY]; dsimp only; rw[cz,cz]; exact hG M h0
   | true =>
     rw[iK]
     refine hf rfl rfl _ fun M' h=>?_
     rw[AY]; dsimp only; rw[dN,cz]; exact hG M' h
theorem PY {M:RM} {c q r:Bool} {f0:ak→Prop} {f:RM→ak→Prop} {G:AV→RM→Prop} (hf0:c=false→∀ k:ak,k (Bo q) M→f0 k) (hf:c=false→q=true→∀ k:ak,k (Bo r) M→f M k) (hG:G (Bo (c || (q && r))) M) :
  aj (Bo c) false f0 (fun k=>k .undef M) fun t45 M1=>aj t45 true (f M1) (fun k=>k .undef M1) fun t54 M2=>aj (Bo c) false (fun k3=>aL t45 t54 (Bo false) fun t55=>k3 t55 M2) (fun k=>k .undef M2) fun t55 M3=>aL (Bo c) (Bo true) t55 fun t56=>G t56 M3:=by
 cases c with
 | true=>rw[mF]; dsimp only; rw[DN]; dsimp only; rw[mF]; dsimp only; rw[dN]; exact hG
 | false =>
   rw[iE]
   refine hf0 rfl _ ?_
   cases q with
   | false=>rw[bI]; dsimp only; rw[iE]; dsimp only; rw[cz,cz]; exact hG
   | true =>
     rw[cB]
     refine hf rfl rfl _ ?_
     rw[iE]; dsimp only; rw[dN,cz]; exact hG
def nX (a b:ay) : Bool:=decide (a.2<b.2) || (decide (a.2=b.2) && decide (a.1<b.1))
def wV (c:ai) : Prop:=∀ {M:RM} {a b:ay} {Q:ak},(∀ M',ag [] M M'→Q (Bo (nX a b)) M')→c [.agg (aO a),.agg (aO b)] M Q
theorem Pb {M1:RM} {T m1 m2:Nat} {a b:ay} {K:AV→RM→Prop} (h1:M1.heap m1=some (.row (aO a) false T 0)) (h2:M1.heap m2=some (.row (aO b) false T 0)) (hK:K (Bo (nX a b)) M1) :
  aJ (.ptr m1 0) 1 fun t5=>az M1 t5 fun t6=>aJ (.ptr m2 0) 1 fun t7=>az M1 t7 fun t8=>af .lss t6 t8 fun t9 =>
  aj t9 false (fun k'=>aJ (.ptr m1 0) 1 fun UQ=>az M1 UQ fun t12=>aJ (.ptr m2 0) 1 fun t13=>az M1 t13 fun t14=>af .eql t12 t14 fun t15=>k' t15 M1) (fun k=>k .undef M1) fun t16 WC =>
  aj t16 true (fun k'=>aJ (.ptr m1 0) 0 fun t17=>az WC t17 fun t18=>aJ (.ptr m2 0) 0 fun t19=>az WC t19 fun t20=>af .lss t18 t20 fun t21=>k' t21 WC) (fun k=>k .undef WC) fun adL adO =>
  aj t9 false (fun af5=>aL t16 adL (Bo false) fun t22=>af5 t22 adO) (fun k=>k .undef adO) fun adG afW =>
  aL t9 (Bo true) adG fun t23=>K t23 afW:=by
 rw[bJ,aA h1 rfl,bJ,aA h2 rfl,dD,show decide ((a.2:Int)<(b.2:Int))=decide (a.2<b.2) by simp]
 refine PY (q:=decide (a.2=b.2)) (r:=decide (a.1<b.1)) (fun _ k hk=>?_) (fun _ _ k hk=>?_) hK
 ·rw[bJ,aA h1 rfl,bJ,aA h2 rfl,bV,show((a.2:Int) == (b.2:Int))=decide (a.2=b.2) by by_cases h:a.2=b.2 <;> simp[h]; omega]
  exact hk
 ·rw[bJ,aA h1 rfl,bJ,aA h2 rfl,dD]
  exact hk
theorem Xi {T:Nat} : wV fun args M Q=>∃ a0 a1,args=[a0,a1]∧Qu T a0 a1 M Q:=by
 intro M a b Q hQ
 refine⟨_,_,rfl, ?_⟩
 unfold Qu
 simp only[iN]
 rw[dJ rfl (by simp),aX,dJ rfl (by simp),aX]
 exact Pb (iV (RM.aQ _) (by simp[RM.push])) (RM.aQ _) (hQ _ (((ag.refl _ _).push _).push _))
theorem SQ {T:Nat} : wV fun args M Q=>∃ a0 a1,args=[a0,a1]∧Jo T a0 a1 M Q:=by
 intro M a b Q hQ
 refine⟨_,_,rfl, ?_⟩
 unfold Jo
 simp only[iN]
 rw[dJ rfl (by simp),aX,dJ rfl (by simp),aX]
 exact Pb (iV (RM.aQ _) (by simp[RM.push])) (RM.aQ _) (hQ _ (((ag.refl _ _).push _).push _))
def names (c f v:List UInt8) : Bool:=decide (1≤c.length) && decide (c.length≤64) && decide (f.length≤64) && decide (v.length≤512)
def adE:Option ay→ay→Bool
 | none,_=>true
 | some q,k=>nX q k
def gN (d:ay) (p:Option ay) : List ay→Bool
 | []=>true
 | k :: ks=>good k && !decide (k=d) && adE p k && gN d (some k) ks
def BR (e:lh) : Bool:=(decide (e.2.1=1) && decide (e.2.2.2.1≠[])) || (decide (e.2.1=2) && decide (e.2.2.2.2=[]))
def di (e:lh) (ks:List ay) : Bool:=good e.1 && names e.2.2.1 e.2.2.2.1 e.2.2.2.2 && decide (ks.length≤64) && gN e.1 none ks && BR e
def Qw (c:ai) : Prop:=∀ {M:RM} {x y z:List UInt8} {Q:ak},Q (Bo (names x y z)) M→c [St x,St y,St z] M Q
theorem Xq:Qw fun args M Q=>∃ a0 a1 a2,args=[a0,a1,a2]∧BS a0 a1 a2 M Q:=by
 intro M x y z Q hQ
 refine⟨_,_,_,rfl, ?_⟩
 unfold BS
 simp only[iN]
 rw[nU,fU]
 refine andM (p:=decide (x.length≤64)) (fun _ k hk=>?_) ?_
 ·rw[nU,kH,show decide ((x.length:Int)≤64)=decide (x.length≤64) by simp; omega]; exact hk
 refine andM (p:=decide (y.length≤64)) (fun _ k hk=>?_) ?_
 ·rw[nU,kH,show decide ((y.length:Int)≤64)=decide (y.length≤64) by simp; omega]; exact hk
 refine andM (p:=decide (z.length≤512)) (fun _ k hk=>?_) ?_
 ·rw[nU,kH,show decide ((z.length:Int)≤512)=decide (z.length≤512) by simp; omega]; exact hk
 rw[show decide ((x.length:Int) ≥ 1)=decide (1≤x.length) by simp; omega]
 exact hQ
def vN (c:ai) : Prop:=∀ {M:RM} {e:lh} {kv:AV} {ks:List ay} {Q:ak},Sl aV M kv ks→(∀ M',ag [] M M'→Q (Bo (di e ks)) M')→c [.agg (bg e kv)] M Q
theorem yL {M:RM} {b T:Nat} {e:lh} {kv:AV} (h:M.heap b=some (.row (bg e kv) false T 0)) {K:AV→Prop} : av M (.ptr b 0) 2 K=K (.agg (aO e.1)):=by
 have e2:((bg e kv).drop 0).take 2=aO e.1:=rfl
 rw[dQ,RM.dF h (by show 0 + 2≤7; decide),e2]
 simp
theorem xH {M:RM} {e:lh} {kv:AV} {ks:List ay} (h:Sl aV M kv ks) : (bg e kv).all oneCell=true:=by
 rw[List.all_append,EvE.one,List.all_cons,aR.one h]; rfl
theorem tY {M:RM} {kv:AV} {ks:List ay} (h:Sl aV M kv ks) {i:Nat} (hi:i<ks.length) {kd:IntKind} {K:AV→Prop} : (ah kv (N kd (i:Int)) 2 fun p=>av M p 2 K)=K (.agg (aO ks[i])):=by
 obtain⟨b,o,_,_,hidx,hld⟩:=Sl.at (E:=aV) (i:=i) h 2 (i:Int) hi rfl rfl
 rw[hidx,dQ,hld]
 simp[aV]
def Bp (ks:List ay) (i:Nat) : Option ay:=if i=0 then none else ks[i - 1]?
theorem Fz {d:ay} {ks:List ay} {i:Nat} (hi:i<ks.length) : gN d (Bp ks i) (ks.drop i) =
  (good ks[i] && !decide (ks[i]=d) && (if h:0<i then nX (ks[i - 1]'(by omega)) ks[i] else true) && gN d (Bp ks (i + 1)) (ks.drop (i + 1))):=by
 rw[List.drop_eq_getElem_cons hi,gN]
 have e2:Bp ks (i + 1)=some ks[i]:=by rw[Bp,if_neg (by omega),Nat.add_sub_cancel,List.getElem?_eq_getElem hi]
 rw[e2]
 by_cases h0:i=0
 ·subst h0; rfl
 ·have e1:Bp ks i=some (ks[i - 1]'(by omega)):=by rw[Bp,if_neg h0,List.getElem?_eq_getElem (by omega)]
  rw[e1,dif_pos (by omega)]; rfl
theorem Uc {TE TD:Nat} {cg cn cl:ai} (hg:Bv cg) (hn:Qw cn) (hl:wV cl) : vN fun args M Q=>∃ a0,args=[a0]∧SF TE cg cn TD cl a0 M Q:=by
 intro M0 e kv ks Q hs0 hQ
 refine⟨_,rfl, ?_⟩
 unfold SF
 simp only[iN,dP,dz,dK]
 rw[dJ (xH hs0) (by simp),aX]
 have k0:ag [] M0 (M0.push (.row (bg e kv) false TE 0)):=(ag.refl _ _).push _
 have h0:(M0.push (.row (bg e kv) false TE 0)).heap M0.next=some (.row (bg e kv) false TE 0):=RM.aQ _
 have hlt:M0.next<(M0.push (.row (bg e kv) false TE 0)).next:=by simp[RM.push]
 have hs:=aR.keep hs0 k0 (by simp)
 generalize M0.push (.row (bg e kv) false TE 0)=M at *
 generalize M0.next=b at *
 have hs:Sl aV M kv ks:=hs
 rw[bJ,yL h0]
 refine hg fun M1 k1=>?_
 have h1:=k1.aK h0 hlt (by simp)
 have s1:Sl aV M1 kv ks:=aR.keep hs k1 (by simp)
 rw[bu]
 refine Dt (p:=!names e.2.2.1 e.2.2.2.1 e.2.2.2.2) (fun _ k hk=>?_) ?_
 ·rw[bJ,aA h1 rfl,bJ,aA h1 rfl,bJ,aA h1 rfl]
  refine hn ?_
  rw[bu]
  exact hk
 refine Dt (p:=decide (ks.length > 64)) (fun _ k hk=>?_) ?_
 ·rw[bJ,aA h1 rfl,aR.len s1,iQ,show decide ((ks.length:Int) > 64)=decide (ks.length > 64) by simp; omega]
  exact hk
 refine aD (fun hc=>?_) (fun hc=>?_)
 ·have:di e ks=false:=by
   unfold di
   simp only[Bool.or_eq_true,Bool.not_eq_true',decide_eq_true_eq] at hc
   rcases hc with(hc | hc) | hc
   ·rw[hc]; rfl
   ·rw[hc,Bool.and_false]; rfl
   ·rw[decide_eq_false (show ¬ (ks.length≤64) by omega),Bool.and_false]; rfl
  rw[this] at hQ
  exact hQ M1 (k0.trans k1)
 simp only[Bool.or_eq_false_iff,Bool.not_eq_false',decide_eq_false_iff_not] at hc
 obtain⟨⟨hc1,hc2⟩,hc3⟩:=hc
 have oZ:di e ks=(gN e.1 none ks && BR e):=by
  unfold di
  rw[hc1,hc2,decide_eq_true (show(ks.length≤64) by omega)]; simp
 rw[bJ,aA h1 rfl,aR.len s1]
 refine aG (fun m ys M3=>∃ i:Nat,m=ks.length - i∧ys=[N .i64 (i:Int)]∧i≤ks.length∧ag [] M1 M3∧gN e.1 none ks=gN e.1 (Bp ks i) (ks.drop i)) _ ⟨0,rfl,rfl,Nat.zero_le _,ag.refl _ _,rfl⟩ ?_
 rintro next m ys M3 hnext ⟨i,rfl,rfl,hi,k3,hm⟩
 dsimp only[aa]
 have n1:=k1.next
 have h3:=k3.aK h1 (by omega) (by simp)
 have s3:Sl aV M3 kv ks:=aR.keep s1 k3 (by simp)
 have kk3:=(k0.trans k1).trans k3
 rw[dC]
 refine aD (fun hlt2=>?_) (fun hge=>?_)
 ·have hlt2:i<ks.length:=of_decide_eq_true hlt2
  rw[Fz hlt2] at hm
  rw[tY s3 hlt2,aX,dh (n:=2) (x:=.agg (aO ks[i])) (l:=[N .i64 0,N .u64 0]) (RM.aQ _) rfl rfl rfl]
  have k4:ag [] M3 ((M3.push (.row [N .i64 0,N .u64 0] false TD 0)).put M3.next (.row (AV.agg (aO ks[i])).cells false TD 0)):=((ag.refl _ _).push _).new _ (Nat.le_refl _)
  have hk4:((M3.push (.row [N .i64 0,N .u64 0] false TD 0)).put M3.next (.row (AV.agg (aO ks[i])).cells false TD 0)).heap M3.next=some (.row (aO ks[i]) false TD 0):=aN _
  have hn4:M3.next<((M3.push (.row [N .i64 0,N .u64 0] false TD 0)).put M3.next (.row (AV.agg (aO ks[i])).cells false TD 0)).next:=by simp[RM.push,RM.put]
  generalize (M3.push (.row [N .i64 0,N .u64 0] false TD 0)).put M3.next (.row (AV.agg (aO ks[i])).cells false TD 0)=M4 at *
  generalize M3.next=s at *
  rw[bS (n:=2) hk4 rfl]
  refine hg fun M5 k5=>?_
  have hk5:=k5.aK hk4 hn4 (by simp)
  have h5:=(k4.trans k5).aK h3 (by have:=k3.next; omega) (by simp)
  have s5:Sl aV M5 kv ks:=aR.keep s3 (k4.trans k5) (by simp)
  have kk5:=(k3.trans k4).trans k5
  rw[bu]
  refine Qr (P:=fun M'=>M'=M5) (p:=decide (ks[i]=e.1)) rfl (fun _ k hk=>?_) fun M' hM'=>?_
  ·rw[bS (n:=2) hk5 rfl,bJ,yL h5,kY rfl rfl (Az _ _),Bool.bne_false]
   exact hk M5 rfl
  subst hM'
  refine abF (P:=fun M6=>ag [] M1 M6) (q:=decide (i > 0)) (r:=!(if h:0<i then nX (ks[i - 1]'(by omega)) ks[i] else true)) kk5 (fun _ k hk=>?_) (fun _ hq k hk=>?_) fun M6 k6=>?_
  ·rw[show(0:Int)=((0:Nat) : Int) from rfl,lX]
   exact hk
  ·have hq:0<i:=of_decide_eq_true hq
   rw[bJ,aA h5 rfl,aZ (by omega) (by omega),tY s5 (by omega),bS (n:=2) hk5 rfl]
   refine hl fun M7 k7=>?_
   rw[bu,← dif_pos (c:=0<i) (t:=fun h=>nX (ks[i - 1]'(by omega)) ks[i]) (e:=fun _=>true) hq]
   exact hk M7 (kk5.trans k7)
  refine aD (fun hb=>?_) (fun hb=>?_)
  ·have:gN e.1 none ks=false:=by
    rw[hm]
    simp only[Bool.or_eq_true,Bool.and_eq_true,Bool.not_eq_true',decide_eq_true_eq] at hb
    rcases hb with(hb | hb) | ⟨_,hb⟩
    ·rw[hb]; rfl
    ·rw[show decide (ks[i]=e.1)=true by simpa using hb]; simp
    ·rw[hb]; simp
   rw[oZ,this] at hQ
   exact hQ M6 ((k0.trans k1).trans k6)
  ·rw[add1 (by omega)]
   refine hnext _ _ _ (by omega) ⟨i + 1,rfl,rfl,by omega,k6, ?_⟩
   simp only[Bool.or_eq_false_iff,Bool.and_eq_false_iff,Bool.not_eq_false',decide_eq_false_iff_not] at hb
   obtain⟨⟨hb1,hb2⟩,hb3⟩:=hb
   rw[hm,hb1,show decide (ks[i]=e.1)=false by simpa using hb2]
   rcases hb3 with hb3 | hb3
   ·rw[dif_neg hb3]; simp
   ·rw[hb3]; simp
 ·have he:i=ks.length:=by
   have:¬ i<ks.length:=of_decide_eq_false hge
   omega
  subst he
  rw[List.drop_length,gN] at hm
  rw[oZ,hm,Bool.true_and] at hQ
  have op1:∀ n:Int,((e.2.1:Int) == n)=decide (e.2.1=n):=fun n=>by by_cases h:e.2.1=n <;> simp[h]
  rw[bJ,aA h3 rfl,bV,op1]
  refine andM (p:=decide (e.2.2.2.1≠[])) (fun _ k hk=>?_) ?_
  ·rw[bJ,aA h3 rfl,jF,show(e.2.2.2.1 != [])=decide (e.2.2.2.1≠[]) by by_cases h:e.2.2.2.1=[] <;> simp[h]]
   exact hk
  refine PY (q:=decide (e.2.1=2)) (r:=decide (e.2.2.2.2=[])) (fun _ k hk=>?_) (fun _ _ k hk=>?_) (hQ M3 kk3)
  ·rw[bJ,aA h3 rfl,bV,op1]
   exact hk
  ·rw[bJ,aA h3 rfl,Ah,show(e.2.2.2.2 == [])=decide (e.2.2.2.2=[]) by by_cases h:e.2.2.2.2=[] <;> simp[h]]
   exact hk
theorem Mr {TE:Nat} {cg cl:ai} (hg:Bv cg) (hl:wV cl) : vN fun args M Q=>∃ a0,args=[a0]∧BU TE cg cl a0 M Q:=by
 intro M0 e kv ks Q hs0 hQ
 refine⟨_,rfl, ?_⟩
 unfold BU
 simp only[iN,dP,dz,dK]
 rw[dJ (xH hs0) (by simp),aX]
 have k0:ag [] M0 (M0.push (.row (bg e kv) false TE 0)):=(ag.refl _ _).push _
 have h0:(M0.push (.row (bg e kv) false TE 0)).heap M0.next=some (.row (bg e kv) false TE 0):=RM.aQ _
 have hlt:M0.next<(M0.push (.row (bg e kv) false TE 0)).next:=by simp[RM.push]
 have hs:=aR.keep hs0 k0 (by simp)
 generalize M0.push (.row (bg e kv) false TE 0)=M at *
 generalize M0.next=b at *
 have hs:Sl aV M kv ks:=hs
 rw[bJ,yL h0]
 refine hg fun M1 k1=>?_
 have h1:=k1.aK h0 hlt (by simp)
 have s1:Sl aV M1 kv ks:=aR.keep hs k1 (by simp)
 have op1:∀ n:Int,((e.2.1:Int) == n)=decide (e.2.1=n):=fun n=>by by_cases h:e.2.1=n <;> simp[h]
 have op2:∀ n:Int,((e.2.1:Int) != n)=decide (e.2.1≠n):=fun n=>by by_cases h:e.2.1=n <;> simp[h]
 rw[bu]
 refine PY (q:=decide (e.2.1≠1)) (r:=decide (e.2.1≠2)) (fun _ k hk=>?_) (fun _ _ k hk=>?_) ?_
 ·rw[bJ,aA h1 rfl,iT,op2]; exact hk
 ·rw[bJ,aA h1 rfl,iT,op2]; exact hk
 refine Dt (p:=decide (e.2.2.1.length<1)) (fun _ k hk=>?_) ?_
 ·rw[bJ,aA h1 rfl,nU,dD,show decide ((e.2.2.1.length:Int)<1)=decide (e.2.2.1.length<1) from decide_eq_decide.2 (by omega)]; exact hk
 refine Dt (p:=decide (e.2.2.1.length > 64)) (fun _ k hk=>?_) ?_
 ·rw[bJ,aA h1 rfl,nU,iQ,show decide ((e.2.2.1.length:Int) > 64)=decide (e.2.2.1.length > 64) by simp; omega]; exact hk
 refine Dt (p:=decide (e.2.2.2.1.length > 64)) (fun _ k hk=>?_) ?_
 ·rw[bJ,aA h1 rfl,nU,iQ,show decide ((e.2.2.2.1.length:Int) > 64)=decide (e.2.2.2.1.length > 64) by simp; omega]; exact hk
 refine Dt (p:=decide (e.2.2.2.2.length > 512)) (fun _ k hk=>?_) ?_
 ·rw[bJ,aA h1 rfl,nU,iQ,show decide ((e.2.2.2.2.length:Int) > 512)=decide (e.2.2.2.2.length > 512) by simp; omega]; exact hk
 refine Dt (p:=decide (ks.length > 64)) (fun _ k hk=>?_) ?_
 ·rw[bJ,aA h1 rfl,aR.len s1,iQ,show decide ((ks.length:Int) > 64)=decide (ks.length > 64) by simp; omega]; exact hk
 have kk1:=k0.trans k1
 refine aD (fun hc=>?_) (fun hc=>?_)
 ·have:di e ks=false:=by
   simp only[Bool.or_eq_true,Bool.and_eq_true,Bool.not_eq_true',decide_eq_true_eq] at hc
   simp only[di,names,BR]
   rcases hc with(((((hc | ⟨hc1,hc2⟩) | hc) | hc) | hc) | hc) | hc
   ·rw[hc]; rfl
   ·simp[hc1,hc2]
   ·rw[decide_eq_false (show ¬ (1≤e.2.2.1.length) by omega)]; simp
   ·rw[decide_eq_false (show ¬ (e.2.2.1.length≤64) by omega)]; simp
   ·rw[decide_eq_false (show ¬ (e.2.2.2.1.length≤64) by omega)]; simp
   ·rw[decide_eq_false (show ¬ (e.2.2.2.2.length≤512) by omega)]; simp
   ·rw[decide_eq_false (show ¬ (ks.length≤64) by omega)]; simp
  rw[this] at hQ
  exact hQ M1 kk1
 simp only[Bool.or_eq_false_iff,Bool.and_eq_false_iff,Bool.not_eq_false',decide_eq_false_iff_not,Decidable.not_not] at hc
 obtain⟨⟨⟨⟨⟨⟨hc1,hop⟩,hc2⟩,hc3⟩,hc4⟩,hc5⟩,hc6⟩:=hc
 have oZ:di e ks=(gN e.1 none ks && BR e):=by
  simp only[di,names]
  rw[hc1,decide_eq_true (show(1≤e.2.2.1.length) by omega),decide_eq_true (show(e.2.2.1.length≤64) by omega),decide_eq_true (show(e.2.2.2.1.length≤64) by omega),decide_eq_true (show(e.2.2.2.2.length≤512) by omega),decide_eq_true (show(ks.length≤64) by omega)]
  simp
 rw[oZ] at hQ
 rw[bJ,aA h1 rfl,bV,op1]
 refine andM (p:=decide (e.2.2.2.1=[])) (fun _ k hk=>?_) ?_
 ·rw[bJ,aA h1 rfl,Ah,show(e.2.2.2.1 == [])=decide (e.2.2.2.1=[]) by by_cases h:e.2.2.2.1=[] <;> simp[h]]
  exact hk
 refine PY (q:=decide (e.2.1=2)) (r:=decide (e.2.2.2.2≠[])) (fun _ k hk=>?_) (fun _ _ k hk=>?_) ?_
 ·rw[bJ,aA h1 rfl,bV,op1]
  exact hk
 ·rw[bJ,aA h1 rfl,jF,show(e.2.2.2.2 != [])=decide (e.2.2.2.2≠[]) by by_cases h:e.2.2.2.2=[] <;> simp[h]]
  exact hk
 have agj:((decide (e.2.1=1) && decide (e.2.2.2.1=[])) || (decide (e.2.1=2) && decide (e.2.2.2.2≠[])))=!BR e:=by
  unfold BR
  rcases hop with hop | hop
  ·simp[hop]
  ·simp[hop]
 rw[agj]
 refine aD (fun hb=>?_) (fun hb=>?_)
 ·rw[show BR e=false by simpa using hb,Bool.and_false] at hQ
  exact hQ M1 kk1
 rw[show BR e=true by simpa using hb,Bool.and_true] at hQ
 refine aG (fun m ys M3=>∃ i:Nat,m=ks.length - i∧ys=[N .i64 (i:Int)]∧i≤ks.length∧ag [] M1 M3∧gN e.1 none ks=gN e.1 (Bp ks i) (ks.drop i)) _ ⟨0,rfl,rfl,Nat.zero_le _,ag.refl _ _,rfl⟩ ?_
 rintro next m ys M3 hnext ⟨i,rfl,rfl,hi,k3,hm⟩
 dsimp only[aa]
 have n1:=k1.next
 have h3:=k3.aK h1 (by omega) (by simp)
 have s3:Sl aV M3 kv ks:=aR.keep s1 k3 (by simp)
 rw[bJ,aA h3 rfl,aR.len s3,dC]
 refine aD (fun hlt2=>?_) (fun hge=>?_)
 ·have hlt2:i<ks.length:=of_decide_eq_true hlt2
  rw[Fz hlt2] at hm
  rw[bJ,aA h3 rfl,tY s3 hlt2]
  refine hg fun M5 k5=>?_
  have h5:=k5.aK h3 (by have:=k3.next; omega) (by simp)
  have s5:Sl aV M5 kv ks:=aR.keep s3 k5 (by simp)
  have kk5:=k3.trans k5
  rw[bu]
  refine Qr (P:=fun M'=>M'=M5) (p:=decide (ks[i]=e.1)) rfl (fun _ k hk=>?_) fun M' hM'=>?_
  ·rw[bJ,aA h5 rfl,tY s5 hlt2,bJ,yL h5,kY rfl rfl (Az _ _),Bool.bne_false]
   exact hk M5 rfl
  subst hM'
  refine abF (P:=fun M6=>ag [] M1 M6) (q:=decide (i > 0)) (r:=!(if h:0<i then nX (ks[i - 1]'(by omega)) ks[i] else true)) kk5 (fun _ k hk=>?_) (fun _ hq k hk=>?_) fun M6 k6=>?_
  ·rw[show(0:Int)=((0:Nat) : Int) from rfl,lX]
   exact hk
  ·have hq:0<i:=of_decide_eq_true hq
   rw[bJ,aA h5 rfl,aZ (by omega) (by omega),tY s5 (by omega),bJ,aA h5 rfl,tY s5 hlt2]
   refine hl fun M7 k7=>?_
   rw[bu,← dif_pos (c:=0<i) (t:=fun h=>nX (ks[i - 1]'(by omega)) ks[i]) (e:=fun _=>true) hq]
   exact hk M7 (kk5.trans k7)
  refine aD (fun hb=>?_) (fun hb=>?_)
  ·have:gN e.1 none ks=false:=by
    rw[hm]
    simp only[Bool.or_eq_true,Bool.and_eq_true,Bool.not_eq_true',decide_eq_true_eq] at hb
    rcases hb with(hb | hb) | ⟨_,hb⟩
    ·rw[hb]; rfl
    ·rw[show decide (ks[i]=e.1)=true by simpa using hb]; simp
    ·rw[hb]; simp
   rw[this] at hQ
   exact hQ M6 (kk1.trans k6)
  ·rw[add1 (by omega)]
   refine hnext _ _ _ (by omega) ⟨i + 1,rfl,rfl,by omega,k6, ?_⟩
   simp only[Bool.or_eq_false_iff,Bool.and_eq_false_iff,Bool.not_eq_false',decide_eq_false_iff_not] at hb
   obtain⟨⟨hb1,hb2⟩,hb3⟩:=hb
   rw[hm,hb1,show decide (ks[i]=e.1)=false by simpa using hb2]
   rcases hb3 with hb3 | hb3
   ·rw[dif_neg hb3]; simp
   ·rw[hb3]; simp
 ·have he:i=ks.length:=by
   have:¬ i<ks.length:=of_decide_eq_false hge
   omega
  subst he
  rw[List.drop_length,gN] at hm
  rw[hm] at hQ
  exact hQ M3 (kk1.trans k3)
def Nq (T:Nat) (c:ai) : Prop:=∀ {M:RM} {v:AV} {xs:List aH} {Q:ak},Sl aF M v xs→xs.length≤1000000→(∀ v' M',Ow aF M' M.next T v' xs→ag [] M M'→Q v' M')→c [v] M Q
theorem Um {T:Nat} : Nq T fun args M Q=>∃ a0,args=[a0]∧xL T a0 M Q:=by
 intro M v xs Q hs hl hQ
 refine⟨_,rfl, ?_⟩
 unfold xL
 have h5:aR M 5 v (aF.row xs) xs.length:=hs
 exact OH (size:=5) (bytes:=64) h5 (Enc.tQ _ _) (by decide) (by omega) (by omega) fun v' M' ho k=>hQ v' M' ho k
def Nn (c:ai) : Prop:=∀ {M:RM} {v:AV} {l:List ay} {d:ay} {Q:ak},Sl aV M v l→l.length≤1000000→(∀ (n:Int) M',(decide (n ≥ 0)=decide (d∈l))→ag [] M M'→Q (N .i64 n) M')→c [v,.agg (aO d)] M Q
theorem Us {T:Nat} : Nn fun args M Q=>∃ a0 a1,args=[a0,a1]∧Cg T a0 a1 M Q:=by
 intro M0 v l d Q hs0 hl hQ
 refine⟨_,_,rfl, ?_⟩
 unfold Cg
 rw[dJ rfl (by simp),aX]
 have k0:ag [] M0 (M0.push (.row (aO d) false T 0)):=(ag.refl _ _).push _
 have h0:(M0.push (.row (aO d) false T 0)).heap M0.next=some (.row (aO d) false T 0):=RM.aQ _
 have hs:Sl aV (M0.push (.row (aO d) false T 0)) v l:=aR.keep hs0 k0 (by simp)
 generalize M0.push (.row (aO d) false T 0)=M at *
 generalize M0.next=b at *
 rw[aR.len hs]
 refine aG (fun m ys M3=>∃ i:Nat,m=l.length - i∧ys=[N .i64 (i:Int)]∧i≤l.length∧M3=M∧(d∈l↔d∈l.drop i)) _ ⟨0,rfl,rfl,Nat.zero_le _,rfl,Iff.rfl⟩ ?_
 rintro next m ys M3 hnext ⟨i,rfl,rfl,hi,rfl,hm⟩
 dsimp only[aa]
 rw[dC]
 refine aD (fun hlt=>?_) (fun hge=>?_)
 ·have hlt:i<l.length:=of_decide_eq_true hlt
  rw[List.drop_eq_getElem_cons hlt,List.mem_cons] at hm
  rw[bS (n:=2) h0 rfl,tY hs hlt,kY rfl rfl (Az _ _),Bool.bne_false]
  refine aD (fun he=>?_) (fun he=>?_)
  ·have he:d=l[i]:=of_decide_eq_true he
   refine hQ _ _ ?_ k0
   rw[decide_eq_true (show(i:Int) ≥ 0 by omega),decide_eq_true (hm.2 (.inl he))]
  ·have he:¬ d=l[i]:=of_decide_eq_false he
   rw[add1 (by omega)]
   exact hnext _ _ _ (by omega) ⟨i + 1,rfl,rfl,by omega,rfl,hm.trans ⟨fun h=>h.resolve_left he,.inr⟩⟩
 ·have he:i=l.length:=by
   have:¬ i<l.length:=of_decide_eq_false hge
   omega
  subst he
  rw[List.drop_length] at hm
  refine hQ _ _ ?_ k0
  rw[decide_eq_false (show ¬ (-1:Int) ≥ 0 by decide),decide_eq_false (fun h=>by simpa using hm.1 h)]
def yS (c:ai) : Prop:=∀ {M:RM} {v:AV} {l:List ay} {d:ay} {Q:ak},Sl aV M v l→l.length≤1000000→(∀ M',ag [] M M'→Q (Bo (decide (d∈l))) M')→c [v,.agg (aO d)] M Q
theorem Mq {T:Nat} {ci:ai} (hi:Nn ci) : yS fun args M Q=>∃ a0 a1,args=[a0,a1]∧vQ T ci a0 a1 M Q:=by
 intro M0 v l d Q hs0 hl hQ
 refine⟨_,_,rfl, ?_⟩
 unfold vQ
 rw[dJ rfl (by simp),aX]
 have k0:ag [] M0 (M0.push (.row (aO d) false T 0)):=(ag.refl _ _).push _
 rw[bS (n:=2) (RM.aQ _) rfl]
 refine hi (aR.keep hs0 k0 (by simp)) hl fun n M' hn k=>?_
 rw[fU,hn]
 exact hQ M' (k0.trans k)
def LF (P:RM→Prop) (p:aH→Bool) (c:List AV→RM→ak→Prop) : Prop:=∀ {M:RM} {x:aH} {Q:ak},P M→(∀ M',ag [] M M'→Q (Bo (p x)) M')→c [.agg (aF.cells x)] M Q
theorem pU {M:RM} {v:AV} {xs:List aH} (h:Sl aF M v xs) {i:Nat} (hi:i<xs.length) {kd:IntKind} {K:AV→Prop} : (ah v (N kd (i:Int)) 5 fun p=>av M p 5 K)=K (.agg (aF.cells xs[i])):=by
 obtain⟨b,o,_,_,hidx,hld⟩:=Sl.at (E:=aF) (i:=i) h 5 (i:Int) hi rfl rfl
 rw[hidx,dQ,hld]
 simp
def MQ (P:RM→Prop) (p:aH→Bool) (fv:AV) (c:ai) : Prop:=∀ {M:RM} {v:AV} {xs:List aH} {Q:ak},P M→(∀ M M',P M→ag [] M M'→P M')→Sl aF M v xs→xs.length≤1000000 →
 (xs.any p=false→∀ M',ag [] M M'→Q (N .i64 (-1)) M')→(∀ (i:Nat) (hi:i<xs.length),p xs[i]=true→(∀ x∈xs.take i,p x=false)→∀ M',ag [] M M'→Q (N .i64 (i:Int)) M')→c [v,fv] M Q
theorem UC {P:RM→Prop} {p:aH→Bool} {fv:AV} {cv:FuncId→ai} (hp:LF P p (bD cv fv)) : MQ P p fv fun args M Q=>∃ a0 a1,args=[a0,a1]∧q9 cv a0 a1 M Q:=by
 intro M v xs Q hP hPk hs hl h0 h1
 refine⟨_,_,rfl, ?_⟩
 unfold q9
 rw[aR.len hs]
 refine aG (fun m ys M3=>∃ i:Nat,m=xs.length - i∧ys=[N .i64 (i:Int)]∧i≤xs.length∧ag [] M M3∧∀ x∈xs.take i,p x=false) _ ⟨0,rfl,rfl,Nat.zero_le _,ag.refl _ _,by simp⟩ ?_
 rintro next m ys M3 hnext ⟨i,rfl,rfl,hi,k3,hm⟩
 dsimp only[aa]
 rw[dC]
 refine aD (fun hlt=>?_) (fun hge=>?_)
 ·have hlt:i<xs.length:=of_decide_eq_true hlt
  rw[pU (aR.keep hs k3 (by simp)) hlt]
  refine hp (hPk _ _ hP k3) fun M4 k4=>?_
  refine aD (fun he=>h1 i hlt he hm M4 (k3.trans k4)) (fun he=>?_)
  rw[add1 (by omega)]
  refine hnext _ _ _ (by omega) ⟨i + 1,rfl,rfl,by omega,k3.trans k4,fun x hx=>?_⟩
  rw[List.take_succ_eq_append_getElem hlt,List.mem_append] at hx
  rcases hx with hx | hx
  ·exact hm x hx
  ·simp at hx; subst hx; exact he
 ·have he:i=xs.length:=by
   have:¬ i<xs.length:=of_decide_eq_false hge
   omega
  subst he
  rw[List.take_length] at hm
  exact h0 (by simpa using hm) M3 k3
theorem Y9 {b o n k z:Nat} (h:k≤n) (h0:0<n) : bZ z (.slc b o n (.op z)) none (some (N .i64 (k:Int))) none=some (.slc b o k (.op z)):=by
 simp only[bZ,bnd]
 simp[h]
 omega
theorem RG (zs:List AV) : ∀ k,(bU zs k).length=k * zs.length
 | 0=>by simp[bU]
 | k + 1=>by rw[bU,List.length_append,RG zs k,Nat.succ_mul,Nat.add_comm]
theorem Qx {zs:List AV} (h:zs.all oneCell=true) : ∀ k,(bU zs k).all oneCell=true
 | 0=>by simp[bU]
 | k + 1=>by rw[bU,List.all_append,h,Qx h k]; rfl
def Au (T:Nat) (P:RM→Prop) (p:aH→Bool) (fv:AV) (c:ai) : Prop:=∀ {M:RM} {base:Nat} {v:AV} {xs:List aH} {Q:ak},P M→(∀ M M' ks,P M→ag ks M M'→(∀ d∈ks,d∈aI v)→P M')→Ow aF M base T v xs→xs.length≤60000 →
 (∀ v' M',Sl aF M' v' (xs.filter fun x=>!p x)→(∀ d∈aI v',d∈aI v)→ag (aI v) M M'→Q v' M')→c [v,fv] M Q
theorem F7 {T TE:Nat} {P:RM→Prop} {p:aH→Bool} {fv:AV} {cv:FuncId→ai} {ci:ai} (hi:MQ P p fv ci) (hp:LF P p (bD cv fv)) : Au T P p fv fun args M Q=>∃ a0 a1,args=[a0,a1]∧pV ci TE cv a0 a1 M Q:=by
 intro M base v xs Q hP hPk ho hl hQ
 refine⟨_,_,rfl, ?_⟩
 unfold pV
 simp only[bH]
 have hs:Sl aF M v xs:=ho.il
 refine hi hP (fun M M' h k=>hPk M M' [] h k (by simp)) hs (by omega) (fun hn M1 k1=>?_) (fun i hlt hpi hm M1 k1=>?_)
 ·rw[bV,show((-1:Int) == -1)=true from rfl,cO]
  have e:(xs.filter fun x=>!p x)=xs:=List.filter_eq_self.2 fun x hx=>by
   have:=List.any_eq_false.1 hn x hx
   simpa using this
  exact hQ v M1 (by rw[e]; exact aR.keep hs k1 (by simp)) (fun d hd=>hd) (k1.mono (by simp))
 rw[bV,show((i:Int) == -1)=false by rw[beq_eq_false_iff_ne]; omega,bz,add1 (by omega)]
 obtain⟨b,rfl,h1,h2,h3,h4⟩:=Own.uK ho (by omega)
 have hsz:xs.toArray.size=xs.length:=by simp
 have hat:At aF T b xs.toArray M:=⟨by rw[h3],h2⟩
 have hel:∀ j (h:j<xs.length),xs.toArray[j]! = xs[j]:=fun j h=>by rw[NA (by simpa using h)]; simp
 have hpre0:xs.toArray.toList.take i=(xs.take (i + 1)).filter fun x=>!p x:=by
  rw[List.take_succ_eq_append_getElem hlt,List.filter_append,List.filter_eq_self.2 fun x hx=>by simpa using hm x hx]
  simp[hpi]
 refine aG (fun m ys M3=>∃ (k j:Nat) (d:Array aH),m=xs.length - j∧ys=[N .i64 (k:Int),N .i64 (j:Int)]∧j≤xs.length∧k<j∧At aF T b d M3∧ag [b] M M3∧d.size=xs.length∧d.toList.take k=(xs.take j).filter (fun x=>!p x)∧∀ q (h:q<xs.length),j≤q→d[q]! = xs[q]) _
  ⟨i,i + 1,xs.toArray,rfl,rfl,by omega,by omega,hat.keep k1,k1.mono (by simp),hsz,hpre0,fun q h _=>hel q h⟩ ?_
 rintro next m ys M3 hnext ⟨k,j,d,rfl,rfl,hj,hkj,h3',k3,hds,hpre,hold⟩
 dsimp only[aa]
 have aaS:∀ K:AV→Prop,bQ (AV.slc b 0 xs.length (.op aF.size)) K=K (N .i64 (xs.length:Int)):=fun K=>by simp[mM]
 rw[aaS,dC]
 have e5:aF.size=5:=rfl
 rw[e5] at *
 refine aD (fun hlt2=>?_) (fun rD=>?_)
 ·have hlt2:j<xs.length:=of_decide_eq_true hlt2
  refine aT (fun zs M'=>∃ (k' : Nat) (d' : Array aH),zs=[N .i64 (k' : Int)]∧k'<j + 1∧At aF T b d' M'∧ag [b] M M'∧d'.size=xs.length∧d'.toList.take k'=(xs.take (j + 1)).filter (fun x=>!p x)∧∀ q (h:q<xs.length),j + 1≤q→d'[q]! = xs[q]) ?_ ?_
  ·rintro zs M' ⟨k',d',rfl,c1,c2,c3,c4,c5,c6⟩
   dsimp only[aa]
   rw[add1 (by omega)]
   exact hnext _ _ _ (by omega) ⟨k',j + 1,d',rfl,rfl,by omega,c1,c2,c3,c4,c5,c6⟩
  intro J hJ
  rw[h3'.rd (z:=5) rfl hds.symm (by omega),hold j hlt2 (Nat.le_refl _),aX,dh (n:=5) (x:=.agg (aF.cells xs[j])) (l:=[(N .i64 0),(N .u64 0),(St []),(St []),(St [])]) (RM.aQ _) rfl rfl rfl]
  have k4:ag [] M3 ((M3.push (.row [(N .i64 0),(N .u64 0),(St []),(St []),(St [])] false TE 0)).put M3.next (.row (AV.agg (aF.cells xs[j])).cells false TE 0)):=((ag.refl _ _).push _).new _ (Nat.le_refl _)
  have hk4:((M3.push (.row [(N .i64 0),(N .u64 0),(St []),(St []),(St [])] false TE 0)).put M3.next (.row (AV.agg (aF.cells xs[j])).cells false TE 0)).heap M3.next=some (.row (aF.cells xs[j]) false TE 0):=aN _
  have hn4:M3.next<((M3.push (.row [(N .i64 0),(N .u64 0),(St []),(St []),(St [])] false TE 0)).put M3.next (.row (AV.agg (aF.cells xs[j])).cells false TE 0)).next:=by simp[RM.push,RM.put]
  generalize (M3.push (.row [(N .i64 0),(N .u64 0),(St []),(St []),(St [])] false TE 0)).put M3.next (.row (AV.agg (aF.cells xs[j])).cells false TE 0)=M4 at *
  generalize M3.next=s at *
  rw[bS (n:=5) hk4 rfl]
  have kk4:ag [b] M M4:=k3.trans (k4.mono (cs:=[b]) (by simp))
  have hP4:P M4:=hPk M M4 [b] hP kk4 (by simp[aI])
  refine hp hP4 fun M5 k5=>?_
  have kk5:ag [b] M M5:=kk4.trans (k5.mono (cs:=[b]) (by simp))
  have adt:=h3'.keep (k4.trans k5)
  have acL:(xs.take (j + 1)).filter (fun x=>!p x)=if p xs[j] then(xs.take j).filter (fun x=>!p x) else(xs.take j).filter (fun x=>!p x)++[xs[j]]:=by
   rw[List.take_succ_eq_append_getElem hlt2,List.filter_append]
   by_cases hpj:p xs[j]=true <;> simp[hpj]
  rw[bu]
  refine aD (fun hn=>?_) (fun hn=>?_)
  ·have hpj:p xs[j]=false:=by simpa using hn
   rw[bS (n:=5) (k5.aK hk4 hn4 (by simp)) rfl,At.idx (by omega)]
   refine adt.st (z:=5) rfl (by omega) fun M6 h6 k6 _=>?_
   rw[add1 (by omega)]
   refine hJ _ _ ⟨k + 1,_,rfl,by omega,h6,kk5.trans k6,by simpa using hds, ?_,fun q h hq=>?_⟩
   ·have hkl:k<d.toList.length:=by rw[Array.length_toList]; omega
    rw[acL,hpj,← hpre,Array.toList_setIfInBounds,List.take_succ_eq_append_getElem (by rw[List.length_set]; exact hkl),List.getElem_set_self,List.take_set_of_le (Nat.le_refl _)]
    rfl
   ·rw[← hold q h (by omega),NA (by rw[Array.size_setIfInBounds]; omega),NA (by omega),Array.getElem_setIfInBounds_ne (by omega) (by omega)]
  ·have hpj:p xs[j]=true:=by simpa using hn
   exact hJ _ _ ⟨k,d,rfl,by omega,adt,kk5,hds,by rw[acL,hpj]; exact hpre,fun q h hq=>hold q h (by omega)⟩
 ·have hj2:j=xs.length:=by
   have:¬ j<xs.length:=of_decide_eq_false rD
   omega
  subst hj2
  rw[List.take_length] at hpre
  have hrl:(aF.row d.toList).length=xs.length * 5:=by rw[Enc.eu,Array.length_toList,hds]; rfl
  have hst:M3.stores b (0 + k * 5) (bU [(N .i64 0),(N .u64 0),(St []),(St []),(St [])] (xs.length - k))=some (M3.put b (.row ((aF.row d.toList).take (0 + k * 5)++bU [(N .i64 0),(N .u64 0),(St []),(St []),(St [])] (xs.length - k)++(aF.row d.toList).drop (0 + k * 5 + (bU [(N .i64 0),(N .u64 0),(St []),(St []),(St [])] (xs.length - k)).length)) true T 0)):=by
   refine RM.Ec h3'.heap ?_ (Nat.zero_le _) (Qx rfl _)
   rw[RG,hrl]
   show 0 + k * 5 + (xs.length - k) * 5≤xs.length * 5
   omega
  rw[pX (by omega),dO]
  refine .inl ⟨_,_,_,_,_,rfl,hst, ?_⟩
  dsimp only
  rw[Y9 (by omega) (by omega),dO]
  have hlk:(xs.filter fun x=>!p x).length=k:=by rw[← hpre,List.length_take,Array.length_toList]; omega
  refine hQ _ _ ?_ (fun e he=>by simpa [aI] using he) ?_
  ·have hrow:((aF.row d.toList).take (0 + k * 5))=aF.row (xs.filter fun x=>!p x):=by
    rw[← hpre,show 0 + k * 5=k * aF.size by show 0 + k * 5=k * 5; omega,Enc.vB]
   show aR _ 5 (.slc b 0 k (.op 5)) (aF.row (xs.filter fun x=>!p x)) (xs.filter fun x=>!p x).length
   rw[hlk]
   refine .slc _ _ _ _ _ h3'.lt ?_
   have hl:(aF.row (xs.filter fun x=>!p x)).length=k * 5:=by rw[Enc.eu,hlk]; rfl
   rw[RM.dF (aN _) (by rw[hrow]; simp[hl]),List.drop_zero,hrow,List.append_assoc,List.take_left' hl]
  ·have:ag [b] M3 (M3.put b (.row ((aF.row d.toList).take (0 + k * 5)++bU [(N .i64 0),(N .u64 0),(St []),(St []),(St [])] (xs.length - k)++(aF.row d.toList).drop (0 + k * 5 + (bU [(N .i64 0),(N .u64 0),(St []),(St []),(St [])] (xs.length - k)).length)) true T 0)):=(ag.refl _ _).put _ (.inr (by simp))
   simpa [aI] using k3.trans this
def FQ (TE:Nat) (b:Nat) (e:lh) (kv:AV) (ks:List ay) (M:RM) : Prop:=b<M.next∧M.heap b=some (.row (bg e kv) false TE 0)∧Sl aV M kv ks
theorem FQ.keep {TE b:Nat} {e:lh} {kv:AV} {ks:List ay} {M M' : RM} {bs:List Nat} (h:FQ TE b e kv ks M) (k:ag bs M M') (hb:b ∉ bs) (hk:∀ d∈aI kv,d ∉ bs) : FQ TE b e kv ks M':=by
 obtain⟨h1,h2,h3⟩:=h
 exact⟨Nat.lt_of_lt_of_le h1 k.next,k.aK h2 h1 hb,aR.keep h3 k hk⟩
theorem UG {TE T b:Nat} {e:lh} {kv:AV} {ks:List ay} {cc:ai} (hc:yS cc) (hl:ks.length≤1000000) {M:RM} {x:aH} {Q:ak} (hP:FQ TE b e kv ks M) (hQ:∀ M',ag [] M M'→Q (Bo (decide (x.1∈ks))) M') :
  ∃ a0 a1,[AV.agg (aF.cells x),.ptr b 0]=[a0,a1]∧uC T cc a0 a1 M Q:=by
 obtain⟨h1,h2,h3⟩:=hP
 refine⟨_,_,rfl, ?_⟩
 unfold uC
 rw[dJ rfl (by rw[aF.len]; decide),aX]
 have k0:ag [] M (M.push (.row (aF.cells x) false T 0)):=(ag.refl _ _).push _
 have hx:(M.push (.row (aF.cells x) false T 0)).heap M.next=some (.row (aF.cells x) false T 0):=RM.aQ _
 have h2':=k0.aK h2 h1 (by simp)
 have h3' : Sl aV (M.push (.row (aF.cells x) false T 0)) kv ks:=aR.keep h3 k0 (by simp)
 generalize M.push (.row (aF.cells x) false T 0)=M1 at *
 generalize M.next=s at *
 have e2:((aF.cells x).drop 0).take 2=aO x.1:=rfl
 have ld:∀ K:AV→Prop,av M1 (.ptr s 0) 2 K=K (.agg (aO x.1)):=fun K=>by
  rw[dQ,RM.dF hx (by rw[aF.len]; decide),e2]
  simp
 rw[bJ,aA h2' rfl,bJ,ld]
 exact hc h3' hl fun M' k=>hQ M' (k0.trans k)
theorem acO (a b:aH) : dE [1,1,2,2,2] (aF.cells a) (aF.cells b)=some (decide (a=b)):=by
 obtain⟨⟨d,n⟩,x,y,z⟩:=a
 obtain⟨⟨d',n'⟩,x',y',z'⟩:=b
 show dE [1,1,2,2,2] [N .i64 d,N .u64 (n:Int),St x,St y,St z] [N .i64 d',N .u64 (n' : Int),St x',St y',St z']=_
 simp only[De,yU,yP]
 by_cases h1:d=d' <;> by_cases h2:n=n' <;> by_cases h3:x=x' <;> by_cases h4:y=y' <;> by_cases h5:z=z' <;> simp[h1,h2,h3,h4,h5]
 all_goals omega
def Nv (c:ai) : Prop:=∀ {M:RM} {v w:AV} {xs ys:List aH} {Q:ak},Sl aF M v xs→Sl aF M w ys→xs.length≤1000000→Q (Bo (decide (xs=ys))) M→c [v,w] M Q
theorem Uk:Nv fun args M Q=>∃ a0 a1,args=[a0,a1]∧xS a0 a1 M Q:=by
 intro M v w xs ys Q h1 h2 hl hQ
 refine⟨_,_,rfl, ?_⟩
 unfold xS
 rw[aR.len h1,aR.len h2,iT,aR.len h1]
 refine aD (fun hn=>?_) (fun hn=>?_)
 ·have:¬ xs=ys:=fun e=>by subst e; simp at hn
  rw[decide_eq_false this] at hQ
  exact hQ
 have hn:xs.length=ys.length:=by
  simp only[bne_eq_false_iff_eq] at hn
  omega
 refine aG (fun m zs M3=>∃ i:Nat,m=xs.length - i∧zs=[N .i64 (i:Int)]∧i≤xs.length∧M3=M∧(xs=ys↔xs.drop i=ys.drop i)) _ ⟨0,rfl,rfl,Nat.zero_le _,rfl,Iff.rfl⟩ ?_
 rintro next m zs M3 hnext ⟨i,rfl,rfl,hi,rfl,hm⟩
 dsimp only[aa]
 rw[dC]
 refine aD (fun hlt=>?_) (fun hge=>?_)
 ·have hlt:i<xs.length:=of_decide_eq_true hlt
  rw[List.drop_eq_getElem_cons hlt,List.drop_eq_getElem_cons (show i<ys.length by omega),List.cons.injEq] at hm
  rw[pU h1 hlt,pU h2 (by omega),kY rfl rfl (acO _ _)]
  refine aD (fun he=>?_) (fun he=>?_)
  ·have he:¬ xs[i]=ys[i]'(by omega):=by simpa using he
   rw[decide_eq_false (fun e=>he (hm.1 e).1)] at hQ
   exact hQ
  ·have he:xs[i]=ys[i]'(by omega):=by simpa using he
   rw[add1 (by omega)]
   exact hnext _ _ _ (by omega) ⟨i + 1,rfl,rfl,by omega,rfl,hm.trans ⟨fun h=>h.2,fun h=>⟨he,h⟩⟩⟩
 ·have he:i=xs.length:=by
   have:¬ i<xs.length:=of_decide_eq_false hge
   omega
  subst he
  rw[List.drop_length,hn,List.drop_length] at hm
  rw[decide_eq_true (hm.2 rfl)] at hQ
  exact hQ
end Go.Ab.Crw
namespace Go.Ab.ay
open Go Go.Ab
theorem QX:∀ (a b:Nat),bU [N .u64 0] (a + b)=bU [N .u64 0] a++bU [N .u64 0] b
 | 0,b=>by simp[bU]
 | a + 1,b=>by rw[show a + 1 + b=(a + b) + 1 by omega,bU,bU,QX a b]; simp
theorem QW {M:RM} {b T k:Nat} {ps ys:List Nat} {u:AV} {zs:List AV} {K:ak} (hb:M.heap b=some (.row (bn.row ps++bU [N .u64 0] k) true T 0)) (hu:Sl bn M u ys) (hk:ys.length≤k) (hl:ys.length≤1000000)
  (hK:∀ M',M'.heap b=some (.row (bn.row (ps++ys)++bU [N .u64 0] (k - ys.length)) true T 0)→ag [b] M M'→M'.next=M.next→K (.slc b 0 (ps++ys).length (.op 1)) M') :
  appW T 1 8 zs false (.slc b 0 ps.length (.op 1)) u M K:=by
 have hn:=aR.nK hu zs
 have hrl:(bn.row ys).length=ys.length:=by rw[Enc.eu]; simp[bn]
 have hpl:(bn.row ps).length=ps.length:=by rw[Enc.eu]; simp[bn]
 refine⟨ys.length,bn.row ys,hn,by omega,by omega, ?_⟩
 by_cases h0:ys.length=0
 ·have:ys=[]:=List.length_eq_zero_iff.1 h0
  subst this
  refine⟨.slc b 0 ps.length (.op 1),M,by simp[sW], ?_⟩
  have:=hK M (by simpa using hb) (ag.refl _ _) rfl
  simpa using this
 ·have hfit:0 + (ps.length + ys.length) * 1≤(bn.row ps++bU [N .u64 0] k).length:=by
   rw[List.length_append,hpl,(qp k).1]; omega
  refine⟨.slc b 0 (ps.length + ys.length) (.op 1),M.put b (.row (bn.row (ps++ys)++bU [N .u64 0] (k - ys.length)) true T 0), ?_, ?_⟩
  ·simp only[sW,if_neg h0,hb]
   rw[if_pos (by simp),if_pos hfit,RM.wO hb,qm (by rw[hrl,List.length_append,hpl,(qp k).1]; omega) (by omega) (bn.tQ ys)]
   simp only[Option.map_some]
   congr 4
   rw[Enc.uu]
   have e1:(bn.row ps++bU [N .u64 0] k).take (0 + ps.length * 1)=bn.row ps:=by rw[List.take_left' (by omega)]
   have e2:(bn.row ps++bU [N .u64 0] k).drop (0 + ps.length * 1 + (bn.row ys).length)=bU [N .u64 0] (k - ys.length):=by
    have:k=ys.length + (k - ys.length):=by omega
    rw[show bU [N .u64 0] k=bU [N .u64 0] ys.length++bU [N .u64 0] (k - ys.length) by rw[← QX]; congr 1,← List.append_assoc,List.drop_left' (by rw[List.length_append,hpl,(qp _).1,hrl]; omega)]
   rw[e1,e2]
  ·have:=hK _ (aN _) ((ag.refl _ _).put _ (.inr (by simp))) rfl
   rw[List.length_append] at this
   exact this
def Oi (T:Nat) (c:ai) : Prop:=∀ {M:RM} {bb TS:Nat} {v w:AV} {xs ys:List Nat} {Q:ak},M.heap bb=some (.row [v,w] false TS 0)→bb<M.next→Sl bn M v xs→Sl bn M w ys→xs.length≤1000000→ys.length≤1000000 →
 (∀ r M',Ow bn M' M.next T r (xs++ys)→ag [] M M'→Q r M')→c [.slc bb 0 2 (.ex 2)] M Q
theorem Uf {TS T:Nat} {cg:ai} (hg:Wy T cg) : Oi T fun args M Q=>∃ a0,args=[a0]∧uO TS cg T a0 M Q:=by
 intro M bb TB v w xs ys Q hb hbl hv hw hx hy hQ
 refine⟨_,rfl, ?_⟩
 unfold uO
 simp only[wC]
 have at0:∀ K:AV→Prop,ah (.slc bb 0 2 (.ex 2)) (N .i64 ((0:Nat) : Int)) 1 K=K (.ptr bb 0):=fun K=>by
  rw[nV]; exact propext ⟨fun h=>h.2.2,fun h=>⟨by decide,by decide,h⟩⟩
 have Gd:∀ K:AV→Prop,ah (.slc bb 0 2 (.ex 2)) (N .i64 ((1:Nat) : Int)) 1 K=K (.ptr bb 1):=fun K=>by
  rw[nV]; exact propext ⟨fun h=>h.2.2,fun h=>⟨by decide,by decide,h⟩⟩
 rw[mM]
 have len3:∀ (p0:Nat),p0=0∨p0=xs.length∨p0=xs.length + ys.length→True:=fun _ _=>trivial
 refine aG (fun m zs M3=>∃ i:Nat,m=2 - i∧i≤2∧zs=[N .i64 ((if i=0 then 0 else if i=1 then xs.length else xs.length + ys.length:Nat) : Int),N .i64 (i:Int)]∧M3=M) _ ⟨0,rfl,by omega,rfl,rfl⟩ ?_
 rintro next m zs M3 hnext ⟨i,rfl,hi,rfl,rfl⟩
 dsimp only[aa]
 rw[dD]
 obtain rfl | rfl | rfl:i=0∨i=1∨i=2:=by omega
 ·rw[show decide (((0:Nat) : Int)<((2:Nat) : Int))=true from rfl,cO,at0,aA hb rfl,aR.len hv]
  simp only[if_true]
  rw[cZ,show((0:Nat) : Int) + (xs.length:Int)=(xs.length:Int) by omega,aS (by omega) (by omega),dD,show decide ((xs.length:Int)<0)=false by simp,bz,cZ,fZ (by omega)]
  exact hnext _ _ _ (by omega) ⟨1,rfl,by omega,rfl,rfl⟩
 ·rw[show decide (((1:Nat) : Int)<((2:Nat) : Int))=true from rfl,cO,Gd,aA hb rfl,aR.len hw]
  simp only[if_true,show ¬ (1:Nat)=0 by omega,if_false]
  rw[cZ,show(xs.length:Int) + (ys.length:Int)=((xs.length + ys.length:Nat) : Int) by omega,aS (by omega) (by omega),dD,show decide (((xs.length + ys.length:Nat) : Int)<0)=false by simp; omega,bz,cZ,fZ (by omega)]
  exact hnext _ _ _ (by omega) ⟨2,rfl,by omega,rfl,rfl⟩
 ·rw[show decide (((2:Nat) : Int)<((2:Nat) : Int))=false from rfl,bz]
  simp only[show ¬ (2:Nat)=0 by omega,show ¬ (2:Nat)=1 by omega,if_false]
  refine hg (by omega) (fun h0=>?_) (fun hpos b M4 hb0 hb1 hrow k4=>?_)
  ·
   have e1:xs=[]:=List.length_eq_zero_iff.1 (by omega)
   have e2:ys=[]:=List.length_eq_zero_iff.1 (by omega)
   subst e1 e2
   rw[mM]
   refine aG (fun m zs M5=>∃ i:Nat,m=2 - i∧i≤2∧zs=[bB,N .i64 (i:Int)]∧M5=M3) _ ⟨0,rfl,by omega,rfl,rfl⟩ ?_
   rintro fq m zs M5 dx ⟨i,rfl,hi,rfl,rfl⟩
   dsimp only[aa]
   rw[dD]
   have app:∀ (u:AV) (K:ak),Sl bn M5 u []→K bB M5→appW T 1 8 [N .u64 0] false bB u M5 K:=fun u K hu hK=>by
    refine⟨0,[], ?_,by omega,by omega,bB,M5,by simp[sW],hK⟩
    exact aR.nK hu _
   obtain rfl | rfl | rfl:i=0∨i=1∨i=2:=by omega
   ·rw[show decide (((0:Nat) : Int)<((2:Nat) : Int))=true from rfl,cO,at0,aA hb rfl]
    refine app _ _ hv ?_
    rw[cZ,fZ (by omega)]
    exact dx _ _ _ (by omega) ⟨1,rfl,by omega,rfl,rfl⟩
   ·rw[show decide (((1:Nat) : Int)<((2:Nat) : Int))=true from rfl,cO,Gd,aA hb rfl]
    refine app _ _ hw ?_
    rw[cZ,fZ (by omega)]
    exact dx _ _ _ (by omega) ⟨2,rfl,by omega,rfl,rfl⟩
   ·rw[show decide (((2:Nat) : Int)<((2:Nat) : Int))=false from rfl,bz]
    exact hQ bB M5 .nil (ag.refl _ _)
  ·rw[mM]
   have hbb:bb≠b:=by omega
   refine aG (fun m zs M5=>∃ i:Nat,m=2 - i∧i≤2∧zs=[.slc b 0 (if i=0 then([] : List Nat) else if i=1 then xs else xs++ys).length (.op 1),N .i64 (i:Int)]∧ag [b] M4 M5∧M5.next=M4.next ∧
     M5.heap b=some (.row (bn.row (if i=0 then[] else if i=1 then xs else xs++ys)++bU [N .u64 0] (xs.length + ys.length - (if i=0 then([] : List Nat) else if i=1 then xs else xs++ys).length)) true T 0)) _
    ⟨0,rfl,by omega,rfl,ag.refl _ _,rfl,by simpa [Enc.row] using hrow⟩ ?_
   rintro fq m zs M5 dx ⟨i,rfl,hi,rfl,k5,n5,G8⟩
   dsimp only[aa]
   rw[dD]
   have hb4:=k4.aK hb hbl (by simp)
   have hb5:=k5.aK hb4 (by omega) (by simp; exact hbb)
   have hv5:Sl bn M5 v xs:=aR.keep (aR.keep hv k4 (by simp)) k5 (fun d hd hm=>by have:=aR.lt hv d hd; simp at hm; omega)
   have hw5:Sl bn M5 w ys:=aR.keep (aR.keep hw k4 (by simp)) k5 (fun d hd hm=>by have:=aR.lt hw d hd; simp at hm; omega)
   obtain rfl | rfl | rfl:i=0∨i=1∨i=2:=by omega
   ·rw[show decide (((0:Nat) : Int)<((2:Nat) : Int))=true from rfl,cO,at0,aA hb5 rfl]
    simp only[if_true] at G8 ⊢
    refine QW G8 hv5 (by simp) hx fun M6 Lm k6 n6=>?_
    rw[cZ,fZ (by omega)]
    refine dx _ _ _ (by omega) ⟨1,rfl,by omega,by simp,k5.trans k6,n6.trans n5, ?_⟩
    simp at Lm ⊢
    exact Lm
   ·rw[show decide (((1:Nat) : Int)<((2:Nat) : Int))=true from rfl,cO,Gd,aA hb5 rfl]
    simp only[if_true,show ¬ (1:Nat)=0 by omega,if_false] at G8 ⊢
    refine QW G8 hw5 (by omega) hy fun M6 Lm k6 n6=>?_
    rw[cZ,fZ (by omega)]
    refine dx _ _ _ (by omega) ⟨2,rfl,by omega,by simp,k5.trans k6,n6.trans n5, ?_⟩
    simp at Lm ⊢
    exact Lm
   ·rw[show decide (((2:Nat) : Int)<((2:Nat) : Int))=false from rfl,bz]
    simp only[show ¬ (2:Nat)=0 by omega,show ¬ (2:Nat)=1 by omega,if_false,List.length_append,Nat.sub_self,bU,List.append_nil] at G8 ⊢
    refine hQ _ M5 ?_ (k4.bW k5 (by simp; omega))
    rw[Ow,List.length_append]
    exact .op b _ _ (by omega) (by omega) G8 (by rw[Enc.eu,List.length_append])
theorem fV.put {T i u a:Nat} {S S' : Nat→Prop} {M M' : RM} {ps:List Pt} {l:List AV} {v' : AV} {xs:List Nat} {ks:List Nat} (h:fV T S M a ps) (hl:M.heap a=some (.row l false T 0)) (hi:i<16)
  (hb:M'.heap a=some (.row ((l.set (2 * i) (N .u64 (u:Int))).set (2 * i + 1) v') false T 0)) (hk:ag ks M M') (hks:∀ d∈ks,d=a∨¬ S d) (hs:Sl bn M' v' xs) (hc:lT v') (hv:∀ d∈aI v',S' d) (hS:∀ d,S d→S' d) (ha:¬ S' a) : fV T S' M' a (ps.set i (u,xs)):=by
 obtain⟨l0,h1,h2,h3⟩:=h.row
 rw[hl] at h1
 obtain rfl:l=l0:=by simpa using h1
 refine⟨Nat.lt_of_lt_of_le h.lt hk.next,by rw[List.length_set]; exact h.len,⟨_,hb,by simp[h2],fun j hj=>?_⟩,ha⟩
 have hj' : j<ps.length:=by rw[List.length_set] at hj; exact hj
 have aaH:j<16:=by rw[← h.len]; exact hj'
 by_cases hji:j=i
 ·subst hji
  refine⟨v', ?_, ?_, ?_,hc,hv⟩
  ·rw[List.getElem?_set_ne (by omega),List.getElem?_set_self (by omega),List.getElem_set_self]
  ·rw[List.getElem?_set_self (by simp; omega)]
  ·rw[List.getElem_set_self]; exact hs
 ·obtain⟨w,b1,b2,b3,b4,b5⟩:=h3 j hj'
  refine⟨w, ?_, ?_, ?_,b4,fun d hd=>hS d (b5 d hd)⟩
  ·rw[List.getElem?_set_ne (by omega),List.getElem?_set_ne (by omega),List.getElem_set_ne (Ne.symm hji)]; exact b1
  ·rw[List.getElem?_set_ne (by omega),List.getElem?_set_ne (by omega)]; exact b2
  ·rw[List.getElem_set_ne (Ne.symm hji)]
   refine aR.keep b3 hk fun d hd hm=>?_
   rcases hks d hm with rfl | h'
   ·exact h.nb (b5 d hd)
   ·exact h' (b5 d hd)
def rT (f g:List Nat→List Nat) (p q:Pt) : Pt:=settle (max p.1 q.1) (g (f (p.2++q.2)))
def qY (f g:List Nat→List Nat) (ps qs:List Pt) : Nat→List Pt
 | 0=>ps
 | i + 1=>(qY f g ps qs i).set i (rT f g (ps.getD i (0,[])) (qs.getD i (0,[])))
theorem IQ {f g:List Nat→List Nat} {ps qs:List Pt} : ∀ {i j:Nat},i≤j→(qY f g ps qs i).getD j (0,[])=ps.getD j (0,[])
 | 0,j,_=>rfl
 | i + 1,j,h=>by rw[qY,getD_set_ne (by omega),IQ (by omega)]
def XA (P:List Nat→Prop) (P2:List Nat→Prop) (f g:List Nat→List Nat) (T:Nat) (c:ai) : Prop:=∀ {M:RM} {a b:Nat} {ps qs:List Pt} {S S' : Nat→Prop} {Q:ak},fV T S M a ps→fV T S' M b qs→(a=b→ps=qs)→¬ S' a →
 (∀ i,i<16→P ((ps.getD i (0,[])).2++(qs.getD i (0,[])).2)∧P2 (f ((ps.getD i (0,[])).2++(qs.getD i (0,[])).2)))→(∀ p∈ps,p.1≤4398046511104∧p.2.length≤100000)→(∀ p∈qs,p.1≤4398046511104∧p.2.length≤100000) →
 (∀ i,i<16→(g (f ((ps.getD i (0,[])).2++(qs.getD i (0,[])).2))).length≤1000000∧∀ x∈g (f ((ps.getD i (0,[])).2++(qs.getD i (0,[])).2)),x≤4398046511104) →
 (∀ M',fV T (fun e=>S e∨M.next≤e) M' a (qY f g ps qs 16)→ag [a] M M'→Q (.tup []) M')→c [.ptr a 0,.ptr b 0] M Q
theorem vW {ps:List Pt} {R:Pt→Prop} (h:∀ p∈ps,R p) (h0:R (0,[])) (i:Nat) : R (ps.getD i (0,[])):=by
 rw[List.getD_eq_getElem?_getD]
 by_cases hj:i<ps.length
 ·rw[List.getElem?_eq_getElem hj]; exact h _ (List.getElem_mem hj)
 ·rw[List.getElem?_eq_none (by omega)]; exact h0
theorem YF {TS TP TL TU:Nat} {P P2:List Nat→Prop} {f g:List Nat→List Nat} {cc cs ck ct:ai} (hc:Oi TU cc) (hs:Wj P f TU cs) (hk:Jf P2 g TU ck) (ht:Df ct) :
  XA P P2 f g TS fun args M Q=>∃ a0 a1,args=[a0,a1]∧Ef TP TL cc cs ck ct a0 a1 M Q:=by
 intro M a b ps qs S S' Q hA hB hab hSa hP hbp hbq hres hQ
 refine⟨_,_,rfl, ?_⟩
 unfold Ef
 have hal:=hA.lt
 have hbl:=hB.lt
 refine aG (fun m ys M3=>∃ (i:Nat),m=16 - i∧ys=[N .i64 (i:Int)]∧i≤16∧ag [a] M M3∧fV TS (fun e=>S e∨M.next≤e) M3 a (qY f g ps qs i)) _
  ⟨0,rfl,rfl,Nat.zero_le _,ag.refl _ _,hA.mono (fun e h=>.inl h) (fun h=>by rcases h with h | h; exact hA.nb h; omega)⟩ ?_
 rintro next m ys M3 hnext ⟨i,rfl,rfl,hi,k3,hA3⟩
 dsimp only[aa]
 rw[dD]
 refine aD (fun hlt=>?_) (fun hge=>?_)
 ·have hlt:i<16:=by
   have:(i:Int)<16:=of_decide_eq_true hlt
   omega
  have n3:=k3.next
  -- the second set's part
  have hB3:∃ l w,M3.heap b=some (.row l false TS 0)∧l.length=32∧l[2 * i]?=some (N .u64 ((qs.getD i (0,[])).1:Int))∧l[2 * i + 1]?=some w∧Sl bn M3 w (qs.getD i (0,[])).2∧a ∉ aI w:=by
   by_cases e:a=b
   ·subst e
    have e2:=hab rfl
    obtain⟨l,h1,h2,h3⟩:=hA3.row
    have hil:i<(qY f g ps qs i).length:=by rw[hA3.len]; exact hlt
    obtain⟨w,b1,b2,b3,b4,b5⟩:=h3 i hil
    have hD:=IQ (f:=f) (g:=g) (ps:=ps) (qs:=qs) (Nat.le_refl i)
    rw[List.getD_eq_getElem?_getD,List.getElem?_eq_getElem hil,Option.getD_some] at hD
    rw[hD,e2] at b1
    rw[hD,e2] at b3
    exact⟨l,w,h1,h2,b1,b2,b3,fun hm=>hA3.nb (b5 a hm)⟩
   ·obtain⟨l,h1,h2,h3⟩:=hB.row
    have hil:i<qs.length:=by rw[hB.len]; exact hlt
    obtain⟨w,b1,b2,b3,b4,b5⟩:=h3 i hil
    have hD:qs.getD i (0,[])=qs[i]:=by rw[List.getD_eq_getElem?_getD,List.getElem?_eq_getElem hil]; rfl
    rw[hD]
    exact⟨l,w,k3.aK h1 hbl (by simp; exact fun h=>e h.symm),h2,b1,b2,aR.keep b3 k3 (fun d hd hm=>by simp at hm; subst hm; exact hSa (b5 d hd)),fun hm=>hSa (b5 a hm)⟩
  obtain⟨lb,qw,hb3,hlb32,q1,q2,q3,q4⟩:=hB3
  obtain⟨la,ha3,hla32,hrow⟩:=hA3.row
  have hil:i<(qY f g ps qs i).length:=by rw[hA3.len]; exact hlt
  obtain⟨pw,p1,p2,p3,p4,p5⟩:=hrow i hil
  have hD:=IQ (f:=f) (g:=g) (ps:=ps) (qs:=qs) (Nat.le_refl i)
  rw[List.getD_eq_getElem?_getD,List.getElem?_eq_getElem hil,Option.getD_some] at hD
  rw[hD] at p1 p3
  have bp:=vW hbp ⟨by decide,by decide⟩ i
  have bq:=vW hbq ⟨by decide,by decide⟩ i
  obtain⟨hPi,af6⟩:=hP i hlt
  obtain⟨hr1,hr2⟩:=hres i hlt
  have adA:∀ M',ag [a] M M'→fV TS (fun e=>S e∨M.next≤e) M' a ((qY f g ps qs i).set i (rT f g (ps.getD i (0,[])) (qs.getD i (0,[]))))→next [N .i64 ((i + 1:Nat) : Int)] M':=fun M' k h=>hnext _ _ _ (by omega) ⟨i + 1,rfl,rfl,by omega,k,h⟩
  generalize ps.getD i (0,[])=p at *
  generalize qs.getD i (0,[])=q at *
  obtain⟨pu,px⟩:=p
  obtain⟨qu,qx⟩:=q
  simp only[rT] at *
  rw[aU,bJ,Ao]
  refine⟨by omega,by omega, ?_⟩
  rw[aU,bJ,Ao]
  refine⟨by omega,by omega, ?_⟩
  rw[Int.toNat_natCast,Nat.zero_add,Nat.mul_comm i 2,dQ]
  have hcut:M3.loads b (2 * i) 2=some [N .u64 (qu:Int),qw]:=by
   rw[RM.dF hb3 (by omega)]
   obtain⟨r1,r2⟩:=List.getElem?_eq_some_iff.1 q1
   obtain⟨r3,r4⟩:=List.getElem?_eq_some_iff.1 q2
   rw[List.drop_eq_getElem_cons r1,List.drop_eq_getElem_cons r3,r2,r4]; rfl
  refine⟨_,hcut, ?_⟩
  have hq1:=aR.one q3
  rw[nL,dh (n:=2) (x:=.agg [N .u64 (qu:Int),qw]) (l:=[N .u64 0,.sc (.slice none 0 0)]) (RM.aQ _) rfl rfl (by simp[AV.cells,hq1]; rfl)]
  have k4:ag [] M3 ((M3.push (.row [N .u64 0,.sc (.slice none 0 0)] false TP 0)).put M3.next (.row (AV.agg [N .u64 (qu:Int),qw]).cells false TP 0)):=((ag.refl _ _).push _).new _ (Nat.le_refl _)
  have h4:((M3.push (.row [N .u64 0,.sc (.slice none 0 0)] false TP 0)).put M3.next (.row (AV.agg [N .u64 (qu:Int),qw]).cells false TP 0)).heap M3.next=some (.row [N .u64 (qu:Int),qw] false TP 0):=aN _
  have n4:((M3.push (.row [N .u64 0,.sc (.slice none 0 0)] false TP 0)).put M3.next (.row (AV.agg [N .u64 (qu:Int),qw]).cells false TP 0)).next=M3.next + 1:=rfl
  generalize (M3.push (.row [N .u64 0,.sc (.slice none 0 0)] false TP 0)).put M3.next (.row (AV.agg [N .u64 (qu:Int),qw]).cells false TP 0)=M4 at *
  have agK:=hA3.lt
  have ha4:=k4.aK ha3 agK (by simp)
  rw[aU,aP,Nat.add_zero,aA ha4 p1,bJ,aA h4 rfl,YQ,if_pos rfl,Tx,aU,aP,Nat.add_zero,dV ha4 (by omega) rfl rfl]
  have k5:ag [a] M4 (M4.put a (.row (la.set (2 * i) (N .u64 ((max pu qu:Nat) : Int))) false TS 0)):=(ag.refl _ _).put _ (.inr (by simp))
  have ha5:(M4.put a (.row (la.set (2 * i) (N .u64 ((max pu qu:Nat) : Int))) false TS 0)).heap a=some (.row (la.set (2 * i) (N .u64 ((max pu qu:Nat) : Int))) false TS 0):=aN _
  have n5:(M4.put a (.row (la.set (2 * i) (N .u64 ((max pu qu:Nat) : Int))) false TS 0)).next=M4.next:=rfl
  generalize M4.put a (.row (la.set (2 * i) (N .u64 ((max pu qu:Nat) : Int))) false TS 0)=M5 at *
  have h5:=k5.aK h4 (by omega) (by simp; omega)
  have p2' : (la.set (2 * i) (N .u64 ((max pu qu:Nat) : Int)))[2 * i + 1]?=some pw:=by rw[List.getElem?_set_ne (by omega)]; exact p2
  rw[aU,aP,aA ha5 p2',bJ,aA h5 rfl]
  have agd:a ∉ aI pw:=fun hm=>hA3.nb (p5 a hm)
  have k35:ag [a] M3 M5:=(k4.mono (by simp)).trans k5
  have sp5:Sl bn M5 pw px:=aR.keep p3 k35 (fun d hd hm=>by simp at hm; subst hm; exact agd hd)
  have sq5:Sl bn M5 qw qx:=aR.keep q3 k35 (fun d hd hm=>by simp at hm; subst hm; exact q4 hd)
  have hw1:=aR.one sp5
  have hwc:=aR.cells sp5
  have hqc:=aR.cells sq5
  refine⟨[pw,qw],by simp[Bw,bU,hwc,hqc,hw1,hq1], ?_⟩
  dsimp only
  rw[nL]
  have k6:ag [] M5 (M5.push (.row [pw,qw] false TL 0)):=(ag.refl _ _).push _
  have h6:(M5.push (.row [pw,qw] false TL 0)).heap M5.next=some (.row [pw,qw] false TL 0):=RM.aQ _
  have n6:(M5.push (.row [pw,qw] false TL 0)).next=M5.next + 1:=rfl
  generalize M5.push (.row [pw,qw] false TL 0)=M6 at *
  refine hc h6 (by omega) (aR.keep sp5 k6 (by simp)) (aR.keep sq5 k6 (by simp)) (by have:=bp.2; omega) (by have:=bq.2; omega) fun r M7 ho7 k7=>?_
  have n7:=k7.next
  have k57:=k6.trans k7
  have ha7:=k57.aK ha5 (by omega) (by simp)
  rw[aU,aP,dV ha7 (by simp; omega) ho7.cells ho7.one]
  have k8:ag [a] M7 (M7.put a (.row ((la.set (2 * i) (N .u64 ((max pu qu:Nat) : Int))).set (2 * i + 1) r) false TS 0)):=(ag.refl _ _).put _ (.inr (by simp))
  have ha8:(M7.put a (.row ((la.set (2 * i) (N .u64 ((max pu qu:Nat) : Int))).set (2 * i + 1) r) false TS 0)).heap a=some (.row ((la.set (2 * i) (N .u64 ((max pu qu:Nat) : Int))).set (2 * i + 1) r) false TS 0):=aN _
  have n8:(M7.put a (.row ((la.set (2 * i) (N .u64 ((max pu qu:Nat) : Int))).set (2 * i + 1) r) false TS 0)).next=M7.next:=rfl
  generalize M7.put a (.row ((la.set (2 * i) (N .u64 ((max pu qu:Nat) : Int))).set (2 * i + 1) r) false TS 0)=M8 at *
  have har:a ∉ aI r:=fun hm=>by have:=(ho7.blk a hm).1; omega
  have ho8:=ho7.keep k8 (fun d hd hm=>by simp at hm; subst hm; exact har hd)
  have g1:((la.set (2 * i) (N .u64 ((max pu qu:Nat) : Int))).set (2 * i + 1) r)[2 * i + 1]?=some r:=by rw[List.getElem?_set_self (by simp; omega)]
  have g0:((la.set (2 * i) (N .u64 ((max pu qu:Nat) : Int))).set (2 * i + 1) r)[2 * i]?=some (N .u64 ((max pu qu:Nat) : Int)):=by rw[List.getElem?_set_ne (by omega),List.getElem?_set_self (by omega)]
  rw[aU,aP,aA ha8 g1]
  refine hs ho8 hPi fun M9 ho9 k9=>?_
  have ha9:=k9.aK ha8 (by omega) har
  have n9:=k9.next
  rw[aU,aP,aA ha9 g1]
  refine hk ho9 af6 fun r' M10 s10 c10 b10 k10=>?_
  have n10:=k10.next
  have ags:=k10.aK ha9 (by omega) har
  have har' : a ∉ aI r':=fun hm=>har (b10 a hm)
  rw[aU,aP,wW ((la.set (2 * i) (N .u64 ((max pu qu:Nat) : Int))).set (2 * i + 1) r') ags (by simp; omega) (aR.cells s10) (aR.one s10) (by rw[List.set_set])]
  have k11:ag [a] M10 (M10.put a (.row ((la.set (2 * i) (N .u64 ((max pu qu:Nat) : Int))).set (2 * i + 1) r') false TS 0)):=(ag.refl _ _).put _ (.inr (by simp))
  have ag8:(M10.put a (.row ((la.set (2 * i) (N .u64 ((max pu qu:Nat) : Int))).set (2 * i + 1) r') false TS 0)).heap a=some (.row ((la.set (2 * i) (N .u64 ((max pu qu:Nat) : Int))).set (2 * i + 1) r') false TS 0):=aN _
  have n11:(M10.put a (.row ((la.set (2 * i) (N .u64 ((max pu qu:Nat) : Int))).set (2 * i + 1) r') false TS 0)).next=M10.next:=rfl
  generalize M10.put a (.row ((la.set (2 * i) (N .u64 ((max pu qu:Nat) : Int))).set (2 * i + 1) r') false TS 0)=M11 at *
  have s11:Sl bn M11 r' (g (f (px++qx))):=aR.keep s10 k11 (fun d hd hm=>by simp at hm; subst hm; exact har' hd)
  have g0' : ((la.set (2 * i) (N .u64 ((max pu qu:Nat) : Int))).set (2 * i + 1) r')[2 * i]?=some (N .u64 ((max pu qu:Nat) : Int)):=by rw[List.getElem?_set_ne (by omega),List.getElem?_set_self (by omega)]
  have g1' : ((la.set (2 * i) (N .u64 ((max pu qu:Nat) : Int))).set (2 * i + 1) r')[2 * i + 1]?=some r':=by rw[List.getElem?_set_self (by simp; omega)]
  refine ht ag8 g0' g1' s11 har' c10 hr1 (by have:=bp.1; have:=bq.1; omega) hr2 fun v' M12 agx s12 c12 b12 k12 n12=>?_
  rw[cZ,fZ (by omega)]
  have kr:∀ d∈aI r,M.next≤d∧M3.next≤d:=fun d hd=>by have:=(ho7.blk d hd).1; omega
  -- all that was changed: the set's block,and new ones
  have adn:ag [a] M3 M12:=by
   have w7:ag [a] M3 M7:=k35.trans (k57.mono (by simp))
   have w8:=w7.trans k8
   have w9:=w8.bW k9 fun d hd=>.inl (kr d hd).2
   have w10:=w9.bW k10 fun d hd=>.inl (kr d hd).2
   exact(w10.trans k11).trans k12
  refine adA M12 (k3.trans adn) (hA3.put ha3 hlt ?_ adn (fun d hd=>.inl (by simpa using hd)) s12 c12 (fun d hd=>.inr (kr d (b10 d (b12 d hd))).1) (fun d h=>h) (fun h=>by rcases h with h | h; exact hA.nb h; omega))
  rw[agx]
  rw[List.set_comm (i:=2 * i + 1) (j:=2 * i) _ _ (by omega),List.set_set,List.set_set]
  rfl
 ·have he:i=16:=by
   have:¬ (i:Int)<16:=of_decide_eq_false hge
   omega
  subst he
  exact hQ M3 hA3 k3
theorem Fx {f g:List Nat→List Nat} {ps qs:List Pt} : ∀ i,(qY f g ps qs i).length=ps.length
 | 0=>rfl
 | i + 1=>by rw[qY,List.length_set,Fx i]
theorem SY {f g:List Nat→List Nat} {ps qs:List Pt} (hl:ps.length=16) : ∀ {i j:Nat},i≤16→j<i→(qY f g ps qs i).getD j (0,[])=rT f g (ps.getD j (0,[])) (qs.getD j (0,[]))
 | i + 1,j,hi,h=>by
   rw[qY]
   by_cases e:i=j
   ·subst e
    rw[EZ (by rw[Fx]; omega)]
   ·rw[getD_set_ne e,SY hl (by omega) (by omega)]
theorem iZ {p:Pt} {x:Nat} : jg p x=true↔(1≤x∧x≤p.1)∨x∈p.2:=by
 unfold jg
 simp only[Bool.or_eq_true,Bool.and_eq_true,decide_eq_true_eq]
theorem Di:∀ (xs:List Nat) (u x:Nat),(∀ y∈xs,1≤y)→(jg (settle u xs) x=true↔(1≤x∧x≤u)∨x∈xs)
 | [],u,x,_=>by rw[iZ]; simp[settle,dS]
 | y :: xs,u,x,h=>by
   by_cases hy:y≤u + 1
   ·have e:settle u (y :: xs)=settle (max u y) xs:=by
     unfold settle
     rw[dS,if_pos hy]; rfl
    have h1:=h y (by simp)
    rw[e,Di xs (max u y) x (fun z hz=>h z (by simp[hz])),List.mem_cons]
    constructor
    ·rintro(⟨a,b⟩ | c)
     ·by_cases hx:x≤u
      ·exact .inl ⟨a,hx⟩
      ·exact .inr (.inl (by omega))
     ·exact .inr (.inr c)
    ·rintro(⟨a,b⟩ | c | c)
     ·exact .inl ⟨a,by omega⟩
     ·exact .inl ⟨by omega,by omega⟩
     ·exact .inr c
   ·have e:settle u (y :: xs)=(u,y :: xs):=by
     unfold settle
     rw[dS,if_neg hy]; rfl
    rw[e,iZ]
theorem Ri {k n:Nat} {xs:List Nat} {x:Nat} : x∈eX k n xs↔x=n∨x∈xs:=by
 refine⟨DI,fun h=>?_⟩
 unfold eX
 rcases h with h | h
 ·simp[h]
 ·rw[← List.take_append_drop k xs,List.mem_append] at h
  rw[List.mem_append,List.mem_cons]
  rcases h with h | h
  ·exact .inl h
  ·exact .inr (.inr h)
theorem aaw {p:Pt} {n x:Nat} (hp:jZ p) (hn:1≤n) (hok:(fQ p n).1=true) : jg (fQ p n).2 x=true↔jg p x=true∨x=n:=by
 unfold fQ at hok ⊢
 by_cases h:n∈p.2∨n≤p.1
 ·rw[if_pos h]
  constructor
  ·exact .inl
  ·rintro(h1 | rfl)
   ·exact h1
   ·rw[iZ]
    rcases h with h | h
    ·exact .inr h
    ·exact .inl ⟨hn,h⟩
 ·rw[if_neg h] at hok ⊢
  by_cases h2:(settle p.1 (eX (below n p.2) n p.2)).2.length≤4096
  ·rw[if_pos h2]
   simp only
   rw[Di _ _ _ (fun y hy=>by rcases Ri.1 hy with rfl | hy; exact hn; have:=hp.2.1 y hy; omega),Ri,iZ]
   constructor
   ·rintro(a | b | c)
    ·exact .inl (.inl a)
    ·exact .inr b
    ·exact .inl (.inr c)
   ·rintro((a | b) | c)
    ·exact .inl a
    ·exact .inr (.inr b)
    ·exact .inr (.inl c)
  ·rw[if_neg h2] at hok; cases hok
theorem IG {p q:Pt} (hp:jZ p) (hq:jZ q) : oK p q=true↔∀ x,jg p x=true→jg q x=true:=by
 constructor
 ·intro h x hx
  unfold oK at h
  simp only[Bool.and_eq_true,List.all_eq_true,decide_eq_true_eq] at h
  rw[iZ] at hx
  rcases hx with hx | hx
  ·rw[iZ]; exact .inl ⟨hx.1,by omega⟩
  ·exact h.2 x hx
 ·intro h
  unfold oK
  simp only[Bool.and_eq_true,List.all_eq_true,decide_eq_true_eq]
  refine⟨?_,fun x hx=>h x (iZ.2 (.inr hx))⟩
  rcases Nat.lt_or_ge q.1 p.1 with hlt | hle
  ·have:=iZ.1 (h (q.1 + 1) (iZ.2 (.inl ⟨by omega,by omega⟩)))
   rcases this with h1 | h1
   ·omega
   ·have:=hq.2.1 _ h1; omega
  ·exact hle
theorem abk {p:Pt} {n:Nat} : (fQ p n).2.2.length≤p.2.length + 1:=by
 unfold fQ
 split
 ·exact Nat.le_succ _
 ·split
  ·have h1:=Dh p.1 (eX (below n p.2) n p.2)
   have h2:=Et (x:=n) (below_le n p.2)
   simp only; omega
  ·exact Nat.le_succ _
theorem UL {p:Pt} {n:Nat} (h:p.2.length<4096) : (fQ p n).1=true:=by
 unfold fQ
 split
 ·rfl
 ·have h1:=Dh p.1 (eX (below n p.2) n p.2)
  have h2:=Et (x:=n) (below_le n p.2)
  rw[if_pos (by omega)]
theorem Pf {ps:List Pt} {d:ay} (hl:∀ p∈ps,p.2.length<4096) (hg:good d=true) : kI ps d=(0,ps.set d.1.toNat (fQ (ps.getD d.1.toNat (0,[])) d.2).2):=by
 unfold kI
 rw[if_pos hg,UL (vW (R:=fun p=>p.2.length<4096) hl (by decide) _),if_pos rfl]
theorem Zi {ps:List Pt} {d:ay} {k:Nat} (hl:∀ p∈ps,p.2.length≤k) : ∀ p∈(kI ps d).2,p.2.length≤k + 1:=by
 unfold kI
 split
 ·split
  ·intro p hp
   rcases List.mem_or_eq_of_mem_set hp with hp | rfl
   ·have:=hl p hp; omega
   ·have h1:=abk (p:=ps.getD d.1.toNat (0,[])) (n:=d.2)
    have h2:=vW (R:=fun p=>p.2.length≤k) hl (Nat.zero_le _) d.1.toNat
    omega
  ·intro p hp; have:=hl p hp; omega
 ·intro p hp; have:=hl p hp; omega
section
variable {ps:List Pt} {d:ay}
theorem Rc (hg:good d=true) : 1≤d.2∧d.2≤1099511627776∧d.1.toNat<16:=by
 simp only[good,Bool.and_eq_true,decide_eq_true_eq] at hg
 omega
theorem aaP (h16:ps.length=16) (hw:∀ p∈ps,jZ p) (hl:∀ p∈ps,p.2.length<4096) (hg:good d=true) (j x:Nat) :
  jg ((kI ps d).2.getD j (0,[])) x=true↔jg (ps.getD j (0,[])) x=true∨(j=d.1.toNat∧x=d.2):=by
 obtain⟨h1,h2,h3⟩:=Rc hg
 rw[Pf hl hg]
 simp only
 by_cases e:d.1.toNat=j
 ·subst e
  rw[EZ (by omega),aaw (oO hw _) h1 (UL (vW (R:=fun p=>p.2.length<4096) hl (by decide) _))]
  simp
 ·rw[getD_set_ne e]
  simp[Ne.symm e]
theorem TJ {qs:List Pt} {e:ay} (hw:∀ p∈ps,jZ p) (hw2:∀ p∈qs,jZ p) (h:oL ps qs=true) (he:eD ps e=true) : eD qs e=true:=by
 unfold eD at he ⊢
 simp only[Bool.and_eq_true] at he ⊢
 exact⟨he.1,(IG (oO hw _) (oO hw2 _)).1 (wL.1 h _ (Rc he.1).2.2) _ he.2⟩
end
def OwX (T:Nat) (M:RM) (base:Nat) (v:AV) (L:List UInt8) : Prop :=
 Own M base T 1 v (SS L) L.length∨∃ b,v=.slc b 0 L.length (.ex L.length)∧base≤b∧b<M.next∧M.heap b=some (.row (SS L) false T 0)
theorem OwX.keep {T base:Nat} {M M' : RM} {v:AV} {L:List UInt8} (h:OwX T M base v L) (hk:ag [] M M') : OwX T M' base v L:=by
 rcases h with h | ⟨b,rfl,h1,h2,h3⟩
 ·exact .inl (h.keep hk (by simp))
 ·exact .inr ⟨b,rfl,h1,Nat.lt_of_lt_of_le h2 hk.next,hk.aK h3 h2 (by simp)⟩
structure PO (TP TU base:Nat) (M:RM) (v:AV) (out:List kV) (cs:List AV) (ws:Nat→AV) : Prop where
 own:Own M base TP 3 v cs out.length
 row:∀ (k:Nat) (hk:k<out.length),cs[3 * k]?=some (N .i64 (out[k].1.1:Int))∧cs[3 * k + 1]?=some (N .u64 (out[k].1.2:Int))∧cs[3 * k + 2]?=some (ws k)∧Ow bn M base TU (ws k) out[k].2
 apart:∀ i j,i<out.length→j<out.length→i≠j→∀ d∈aI (ws i),d ∉ aI (ws j)
 off:∀ i,i<out.length→∀ d∈aI (ws i),d ∉ aI v
section
variable {TP TU base:Nat} {M M' : RM} {v:AV} {out:List kV} {cs:List AV} {ws:Nat→AV}
theorem PO.empty (h:Own M base TP 3 v [] 0) : PO TP TU base M v [] [] (fun _=>bB) :=
 ⟨h,fun k hk=>absurd hk (Nat.not_lt_zero _),fun i j hi=>absurd hi (Nat.not_lt_zero _),fun i hi=>absurd hi (Nat.not_lt_zero _)⟩
theorem PO.keep {ks:List Nat} (h:PO TP TU base M v out cs ws) (hk:ag ks M M') (hs:∀ d∈ks,d<base∨M.next≤d) : PO TP TU base M' v out cs ws:=by
 refine⟨h.own.keep hk (fun d hd hm=>by have:=h.own.blk d hd; have:=hs d hm; omega),fun k hk'=>?_,h.apart,h.off⟩
 obtain⟨a1,a2,a3,a4⟩:=h.row k hk'
 exact⟨a1,a2,a3,a4.keep hk fun d hd hm=>by have:=a4.blk d hd; have:=hs d hm; omega⟩
theorem PO.at (h:PO TP TU base M v out cs ws) {i:Nat} (hi:i<out.length) :
  ∃ b,v=.slc b 0 out.length (.op 3)∧base≤b∧b<M.next∧M.heap b=some (.row cs true TP 0)∧cs.length=out.length * 3∧∀ (kd:IntKind) (K:AV→Prop),ah v (N kd (i:Int)) 3 K=K (.ptr b (3 * i)):=by
 obtain⟨b,h1,h2,h3,h4,h5⟩:=Own.uK h.own (by omega)
 refine⟨b,h1,h2,h3,h4,h5,fun kd K=>?_⟩
 rw[h1,nV]
 simp only[Int.toNat_natCast]
 rw[show 0 + i * 3=3 * i by omega]
 exact propext ⟨fun h=>h.2.2,fun h=>⟨by omega,by omega,h⟩⟩
theorem PO.set (h:PO TP TU base M v out cs ws) {i b u:Nat} {w:AV} {xs:List Nat} {M1 M2:RM} {ks:List Nat} (hi:i<out.length) (hv:v=.slc b 0 out.length (.op 3)) (k1:ag ks M M1) (hks:∀ d∈ks,d∈aI (ws i))
  (hw:Ow bn M1 base TU w xs) (hw2:w=ws i∨∀ d∈aI w,M.next≤d) (hb:M2=M1.put b (.row ((cs.set (3 * i + 1) (N .u64 (u:Int))).set (3 * i + 2) w) true TP 0)) :
  PO TP TU base M2 v (out.set i ((out[i].1.1,u),xs)) ((cs.set (3 * i + 1) (N .u64 (u:Int))).set (3 * i + 2) w) (fun j=>if j=i then w else ws j)∧ag (b :: ks) M M2:=by
 obtain⟨b',e,hb1,hb2,hb3,hb4,_⟩:=h.at hi
 obtain rfl:b=b':=by rw[hv] at e; injection e
 have n1:=k1.next
 have kk:ag [b] M1 M2:=by subst hb; exact(ag.refl _ _).put _ (.inr (by simp))
 have hh:M2.heap b=some (.row ((cs.set (3 * i + 1) (N .u64 (u:Int))).set (3 * i + 2) w) true TP 0):=by subst hb; exact aN _
 have hbv:∀ j,j<out.length→b ∉ aI (ws j):=fun j hj hm=>h.off j hj b hm (by rw[hv]; simp[aI])
 have hbw:b ∉ aI w:=by
  rcases hw2 with rfl | hw2
  ·exact hbv i hi
  ·exact fun hm=>by have:=hw2 b hm; omega
 refine⟨⟨?_,fun j hj=>?_,fun j1 j2 q1 q2 hne d (hd:d∈aI (if j1=i then w else ws j1))=>show d ∉ aI (if j2=i then w else ws j2) from ?_,fun j hj d hd=>?_⟩,(k1.mono (fun d hd=>List.mem_cons_of_mem _ hd)).trans (kk.mono (by simp))⟩
 ·rw[List.length_set,hv]
  exact .op _ _ _ hb1 (Nat.lt_of_lt_of_le hb2 (Nat.le_trans n1 kk.next)) hh (by simp; omega)
 ·have hj' : j<out.length:=by rw[List.length_set] at hj; exact hj
  obtain⟨a1,a2,a3,a4⟩:=h.row j hj'
  by_cases hji:j=i
  ·subst hji
   rw[List.getElem_set_self]
   simp only[if_true]
   refine⟨?_, ?_, ?_,hw.keep kk fun d hd hm=>?_⟩
   ·rw[List.getElem?_set_ne (by omega),List.getElem?_set_ne (by omega)]; exact a1
   ·rw[List.getElem?_set_ne (by omega),List.getElem?_set_self (by omega)]
   ·rw[List.getElem?_set_self (by rw[List.length_set]; omega)]
   ·simp at hm; subst hm; exact hbw hd
  ·rw[List.getElem_set_ne (Ne.symm hji)]
   simp only[if_neg hji]
   refine⟨?_, ?_, ?_,(a4.keep k1 fun d hd hm=>?_).keep kk fun d hd hm=>?_⟩
   ·rw[List.getElem?_set_ne (by omega),List.getElem?_set_ne (by omega)]; exact a1
   ·rw[List.getElem?_set_ne (by omega),List.getElem?_set_ne (by omega)]; exact a2
   ·rw[List.getElem?_set_ne (by omega),List.getElem?_set_ne (by omega)]; exact a3
   ·exact h.apart j i hj' hi hji d hd (hks d hm)
   ·simp at hm; subst hm; exact hbv j hj' hd
 ·rw[List.length_set] at q1 q2
  by_cases e1:j1=i
  ·rw[if_pos e1] at hd
   rw[if_neg (fun e=>hne (e1.trans e.symm))]
   rcases hw2 with rfl | hw2
   ·exact h.apart i j2 hi q2 (fun e=>hne (e1.trans e)) d hd
   ·intro hm
    have:=hw2 d hd
    have:=((h.row j2 q2).2.2.2.blk d hm).2
    omega
  ·rw[if_neg e1] at hd
   by_cases e2:j2=i
   ·rw[if_pos e2]
    rcases hw2 with rfl | hw2
    ·exact h.apart j1 i q1 hi e1 d hd
    ·intro hm
     have:=hw2 d hm
     have:=((h.row j1 q1).2.2.2.blk d hd).2
     omega
   ·rw[if_neg e2]
    exact h.apart j1 j2 q1 q2 hne d hd
 ·rw[List.length_set] at hj
  have hd:d∈aI (if j=i then w else ws j):=hd
  by_cases e1:j=i
  ·rw[if_pos e1] at hd
   intro hm
   rw[hv] at hm
   simp[aI] at hm
   subst hm; exact hbw hd
  ·rw[if_neg e1] at hd
   exact h.off j hj d hd
theorem PO.more (h:PO TP TU base M v out cs ws) {i b x:Nat} (hi:i<out.length) (hv:v=.slc b 0 out.length (.op 3)) (hlen:out[i].2.length≤1000000) (hbase:base≤M.next) {K:RM→Prop}
  (hK:∀ M' ks cs' ws',PO TP TU base M' v (out.set i (out[i].1,out[i].2++[x])) cs' ws'→ag ks M M'→(∀ d∈ks,base≤d)→K M') :
  appW TU 1 8 [(N .u64 0)] false (ws i) (.slc M.next 0 1 (.ex 1)) (M.push (.row [N .u64 (x:Int)] false TU 0)) fun t80 agG=>aC agG (.ptr b (3 * i + 2)) t80 1 K:=by
 obtain⟨b',e,hb1,hb2,hb3,hb4,_⟩:=h.at hi
 obtain rfl:b=b':=by rw[hv] at e; injection e
 obtain⟨a1,a2,a3,a4⟩:=h.row i hi
 refine qW (E:=bn) (a:=x) a4 hbase (Nat.le_refl _) (by omega) (by omega) ?_
 intro v' M' o1 k1 n1 hv'
 have hh:M'.heap b=some (.row cs true TP 0):=k1.aK hb3 hb2 (fun hm=>h.off i hi b hm (by rw[hv]; simp[aI]))
 rw[dV hh (by omega) o1.cells o1.one]
 have e2:cs.set (3 * i + 1) (N .u64 (out[i].1.2:Int))=cs:=RV a2
 obtain⟨h1,h2⟩:=h.set (u:=out[i].1.2) (w:=v') (xs:=out[i].2++[x]) (M1:=M') hi hv k1 (fun d hd=>hd) o1 hv' rfl
 rw[e2] at h1 h2
 refine hK _ _ _ _ h1 h2 fun d hd=>?_
 rcases List.mem_cons.1 hd with rfl | hd
 ·exact hb1
 ·exact(a4.blk d hd).1
end
def adJ (l:List ay) (i:Nat) (o:List kV) : List kV:=if i=0∨(l.getD i (0,0)).1≠(l.getD (i - 1) (0,0)).1 then o++[(((l.getD i (0,0)).1.toNat,0),[])] else o
def bump (p:kV) (n:Nat) : kV:=if p.2=[]∧n=p.1.2 + 1 then((p.1.1,n),[]) else(p.1,p.2++[n])
def Qe (o:List kV) (n:Nat) : List kV:=o.set (o.length - 1) (bump (o.getD (o.length - 1) ((0,0),[])) n)
def CB (l:List ay) : Nat→List kV
 | 0=>[]
 | i + 1=>Qe (adJ l i (CB l i)) (l.getD i (0,0)).2
def Lh (l:List ay) : List kV:=CB l l.length
theorem zG {α:Type} {l:List α} {i:Nat} {d:α} (h:i<l.length) : l.getD i d=l[i]:=by
 rw[List.getD_eq_getElem?_getD,List.getElem?_eq_getElem h]; rfl
theorem JS {d:ay} (h:good d=true) : 0≤d.1∧d.1<16∧d.2≤1099511627776∧1≤d.2:=by
 simp only[good,Bool.and_eq_true,decide_eq_true_eq] at h
 omega
section
variable {TP TU base:Nat} {M:RM} {v:AV} {out:List kV} {cs:List AV} {ws:Nat→AV}
end
theorem aam {ps:List Pt} {d:ay} : (kI ps d).2.length=ps.length:=by
 unfold kI
 split
 ·split
  ·simp only; rw[List.length_set]
  ·rfl
 ·rfl
structure ahs (l:List ay) (i:Nat) (ps:List Pt) : Prop where
 len:ps.length=16
 wf:∀ p∈ps,jZ p
 few:∀ p∈ps,p.2.length≤i
 has:∀ k (hk:k<l.length),k<i→good l[k]=true→eD ps l[k]=true
theorem Bz {a b:ay} : zY a b=true↔a.1<b.1∨(a.1=b.1∧a.2<b.2):=by
 simp[zY]
theorem OO {a:ay} : ¬ zY a a=true:=by rw[Bz]; omega
theorem Wi {a b:ay} (h:zY a b=true) : ¬ zY b a=true:=by rw[Bz] at *; omega
def Vp (l:List ay) : Prop:=l.Pairwise fun a b=>zY a b=true
theorem UX:∀ {xs ys:List ay},Vp xs→Vp ys→(∀ x,x∈xs↔x∈ys)→xs=ys
 | [],[],_,_,_=>rfl
 | [],y :: ys,_,_,h=>by have:=(h y).2 (by simp); simp at this
 | x :: xs,[],_,_,h=>by have:=(h x).1 (by simp); simp at this
 | x :: xs,y :: ys,h1,h2,h=>by
   have a1:=List.pairwise_cons.1 h1
   have a2:=List.pairwise_cons.1 h2
   have hxy:x=y:=by
    rcases List.mem_cons.1 ((h x).1 (by simp)) with e | e
    ·exact e
    ·rcases List.mem_cons.1 ((h y).2 (by simp)) with e' | e'
     ·exact e'.symm
     ·exact absurd (a1.1 y e') (Wi (a2.1 x e))
   subst hxy
   rw[UX a1.2 a2.2 fun z=>⟨fun hz=>?_,fun hz=>?_⟩]
   ·rcases List.mem_cons.1 ((h z).1 (by simp[hz])) with rfl | e
    ·exact absurd (a1.1 z hz) OO
    ·exact e
   ·rcases List.mem_cons.1 ((h z).2 (by simp[hz])) with rfl | e
    ·exact absurd (a2.1 z hz) OO
    ·exact e
def nums (p:Pt) : List Nat:=List.range' 1 p.1++p.2
def QR (i:Nat) (p:Pt) : List ay:=(nums p).map fun n=>((i:Int),n)
def lv (ps:List Pt) : Nat→List ay
 | 0=>[]
 | i + 1=>lv ps i++QR i (ps.getD i (0,[]))
theorem QC {p:Pt} {n:Nat} : n∈nums p↔jg p n=true:=by
 rw[iZ,nums,List.mem_append,List.mem_range'_1]
 constructor
 ·rintro(h | h)
  ·exact .inl (by omega)
  ·exact .inr h
 ·rintro(h | h)
  ·exact .inl (by omega)
  ·exact .inr h
theorem yY {ps:List Pt} {d:ay} : ∀ {i:Nat},d∈lv ps i↔0≤d.1∧d.1<i∧jg (ps.getD d.1.toNat (0,[])) d.2=true
 | 0=>by simp[lv]; omega
 | i + 1=>by
   rw[lv,List.mem_append,yY,QR,List.mem_map]
   constructor
   ·rintro(⟨h1,h2,h3⟩ | ⟨n,h,rfl⟩)
    ·exact⟨h1,by omega,h3⟩
    ·exact⟨by simp,by simp; omega,by simpa using QC.1 h⟩
   ·rintro⟨h1,h2,h3⟩
    by_cases h:d.1<i
    ·exact .inl ⟨h1,h,h3⟩
    ·have e:d.1.toNat=i:=by omega
     rw[e] at h3
     exact .inr ⟨d.2,QC.2 h3,Prod.ext (by simp; omega) rfl⟩
theorem aab {p:Pt} (h:jZ p) : Asc (nums p):=by
 unfold nums Asc
 rw[List.pairwise_append]
 refine⟨List.pairwise_lt_range',h.1,fun a ha b hb=>?_⟩
 have:=List.mem_range'_1.1 ha
 have:=h.2.1 b hb
 omega
theorem KA {ps:List Pt} (h:∀ p∈ps,jZ p) : ∀ i,Vp (lv ps i)
 | 0=>.nil
 | i + 1=>by
   unfold Vp
   rw[lv,List.pairwise_append]
   refine⟨KA h i, ?_,fun a ha b hb=>?_⟩
   ·rw[QR,List.pairwise_map]
    exact List.Pairwise.imp (fun {a b} (hab:a<b)=>by rw[Bz]; exact .inr ⟨rfl,hab⟩) (aab (oO h i))
   ·have h1:=(yY.1 ha).2.1
    rw[QR,List.mem_map] at hb
    obtain⟨n,_,rfl⟩:=hb
    exact Bz.2 (.inl h1)
theorem O6 {ps:List Pt} (h:∀ p∈ps,jZ p) (d:ay) : d∈lv ps 16↔eD ps d=true:=by
 rw[yY,eD,Bool.and_eq_true]
 constructor
 ·rintro⟨h1,h2,h3⟩
  refine⟨?_,h3⟩
  have hw:=oO h d.1.toNat
  have:1≤d.2∧d.2≤1099511627776:=by
   rcases iZ.1 h3 with h | h
   ·have:=hw.2.2.1; omega
   ·have:=hw.2.1 _ h; have:=hw.2.2.2.1 _ h; omega
  simp[good]; omega
 ·rintro⟨h1,h3⟩
  simp[good] at h1
  exact⟨by omega,by omega,h3⟩
def wM:List kV→Option Int→List ay→List kV
 | o,_,[]=>o
 | o,p,d :: ds=>wM (Qe (if p=some d.1 then o else o++[((d.1.toNat,0),[])]) d.2) (some d.1) ds
theorem FM {l:List ay} : ∀ (k i:Nat),i + k=l.length→wM (CB l i) (if i=0 then none else some (l.getD (i - 1) (0,0)).1) (l.drop i)=Lh l
 | 0,i,h=>by
   rw[List.drop_of_length_le (by omega),wM,Lh]
   congr 1
 | k + 1,i,h=>by
   have hi:i<l.length:=by omega
   have hD:l.getD i (0,0)=l[i]:=zG hi
   have ih:=FM (l:=l) k (i + 1) (by omega)
   rw[if_neg (show ¬ i + 1=0 by omega),Nat.add_sub_cancel,CB,hD] at ih
   rw[List.drop_eq_getElem_cons hi,wM,← ih]
   congr 2
   unfold adJ
   rw[hD]
   by_cases h0:i=0
   ·subst h0; simp
   ·rw[if_neg h0]
    by_cases he:l[i].1=(l.getD (i - 1) (0,0)).1
    ·rw[if_pos (by rw[he]),if_neg (by rintro(h | h); exact h0 h; exact h he)]
    ·rw[if_neg (fun h=>he (Option.some.inj h).symm),if_pos (.inr he)]
theorem KN (o:List kV) (p:kV) (n:Nat) : Qe (o++[p]) n=o++[bump p n]:=by
 have e:(o++[p]).length - 1=o.length:=by simp
 unfold Qe
 rw[e,List.getD_eq_getElem?_getD,List.getElem?_append_right (Nat.le_refl _),List.set_append_right _ _ (Nat.le_refl _)]
 simp
theorem OT (i:Int) : ∀ (xs:List Nat) (o:List kV) (p:kV) (rest:List ay),wM (o++[p]) (some i) (xs.map (fun n=>(i,n))++rest)=wM (o++[xs.foldl bump p]) (some i) rest
 | [],_,_,_=>rfl
 | x :: xs,o,p,rest=>by
   rw[List.map_cons,List.cons_append,wM,if_pos rfl,KN,OT i xs,List.foldl_cons]
theorem K8 (i:Nat) : ∀ (k a:Nat),(List.range' (a + 1) k).foldl bump ((i,a),[])=((i,a + k),[])
 | 0,a=>rfl
 | k + 1,a=>by
   rw[List.range'_succ,List.foldl_cons,bump,if_pos ⟨rfl,rfl⟩,K8 i k (a + 1)]
   congr 2; omega
theorem O1 (q:Nat × Nat) : ∀ (xs ys:List Nat),ys≠[]→xs.foldl bump (q,ys)=(q,ys++xs)
 | [],ys,_=>by simp
 | x :: xs,ys,h=>by
   rw[List.foldl_cons,bump,if_neg (fun h'=>h h'.1),O1 q xs _ (by simp),List.append_assoc]; rfl
theorem Y8 {i:Nat} {p:Pt} (h:jZ p) : (nums p).foldl bump ((i,0),[])=((i,p.1),p.2):=by
 obtain⟨u,xs⟩:=p
 rw[nums,List.foldl_append,show(1:Nat)=0 + 1 from rfl,K8 i u 0,Nat.zero_add]
 cases xs with
 | nil=>rfl
 | cons x xs =>
   have:=h.2.1 x (by simp)
   rw[List.foldl_cons,bump,if_neg (fun h'=>by simp only at h' this; omega),O1 _ _ _ (by simp)]
   rfl
theorem Im {ps:List Pt} (h:∀ p∈ps,jZ p) : ∀ i:Nat,∃ p:Option Int,(∀ j,p=some j→j<i)∧∀ rest,wM [] none (lv ps i++rest)=wM (FU ps i) p rest
 | 0=>⟨none,by simp,fun rest=>rfl⟩
 | i + 1=>by
   obtain⟨p,hp,hr⟩:=Im h i
   have hw:=oO h i
   by_cases he:0<(ps.getD i (0,[])).1∨0<(ps.getD i (0,[])).2.length
   ·refine⟨some (i:Int),fun j hj=>by have:=Option.some.inj hj; omega,fun rest=>?_⟩
    rw[lv,List.append_assoc,hr,FU,if_pos he,QR]
    have hne:nums (ps.getD i (0,[]))≠[]:=by
     unfold nums
     intro h0
     obtain⟨q1,q2⟩:=List.append_eq_nil_iff.1 h0
     have q1:=congrArg List.length q1
     have q2:=congrArg List.length q2
     rw[List.length_range'] at q1
     simp only[List.length_nil] at q1 q2
     omega
    have hb:=Y8 (i:=i) hw
    generalize nums (ps.getD i (0,[]))=ns at *
    cases ns with
    | nil=>exact absurd rfl hne
    | cons n ns =>
      rw[List.map_cons,List.cons_append,wM,if_neg (fun h'=>by have:=hp _ h'; omega),KN,OT,← hb,List.foldl_cons,Int.toNat_natCast]
   ·refine⟨p,fun j hj=>by have:=hp j hj; omega,fun rest=>?_⟩
    rw[lv,List.append_assoc,hr,FU,if_neg he,List.append_nil]
    have e:QR i (ps.getD i (0,[]))=[]:=by
     unfold QR nums
     have h1:(ps.getD i (0,[])).1=0:=by omega
     have h2:(ps.getD i (0,[])).2=[]:=List.length_eq_zero_iff.1 (by omega)
     rw[h1,h2]; rfl
    rw[e,List.nil_append]
theorem Tt {ps:List Pt} (h:∀ p∈ps,jZ p) : Lh (lv ps 16)=parts ps:=by
 rw[← FM (l:=lv ps 16) (lv ps 16).length 0 (by omega)]
 obtain⟨p,_,hr⟩:=Im h 16
 have:=hr []
 rw[List.append_nil] at this
 simp only[CB,if_true,List.drop_zero]
 rw[this]; rfl
structure BC (ps:List Pt) (w:List ay) : Prop where
 len:ps.length=16
 wf:∀ p∈ps,jZ p
 srt:Vp w
 mem:∀ d,d∈w↔eD ps d=true
theorem BC.eq {ps:List Pt} {w:List ay} (h:BC ps w) : w=lv ps 16:=UX h.srt (KA h.wf 16) fun d=>by rw[h.mem,O6 h.wf]
theorem BC.parts {ps:List Pt} {w:List ay} (h:BC ps w) : parts ps=Lh w:=by rw[h.eq,Tt h.wf]
theorem BC.good {ps:List Pt} {w:List ay} (h:BC ps w) : ∀ d∈w,good d=true:=fun d hd=>by
 have:=(h.mem d).1 hd
 rw[eD,Bool.and_eq_true] at this
 exact this.1
theorem BC.empty:BC jy []:=by
 refine⟨rfl,IX,.nil,fun d=>?_⟩
 rw[eD,Dm]
 simp[jg]
 intro _ h; omega
theorem Ym {M:RM} {base T:Nat} {v:AV} {xs:List Nat} (h:Ow bn M base T v xs) (hn:0<xs.length) : ∃ b,v=vv b xs.length∧base≤b∧b<M.next∧M=PM M b T xs.toArray:=by
 obtain⟨b,h1,h2,h3,h4,h5⟩:=Own.uK h hn
 refine⟨b,h1,h2,h3, ?_⟩
 unfold PM RM.put
 obtain⟨n,hp,lo⟩:=M
 simp only at h4 ⊢
 congr 1
 funext c
 by_cases hc:c=b
 ·subst hc; rw[if_pos rfl,h4]
 ·rw[if_neg hc]
theorem adV {M:RM} {b T base:Nat} {d:Array Nat} (h1:base≤b) (h2:b<M.next) : Ow bn (PM M b T d) base T (vv b d.size) d.toList:=by
 have:Own (PM M b T d) base T 1 (.slc b 0 d.size (.op 1)) (bn.row d.toList) d.size:=.op _ _ _ h1 h2 PM.heap (by rw[PM.IZ]; omega)
 show Own (PM M b T d) base T 1 (.slc b 0 d.size (.op 1)) (bn.row d.toList) d.toList.length
 rw[Array.length_toList]; exact this
theorem UY {M M' : RM} {b T:Nat} {d:Array Nat} (k:ag [] M M') : ag [b] M (PM M' b T d):=(k.mono (by simp)).put _ (.inr (by simp))
def jK (xs:List Nat) : List Nat:=(Sort.sort lN xs.toArray).toList
theorem Y3:jK []=[]:=by
 unfold jK Sort.sort
 rw[pdq_eq,if_pos (by simp),Sort.insertionSort,Sort.insOuter,if_neg (by simp)]
theorem LJ (xs:List Nat) : (jK xs).Perm xs:=by
 have h:=(Sort.sort_sorts lN Qy xs.toArray).1
 have h2:=h.2.2
 rw[Array.extract_eq_self_of_le (by rw[h.1]; exact Nat.le_refl _),Array.extract_eq_self_of_le (Nat.le_refl _)] at h2
 exact h2
theorem FX (xs:List Nat) : (jK xs).length=xs.length:=(LJ xs).length_eq
theorem Z9 (xs:List Nat) : Up (jK xs):=by
 intro i j hi hj hij
 have h:=(Sort.sort_sorts lN Qy xs.toArray)
 have hs:(Sort.sort lN xs.toArray).size=xs.toArray.size:=h.1.1
 unfold jK at hi hj ⊢
 rw[Array.length_toList] at hi hj
 rcases Nat.lt_or_ge i j with h1 | h1
 ·have:=h.2 i j (Nat.zero_le _) h1 (by omega)
  rw[vK hj,vK hi] at this
  rw[Array.getElem_toList,Array.getElem_toList]
  have:=of_decide_eq_false this
  omega
 ·have:i=j:=by omega
  subst this; exact Nat.le_refl _
def RN (c:ai) : Prop:=∀ {M:RM} {v:AV} {Q:ak},Q (.tup []) M→c [v,N .i64 0,N .i64 ((0:Nat) : Int),N .i64 ((0:Nat) : Int)] M Q
def Rx (c:ai) : Prop:=∀ {M:RM} {v:AV} {Q:ak},Q (.tup []) M→c [v,N .i64 0,N .i64 ((0:Nat) : Int)] M Q
theorem Un {cl:ai} : Rx fun args M Q=>∃ a0 a1 a2,args=[a0,a1,a2]∧eG cl a0 a1 a2 M Q:=by
 intro M v Q hQ
 refine⟨_,_,_,rfl, ?_⟩
 unfold eG
 rw[cZ,show IntKind.i64.wrap ((0:Int) + 1)=1 from rfl]
 refine aG (fun m ys M3=>m=0∧ys=[N .i64 1]∧M3=M) 0 ⟨rfl,rfl,rfl⟩ ?_
 rintro next m ys M3 hnext ⟨rfl,rfl,rfl⟩
 dsimp only[aa]
 rw[dD,show decide ((1:Int)<((0:Nat) : Int))=false from rfl,bz]
 exact hQ
theorem UI {ci c2 c3 cc c4 cp c5 c6 c7 c8:ai} (hi:Rx ci) : RN fun args M Q=>∃ a0 a1 a2 a3,args=[a0,a1,a2,a3]∧gF ci c2 c3 cc c4 cp c5 c6 c7 c8 a0 a1 a2 a3 M Q:=by
 intro M v Q hQ
 refine⟨_,_,_,_,rfl, ?_⟩
 unfold gF
 refine aG (fun m ys M3=>m=0∧ys=[N .i64 0,N .i64 ((0:Nat) : Int),N .i64 ((0:Nat) : Int),Bo true,Bo true]∧M3=M) 0 ⟨rfl,rfl,rfl⟩ ?_
 rintro next m ys M3 hnext ⟨rfl,rfl,rfl⟩
 dsimp only[aa]
 rw[eT,show IntKind.i64.wrap (((0:Nat) : Int) - 0)=0 from rfl,kH,show decide ((0:Int)≤12)=true from rfl,cO]
 exact hi hQ
theorem VQ {T:Nat} {cl cp:ai} (hl:BB cl) (hp:∀ m,Wt T m cp) (h0:RN cp) : Wj (fun xs=>xs.length≤60000) jK T fun args M Q=>∃ a0,args=[a0]∧xZ cl cp a0 M Q:=by
 intro M base v xs Q ho hx hQ
 have hs:Sl bn M v xs:=ho.il
 refine⟨_,rfl, ?_⟩
 unfold xZ
 have hx:xs.length≤60000:=hx
 rw[aR.len hs,jQ,fJ (by omega) (by omega)]
 refine hl (by omega) ?_
 rcases Nat.eq_zero_or_pos xs.length with hn | hn
 ·rw[hn,show Sort.bitsLen 0=0 from rfl]
  refine h0 ?_
  have:=List.length_eq_zero_iff.1 hn
  subst this
  exact hQ M (by rw[Y3]; exact ho) (ag.refl _ _)
 ·obtain⟨b,rfl,h1,h2,h3⟩:=Ym ho hn
  have hb:=qG hn (by omega)
  have hsz:xs.toArray.size=xs.length:=by simp
  have:=hp (xs.length + 1) (M:=M) (b:=b) (a:=0) (e:=xs.toArray.size) (limit:=Sort.bitsLen xs.length) (d:=xs.toArray) (Q:=fun Py M_0=>Q (.tup []) M_0) h2 (by omega) (by omega) (Nat.le_refl _) (by omega) (by omega) fun M' k=>?_
  ·rw[← h3] at this
   simpa using this
  ·have e:(Sort.pdq lN xs.toArray 0 xs.toArray.size (Sort.bitsLen xs.length) true true)=Sort.sort lN xs.toArray:=by rw[Sort.sort]; simp
   rw[e]
   refine hQ _ ?_ (UY k)
   have hsz2:(Sort.sort lN xs.toArray).size=xs.length:=by
    have:=FX xs
    unfold jK at this
    rw[Array.length_toList] at this; exact this
   have:=adV (M:=M') (T:=T) (d:=Sort.sort lN xs.toArray) h1 (Nat.lt_of_lt_of_le h2 k.next)
   rw[hsz2] at this
   exact this
def yC:Nat→List Nat→List Nat
 | _,[]=>[]
 | p,x :: xs=>if x=p then yC x xs else x :: yC x xs
def dd:List Nat→List Nat
 | []=>[]
 | x :: xs=>x :: yC x xs
theorem Ry:∀ (ys:List Nat) (p x:Nat),yC p (ys++[x])=if x=ys.getLastD p then yC p ys else yC p ys++[x]
 | [],p,x=>rfl
 | y :: ys,p,x=>by
   rw[List.cons_append,yC,yC,Ry ys y x,List.getLastD_cons]
   by_cases hy:y=p
   ·rw[if_pos hy,if_pos hy]
   ·rw[if_neg hy,if_neg hy]
    split
    ·rfl
    ·rfl
theorem O4:∀ (k:Nat) (ys:List Nat) (y:Nat) (h:k<(y :: ys).length),(ys.take k).getLastD y=(y :: ys)[k]
 | 0,ys,y,h=>rfl
 | k + 1,[],y,h=>by simp at h
 | k + 1,z :: zs,y,h=>by
   rw[List.take_succ_cons,List.getLastD_cons,O4 k zs z (by simpa using h)]
   rfl
theorem Vf {xs:List Nat} {m:Nat} (h1:1≤m) (h:m<xs.length) : dd (xs.take (m + 1))=if xs[m]=xs[m - 1] then dd (xs.take m) else dd (xs.take m)++[xs[m]]:=by
 rw[List.take_succ_eq_append_getElem h]
 cases xs with
 | nil=>simp at h
 | cons y ys =>
   obtain⟨k,rfl⟩ : ∃ k,m=k + 1:=⟨m - 1,by omega⟩
   have hk:k<(y :: ys).length:=by omega
   rw[List.take_succ_cons,List.cons_append,dd,dd,Ry,O4 k ys y hk]
   simp only[Nat.add_sub_cancel]
   split <;> simp
theorem ac8:∀ (xs:List Nat),(dd xs).length≤xs.length
 | []=>Nat.le_refl _
 | x :: xs=>by
   have:∀ (p:Nat) (l:List Nat),(yC p l).length≤l.length:=by
    intro p l
    induction l generalizing p with
    | nil=>exact Nat.le_refl _
    | cons y l ih=>rw[yC]; split <;> simp <;> have:=ih y <;> omega
   rw[dd]; simp; exact this x xs
theorem Xh {b o n k:Nat} (h:k≤n) (h0:0<n) : bZ 1 (.slc b o n (.op 1)) none (some (N .i64 (k:Int))) none=some (.slc b o k (.op 1)):=by
 simp only[bZ,bnd]
 simp[h]
 omega
theorem PK {T:Nat} : Jf (fun xs=>xs.length≤60000) dd T fun args M Q=>∃ a0,args=[a0]∧sw a0 M Q:=by
 intro M base v xs Q ho hx hQ
 have hx:xs.length≤60000:=hx
 have hs:Sl bn M v xs:=ho.il
 refine⟨_,rfl, ?_⟩
 unfold sw
 have hself:dd xs=xs→Q v M:=fun e=>hQ v M (by rw[e]; exact hs) (Own.lT ho) (fun d hd=>hd) (ag.refl _ _)
 rw[aR.len hs,dD]
 refine aD (fun hg=>?_) (fun hg=>?_)
 ·have hg:xs.length<2:=by
   have:(xs.length:Int)<2:=of_decide_eq_true hg
   omega
  refine hself ?_
  match xs,hg with
  | [],_=>rfl
  | [x],_=>rfl
 have hg:2≤xs.length:=by
  have:¬ (xs.length:Int)<2:=of_decide_eq_false hg
  omega
 obtain⟨b,rfl,h1,h2,h3⟩:=Ym ho (by omega)
 have hsz:xs.toArray.size=xs.length:=by simp
 have hat:∀ i (h:i<xs.length),xs.toArray[i]! = xs[i]:=fun i h=>by rw[vK (by simpa using h)]; simp
 clear hs
 have hself:=hself
 simp only[bH]
 refine aG (fun m ys M3=>∃ i:Nat,m=xs.length - i∧ys=[N .i64 (i:Int)]∧1≤i∧i≤xs.length∧M3=PM M b T xs.toArray∧dd (xs.take i)=xs.take i) _ ⟨1,rfl,rfl,Nat.le_refl _,by omega,h3,by
  match xs,hg with
  | x :: y :: l,_=>rfl⟩ ?_
 rintro next m ys M3 hnext ⟨i,rfl,rfl,hi1,hi,rfl,hdd⟩
 dsimp only[aa]
 have aaS:∀ K:AV→Prop,bQ (vv b xs.length) K=K (N .i64 (xs.length:Int)):=fun K=>by simp[mM]
 rw[aaS,dC]
 refine aD (fun hlt=>?_) (fun hge=>?_)
 rotate_left
 ·have he:i=xs.length:=by
   have:¬ i<xs.length:=of_decide_eq_false hge
   omega
  subst he
  rw[List.take_length] at hdd
  rw[← h3]
  exact hself hdd
 have hlt:i<xs.length:=of_decide_eq_true hlt
 rw[PM.rd hsz.symm (by omega),aZ (by omega) (by omega),PM.rd hsz.symm (by omega),hat i hlt,hat (i - 1) (by omega),bV]
 have hstep:=Vf hi1 hlt
 by_cases heq:xs[i]=xs[i - 1]
 rotate_left
 ·rw[show(((xs[i] : Nat) : Int) == ((xs[i - 1]'(by omega) : Nat) : Int))=false by rw[beq_eq_false_iff_ne]; omega,bz,add1 (by omega)]
  rw[if_neg heq,hdd] at hstep
  exact hnext _ _ _ (by omega) ⟨i + 1,rfl,rfl,by omega,hlt,rfl,by rw[hstep,← List.take_succ_eq_append_getElem hlt]⟩
 rw[show(((xs[i] : Nat) : Int) == ((xs[i - 1]'(by omega) : Nat) : Int))=true by rw[beq_iff_eq]; omega,cO]
 rw[if_pos heq,hdd] at hstep
 rw[pX hlt,dO]
 have ae1:∀ K:AV→Prop,bQ (.slc b (0 + i * 1) (xs.length - i) (.op 1)) K=K (N .i64 ((xs.length - i:Nat) : Int)):=fun K=>by simp[mM]
 have aaq:∀ (j:Nat),j<xs.length - i→∀ (K:AV→Prop),ah (.slc b (0 + i * 1) (xs.length - i) (.op 1)) (N .i64 (j:Int)) 1 K=K (.ptr b (i + j)):=fun j hj K=>by
  rw[nV]
  simp only[Int.toNat_natCast]
  rw[show 0 + i * 1 + j * 1=i + j by omega]
  exact propext ⟨fun h=>h.2.2,fun h=>⟨by omega,by omega,h⟩⟩
 -- the rest: moved down
 refine aG (fun m ys M5=>∃ (k j:Nat) (d:Array Nat),m=xs.length - j∧ys=[N .i64 (k:Int),N .i64 (j:Int)]∧1≤j∧i + j≤xs.length∧1≤k∧k + 1≤i + j∧M5=PM M b T d∧d.size=xs.length∧d.toList.take k=dd (xs.take (i + j))∧(∀ q (h:q<xs.length),i + j≤q + 1→d[q]! = xs[q])) _
  ⟨i,1,xs.toArray,rfl,rfl,by omega,by omega,by omega,by omega,rfl,hsz,by rw[hstep],fun q h _=>hat q h⟩ ?_
 rintro fq m ys M5 dx ⟨k,j,d,rfl,rfl,hj1,hij,hk1,hk,rfl,hds,hpre,hold⟩
 dsimp only[aa]
 rw[ae1,dC]
 refine aD (fun hlt2=>?_) (fun rD=>?_)
 ·have hlt2:j<xs.length - i:=of_decide_eq_true hlt2
  have hij' : i + j<xs.length:=by omega
  refine aT (fun zs M'=>∃ (k' : Nat) (d' : Array Nat),zs=[N .i64 (k' : Int)]∧1≤k'∧k'≤i + j∧M'=PM M b T d'∧d'.size=xs.length∧d'.toList.take k'=dd (xs.take (i + j + 1))∧(∀ q (h:q<xs.length),i + j≤q→d'[q]! = xs[q])) ?_ ?_
  ·rintro zs M' ⟨k',d',rfl,c1,c2,rfl,c3,c4,c5⟩
   dsimp only[aa]
   rw[add1 (by omega)]
   exact dx _ _ _ (by omega) ⟨k',j + 1,d',rfl,rfl,by omega,by omega,c1,by omega,rfl,c3,c4,fun q h hq=>c5 q h (by omega)⟩
  intro J hJ
  have VN:=Vf (xs:=xs) (m:=i + j) (by omega) hij'
  have ld:∀ q (h:q<xs.length) (K:AV→Prop),az (PM M b T d) (.ptr b q) K=K (N .u64 ((d[q]! : Nat) : Int)):=fun q h K=>aA PM.heap (PM.cellAt (by omega))
  rw[aaq j hlt2,ld _ hij',aZ (by omega) (by omega),aaq (j - 1) (by omega),ld _ (by omega),hold (i + j) hij' (by omega),hold (i + (j - 1)) (by omega) (by omega),iT]
  have hpe:xs[i + (j - 1)]'(by omega)=xs[i + j - 1]'(by omega):=by congr 1; omega
  rw[hpe]
  by_cases hne:xs[i + j]=xs[i + j - 1]'(by omega)
  ·rw[show(((xs[i + j] : Nat) : Int) != ((xs[i + j - 1]'(by omega) : Nat) : Int))=false by rw[hne]; simp,bz]
   rw[if_pos hne] at VN
   exact hJ _ _ ⟨k,d,rfl,hk1,by omega,rfl,hds,by rw[VN]; exact hpre,fun q h hq=>hold q h (by omega)⟩
  ·rw[show(((xs[i + j] : Nat) : Int) != ((xs[i + j - 1]'(by omega) : Nat) : Int))=true by simp only[bne_iff_ne,ne_eq]; omega,cO]
   rw[if_neg hne] at VN
   rw[aaq j hlt2,ld _ hij',hold (i + j) hij' (by omega),PM.idx (by omega),PM.put (by omega),add1 (by omega)]
   refine hJ _ _ ⟨k + 1,_,rfl,by omega,by omega,rfl,by simpa using hds, ?_,fun q h hq=>?_⟩
   ·have hkl:k<d.toList.length:=by rw[Array.length_toList]; omega
    rw[VN,← hpre,Array.toList_setIfInBounds,List.take_succ_eq_append_getElem (by rw[List.length_set]; exact hkl),List.getElem_set_self,List.take_set_of_le (Nat.le_refl _)]
   ·rw[← hold q h (by omega)]
    rw[vK (by rw[Array.size_setIfInBounds]; omega),vK (by omega),Array.getElem_setIfInBounds_ne (by omega) (by omega)]
 ·have hij' : i + j=xs.length:=by
   have:¬ j<xs.length - i:=of_decide_eq_false rD
   omega
  rw[hij',List.take_length] at hpre
  have hst:(PM M b T d).stores b (0 + k * 1) (bU [N .u64 0] (xs.length - k))=some ((PM M b T d).put b (.row ((bn.row d.toList).take (0 + k * 1)++bU [N .u64 0] (xs.length - k)++(bn.row d.toList).drop (0 + k * 1 + (bU [N .u64 0] (xs.length - k)).length)) true T 0)):=by
   refine RM.Ec PM.heap ?_ (Nat.zero_le _) (qp _).2
   rw[(qp _).1,PM.IZ]; omega
  rw[pX (by omega),dO]
  refine .inl ⟨_,_,_,_,_,rfl,hst, ?_⟩
  dsimp only
  rw[Xh (by omega) (by omega),dO]
  have hlk:(dd xs).length=k:=by rw[← hpre,List.length_take,Array.length_toList]; omega
  refine hQ _ _ ?_ (show(1:Nat)=1 from rfl) (fun e he=>by simpa [aI] using he) ?_
  ·have hrow:((bn.row d.toList).take (0 + k * 1))=bn.row (dd xs):=by
    rw[← hpre,show 0 + k * 1=k * bn.size by simp[bn],Enc.vB]
   show aR _ 1 (.slc b 0 k (.op 1)) (bn.row (dd xs)) (dd xs).length
   rw[hlk]
   refine .slc _ _ _ _ _ h2 ?_
   have hl:(bn.row (dd xs)).length=k:=by rw[Enc.eu,hlk]; simp[bn]
   rw[RM.dF (aN _) (by rw[hrow]; simp[hl]),List.drop_zero,hrow,Nat.mul_one,List.append_assoc,List.take_left' hl]
  ·refine ag.put ?_ _ (.inr (by simp[aI]))
   exact UY (ag.refl _ _)
theorem aeG {xs:List Nat} (h:Up xs) : xs.Pairwise (· ≤ ·):=List.pairwise_iff_getElem.2 fun i j hi hj hij=>h i j hi hj (Nat.le_of_lt hij)
theorem OU:∀ (ys:List Nat) (p:Nat),(p :: ys).Pairwise (· ≤ ·)→Asc (yC p ys)∧(∀ x∈yC p ys,p<x)∧∀ x,x∈yC p ys↔x∈ys∧x≠p
 | [],p,_=>⟨.nil,by simp[yC],by simp[yC]⟩
 | y :: ys,p,h=>by
   have a1:=List.pairwise_cons.1 h
   have a2:=List.pairwise_cons.1 a1.2
   obtain⟨i1,i2,i3⟩:=OU ys y a1.2
   have hpy:p≤y:=a1.1 y (by simp)
   rw[yC]
   by_cases hy:y=p
   ·rw[if_pos hy]
    subst hy
    refine⟨i1,i2,fun x=>?_⟩
    rw[i3,List.mem_cons]
    constructor
    ·rintro⟨h1,h2⟩; exact⟨.inr h1,h2⟩
    ·rintro⟨h1 | h1,h2⟩
     ·exact absurd h1 h2
     ·exact⟨h1,h2⟩
   ·rw[if_neg hy]
    refine⟨List.pairwise_cons.2 ⟨i2,i1⟩,fun x hx=>?_,fun x=>?_⟩
    ·rcases List.mem_cons.1 hx with rfl | hx
     ·omega
     ·have:=i2 x hx; omega
    ·rw[List.mem_cons,i3,List.mem_cons]
     constructor
     ·rintro(rfl | ⟨h1,h2⟩)
      ·exact⟨.inl rfl,hy⟩
      ·have:=a2.1 x h1
       exact⟨.inr h1,by omega⟩
     ·rintro⟨h1 | h1,h2⟩
      ·exact .inl h1
      ·by_cases hxy:x=y
       ·exact .inl hxy
       ·exact .inr ⟨h1,hxy⟩
theorem aag {ys:List Nat} (h:Up ys) : Asc (dd ys)∧∀ x,x∈dd ys↔x∈ys:=by
 have hp:=aeG h
 cases ys with
 | nil=>exact⟨.nil,fun x=>Iff.rfl⟩
 | cons y ys =>
   obtain⟨i1,i2,i3⟩:=OU ys y hp
   refine⟨List.pairwise_cons.2 ⟨i2,i1⟩,fun x=>?_⟩
   rw[dd,List.mem_cons,i3,List.mem_cons]
   constructor
   ·rintro(h | ⟨h,_⟩)
    ·exact .inl h
    ·exact .inr h
   ·rintro(h | h)
    ·exact .inl h
    ·by_cases hxy:x=y
     ·exact .inl hxy
     ·exact .inr ⟨h,hxy⟩
def jl (p q:Pt) : List Nat:=dd (jK (p.2++q.2))
theorem EJ (p q:Pt) : Asc (jl p q)∧(∀ x,x∈jl p q↔x∈p.2∨x∈q.2)∧(jl p q).length≤p.2.length + q.2.length:=by
 obtain⟨h1,h2⟩:=aag (Z9 (p.2++q.2))
 refine⟨h1,fun x=>?_, ?_⟩
 ·unfold jl
  rw[h2,(LJ _).mem_iff,List.mem_append]
 ·have:=ac8 (jK (p.2++q.2))
  rw[FX,List.length_append] at this
  exact this
theorem Sa {p q:Pt} (hp:jZ p) (hq:jZ q) (hl:p.2.length + q.2.length≤4096) :
  jZ (rT jK dd p q)∧(∀ x,jg (rT jK dd p q) x=true↔jg p x=true∨jg q x=true)∧(rT jK dd p q).2.length≤p.2.length + q.2.length:=by
 obtain⟨h1,h2,h3⟩:=EJ p q
 have he:rT jK dd p q=settle (max p.1 q.1) (jl p q):=rfl
 rw[he]
 have hpos:∀ y∈jl p q,1≤y:=fun y hy=>by
  rcases(h2 y).1 hy with h | h
  ·have:=hp.2.1 y h; omega
  ·have:=hq.2.1 y h; omega
 have hle:∀ y∈jl p q,y≤1099511627776:=fun y hy=>by
  rcases(h2 y).1 hy with h | h
  ·exact hp.2.2.2.1 y h
  ·exact hq.2.2.2.1 y h
 have hm:max p.1 q.1≤1099511627776:=by have:=hp.2.2.1; have:=hq.2.2.1; omega
 obtain⟨s1,s2,s3,s4⟩:=Av (jl p q) (max p.1 q.1) 1099511627776 h1 hm hle
 have hsl:=Dh (max p.1 q.1) (jl p q)
 refine⟨⟨s1,s2,s3,fun x hx=>hle x (LY hx),by omega⟩,fun x=>?_,by omega⟩
 rw[Di _ _ _ hpos,h2,iZ,iZ]
 constructor
 ·rintro(h | h | h)
  ·by_cases hx:x≤p.1
   ·exact .inl (.inl ⟨h.1,hx⟩)
   ·exact .inr (.inl ⟨h.1,by omega⟩)
  ·exact .inl (.inr h)
  ·exact .inr (.inr h)
 ·rintro((h | h) | (h | h))
  ·exact .inl ⟨h.1,by omega⟩
  ·exact .inr (.inl h)
  ·exact .inl ⟨h.1,by omega⟩
  ·exact .inr (.inr h)
def Ey (ps qs:List Pt) : List Pt:=qY jK dd ps qs 16
structure SI (k:Nat) (ps:List Pt) : Prop where
 len:ps.length=16
 wf:∀ p∈ps,jZ p
 few:∀ p∈ps,p.2.length≤k
theorem SI.at {k:Nat} {ps:List Pt} (h:SI k ps) (i:Nat) : jZ (ps.getD i (0,[]))∧(ps.getD i (0,[])).2.length≤k :=
 ⟨oO h.wf i,vW (R:=fun p=>p.2.length≤k) h.few (Nat.zero_le _) i⟩
theorem QH {ps qs:List Pt} {a c:Nat} (h1:SI a ps) (h2:SI c qs) {j:Nat} (hj:j<16) : (Ey ps qs).getD j (0,[])=rT jK dd (ps.getD j (0,[])) (qs.getD j (0,[])):=SY h1.len (Nat.le_refl _) hj
theorem aaB {ps qs:List Pt} {a c:Nat} (h1:SI a ps) (h2:SI c qs) (hk:a + c≤4096) : SI (a + c) (Ey ps qs):=by
 have hlen:(Ey ps qs).length=16:=by rw[Ey,Fx,h1.len]
 have all:∀ p∈Ey ps qs,jZ p∧p.2.length≤a + c:=fun p hp=>by
  obtain⟨i,hi,rfl⟩:=List.getElem_of_mem hp
  rw[hlen] at hi
  have e:=QH h1 h2 hi
  rw[zG (by omega)] at e
  rw[e]
  obtain⟨w1,l1⟩:=h1.at i
  obtain⟨w2,l2⟩:=h2.at i
  obtain⟨r1,_,r3⟩:=Sa w1 w2 (by omega)
  exact⟨r1,by omega⟩
 exact⟨hlen,fun p hp=>(all p hp).1,fun p hp=>(all p hp).2⟩
theorem BC.of {k:Nat} {ps:List Pt} {w:List ay} (h:SI k ps) (hs:Vp w) (hm:∀ d,d∈w↔eD ps d=true) : BC ps w:=⟨h.len,h.wf,hs,hm⟩
theorem Il {ps qs:List Pt} (h1:∀ p∈ps,jZ p) (h2:∀ p∈qs,jZ p) : oL ps qs=true↔∀ d,eD ps d=true→eD qs d=true:=by
 constructor
 ·intro h d hd
  exact TJ h1 h2 h hd
 ·intro h
  rw[wL]
  intro i hi
  rw[IG (oO h1 i) (oO h2 i)]
  intro x hx
  have hm:((i:Int),x)∈lv ps 16:=yY.2 ⟨by simp,by simp; omega,by simpa using hx⟩
  have:=h _ ((O6 h1 _).1 hm)
  rw[eD,Bool.and_eq_true] at this
  simpa using this.2
def RD (T:Nat) (c:ai) : Prop:=XA (fun xs=>xs.length≤60000) (fun xs=>xs.length≤60000) jK dd T c
theorem RD.use {T:Nat} {c:ai} (h:RD T c) {M:RM} {a b:Nat} {ps qs:List Pt} {S S' : Nat→Prop} {k l:Nat} {Q:ak} (h1:fV T S M a ps) (h2:fV T S' M b qs) (he:a=b→ps=qs) (hn:¬ S' a) (i1:SI k ps) (i2:SI l qs) (hkl:k + l≤60000)
  (hQ:∀ M',fV T (fun e=>S e∨M.next≤e) M' a (Ey ps qs)→ag [a] M M'→Q (.tup []) M') : c [.ptr a 0,.ptr b 0] M Q:=by
 refine h h1 h2 he hn (fun i hi=>?_) (fun p hp=>?_) (fun p hp=>?_) (fun i hi=>?_) hQ
 ·have a1:=(i1.at i).2
  have a2:=(i2.at i).2
  show((ps.getD i (0,[])).2++(qs.getD i (0,[])).2).length≤60000∧(jK ((ps.getD i (0,[])).2++(qs.getD i (0,[])).2)).length≤60000
  rw[FX,List.length_append]
  omega
 ·have:=(i1.wf p hp).2.2.1
  have:=i1.few p hp
  omega
 ·have:=(i2.wf p hp).2.2.1
  have:=i2.few p hp
  omega
 ·have a1:=i1.at i
  have a2:=i2.at i
  obtain⟨_,j2,j3⟩:=EJ (ps.getD i (0,[])) (qs.getD i (0,[]))
  refine⟨by have:=j3; unfold jl at this; omega,fun x hx=>?_⟩
  rcases(j2 x).1 hx with h | h
  ·have:=a1.1.2.2.2.1 x h; omega
  ·have:=a2.1.2.2.2.1 x h; omega
end Go.Ab.ay
namespace Go.Ab.Crw
open Go Go.Ab Go.Ab.ay
def Ty (T:Nat) (c:ai) : Prop:=∀ {M:RM} {b:Nat} {qs:List Pt} {S' : Nat→Prop} {k:Nat} {Q:ak},fV T S' M b qs→SI k qs→k≤4096 →
 (∀ a M',M.next≤a→fV T (fun e=>a<e) M' a qs→ag [] M M'→Q (.ptr a 0) M')→c [.ptr b 0] M Q
theorem UB {q:Pt} (h:jZ q) : rT jK dd (0,[]) q=q:=by
 have e:jl (0,[]) q=q.2:=U9 (EJ _ _).1 h.1 fun x=>by rw[(EJ _ _).2.1]; simp
 show Go.Ab.ay.settle (max 0 q.1) (jl (0,[]) q)=q
 rw[e,Nat.zero_max]
 exact TT h.2.1
theorem Ay:SI 0 jy:=⟨rfl,IX,fun p hp=>by
 rw[jy,List.mem_replicate] at hp
 rw[hp.2]; exact Nat.le_refl _⟩
theorem Xn {T:Nat} {cn cj:ai} (hn:Rs T cn) (hj:RD T cj) : Ty T fun args M Q=>∃ a0,args=[a0]∧ay.EL cn cj a0 M Q:=by
 intro M b qs S' k Q hB hi hk hQ
 refine⟨_,rfl, ?_⟩
 unfold ay.EL
 have hB0:=hB.below
 refine hn fun M1 hA1 k1 n1=>?_
 have hB1:=hB0.keep k1 (by simp) (by simp)
 have hbl:=hB.lt
 refine hj.use hA1 hB1 (fun e=>by omega) (fun h=>by omega) Ay hi (by omega) fun M2 hA2 k2=>?_
 have e:Ey jy qs=qs:=aeJ (aaB Ay hi (by omega)).len hB.len fun j hj=>by
  rw[QH Ay hi hj,Dm,UB (hi.at j).1]
 rw[e] at hA2
 refine hQ M.next M2 (Nat.le_refl _) (hA2.mono (fun e h=>?_) (by omega)) (k1.bW k2 (by simp))
 rcases h with h | h
 ·exact h.elim
 ·omega
section
variable {α:Type} {E:Enc α}
theorem aaZ {M:RM} {b T bytes:Nat} {zs:List AV} {u:AV} {xs ys:List α} {K:ak} (hb:b<M.next) (hh:M.heap b=some (.row (E.row xs) false T 0)) (hu:Sl E M u ys) (hx:1≤xs.length) (hs:1≤E.size)
  (hn:(xs.length + ys.length) * bytes≤140737488355328) (hn2:xs.length + ys.length≤140737488355328)
  (hK:∀ v' M',Sl E M' v' (xs++ys)→(∀ d∈aI v',d=b∨M.next≤d)→ag [] M M'→K v' M') : appW T E.size bytes zs false (.slc b 0 xs.length (.ex xs.length)) u M K:=by
 refine⟨ys.length,E.row ys,aR.nK hu _, ?_,by omega, ?_⟩
 ·exact Nat.le_trans (Nat.mul_le_mul_right _ (Nat.le_add_left _ _)) hn
 have hlen:(E.row xs).length=xs.length * E.size:=E.eu xs
 have hld:M.loads b 0 (xs.length * E.size)=some (E.row xs):=by
  rw[RM.dF hh (by omega),List.drop_zero,← hlen,List.take_length]
 by_cases h0:ys.length=0
 ·have:ys=[]:=List.length_eq_zero_iff.1 h0
  subst this
  refine⟨.slc b 0 xs.length (.ex xs.length),M,by simp[sW],hK _ _ ?_ (by simp[aI]) (ag.refl _ _)⟩
  rw[List.append_nil]
  exact .slc _ _ _ _ _ hb hld
 ·refine⟨.slc M.next 0 (xs.length + ys.length) (.op E.size),M.push (.row (E.row xs++E.row ys) true T 0), ?_,hK _ _ ?_ (by simp[aI]) ((ag.refl _ _).push _)⟩
  ·have hone:(E.row xs++E.row ys).all oneCell=true:=by rw[List.all_append,E.tQ,E.tQ]; rfl
   simp only[sW,if_neg h0,if_neg (show ¬ xs.length + ys.length≤xs.length by omega),hld]
   rw[if_pos ⟨hn,by omega,hone⟩]
  ·have hl2:(E.row (xs++ys)).length=(xs.length + ys.length) * E.size:=by rw[E.eu,List.length_append]
   show aR _ E.size _ (E.row (xs++ys)) (xs++ys).length
   rw[List.length_append]
   refine .slc _ _ _ _ _ (by simp[RM.push]) ?_
   rw[← E.uu,RM.dF (RM.aQ _) (by omega),List.drop_zero,← hl2,List.take_length]
end
structure mZ (TS T:Nat) (B:Nat→Prop) (M:RM) (t:Nat) (ps:List Pt) (es:List aH) : Prop where
 lt:t<M.next
 row:∃ s v,M.heap t=some (.row [.ptr s 0,v] false TS 0)∧(∃ S:Nat→Prop,fV T S M s ps∧∀ d,S d→B d)∧Sl aF M v es∧B s∧∀ d∈aI v,B d
 nb:¬ B t
theorem mZ.keep {TS T t:Nat} {B:Nat→Prop} {M M' : RM} {ps:List Pt} {es:List aH} {bs:List Nat} (h:mZ TS T B M t ps es) (k:ag bs M M') (ht:t ∉ bs) (hb:∀ d∈bs,¬ B d) : mZ TS T B M' t ps es:=by
 obtain⟨s,v,h1,⟨S,h2,h2'⟩,h3,h4,h5⟩:=h.row
 exact⟨Nat.lt_of_lt_of_le h.lt k.next,⟨s,v,k.aK h1 h.lt ht,⟨S,h2.keep k (fun hs=>hb s hs h4) (fun d hd hS=>hb d hd (h2' d hS)),h2'⟩,aR.keep h3 k (fun d hd hm=>hb d hm (h5 d hd)),h4,h5⟩,h.nb⟩
theorem mZ.mono {TS T t:Nat} {B B' : Nat→Prop} {M:RM} {ps:List Pt} {es:List aH} (h:mZ TS T B M t ps es) (hB:∀ d,B d→B' d) (hn:¬ B' t) : mZ TS T B' M t ps es:=by
 obtain⟨s,v,h1,⟨S,h2,h2'⟩,h3,h4,h5⟩:=h.row
 exact⟨h.lt,⟨s,v,h1,⟨S,h2,fun d hd=>hB d (h2' d hd)⟩,h3,hB s h4,fun d hd=>hB d (h5 d hd)⟩,hn⟩
theorem mZ.below {TS T t:Nat} {B:Nat→Prop} {M:RM} {ps:List Pt} {es:List aH} (h:mZ TS T B M t ps es) : mZ TS T (fun d=>B d∧d<M.next) M t ps es:=by
 obtain⟨s,v,h1,⟨S,h2,h2'⟩,h3,h4,h5⟩:=h.row
 exact⟨h.lt,⟨s,v,h1,⟨_,h2.below,fun d hd=>⟨h2' d hd.1,hd.2⟩⟩,h3,⟨h4,h2.lt⟩,fun d hd=>⟨h5 d hd,aR.lt h3 d hd⟩⟩,fun hh=>h.nb hh.1⟩
def LA (TS T:Nat) (c:ai) : Prop:=∀ {M:RM} {Q:ak},(∀ t M',M.next≤t→mZ TS T (fun d=>M.next≤d∧d<t) M' t jy []→ag [] M M'→Q (.ptr t 0) M')→c [] M Q
theorem Vv {TS T:Nat} {cn:ai} (hn:Rs T cn) : LA TS T fun args M Q=>args=[]∧WS cn TS M Q:=by
 intro M Q hQ
 refine⟨rfl, ?_⟩
 unfold WS
 refine hn fun M1 h1 k1 n1=>?_
 rw[iD]
 refine⟨[.ptr M.next 0,bB],rfl, ?_⟩
 rw[dJ rfl (by simp),aX]
 have k2:ag [] M1 (M1.push (.row [.ptr M.next 0,bB] false TS 0)):=(ag.refl _ _).push _
 refine hQ _ _ (by omega) ⟨by simp[RM.push],⟨M.next,bB,RM.aQ _,⟨fun _=>False,h1.keep k2 (by simp) (by simp),fun d hd=>hd.elim⟩,.nil,⟨Nat.le_refl _,by omega⟩,by simp[aI]⟩,fun h=>by omega⟩ (k1.trans k2)
def mo (ps:List Pt) (ds:List ay) : List Pt:=ds.foldl (fun u d=>(kI u d).2) ps
theorem Uu {ps:List Pt} {ds:List ay} {i:Nat} (h:i<ds.length) : mo ps (ds.take (i + 1))=(kI (mo ps (ds.take i)) ds[i]).2:=by
 rw[List.take_succ_eq_append_getElem h,mo,List.foldl_append]; rfl
theorem U3 {k:Nat} {ps:List Pt} {d:ay} (h:SI k ps) : SI (k + 1) (kI ps d).2:=⟨by rw[aam,h.len],Vk h.wf,Zi h.few⟩
theorem _root_.Go.Ab.ay.SI.mono {k l:Nat} {ps:List Pt} (h:SI k ps) (hl:k≤l) : SI l ps:=⟨h.len,h.wf,fun p hp=>Nat.le_trans (h.few p hp) hl⟩
theorem Bl {k:Nat} : ∀ {ds:List ay} {ps:List Pt},SI k ps→SI (k + ds.length) (mo ps ds)
 | [],ps,h=>h
 | d :: ds,ps,h=>by
   have:=Bl (ds:=ds) (U3 (d:=d) h)
   exact this.mono (by simp; omega)
def jk (e:lh) : aH:=(e.1,(e.2.2.1,(e.2.2.2.1,e.2.2.2.2)))
def gT (ps:List Pt) (es:List aH) (e:lh) (ks:List ay) : List aH :=
 (if decide (e.2.1=1) && !eD ps e.1 then qU fO (es++[jk e]) else es).filter fun x=>!decide (x.1∈ks)
def xJ (ps:List Pt) (e:lh) (ks:List ay) : List Pt:=mo ps (e.1 :: ks)
theorem LG:∀ {ks:List ay} {d:ay} {p:Option ay},gN d p ks=true→∀ k∈ks,good k=true
 | [],_,_,_,k,hk=>by simp at hk
 | x :: ks,d,p,h,k,hk=>by
   simp only[gN,Bool.and_eq_true] at h
   rcases List.mem_cons.1 hk with rfl | hk
   ·exact h.1.1.1
   ·exact LG h.2 k hk
theorem lD {e:lh} {ks:List ay} (h:di e ks=true) : good e.1=true∧ks.length≤64∧(∀ k∈ks,good k=true)∧gN e.1 none ks=true∧BR e=true:=by
 simp only[di,Bool.and_eq_true,decide_eq_true_eq] at h
 exact⟨h.1.1.1.1,h.1.1.2,LG h.1.2,h.1.2,h.2⟩
theorem Yb (e:lh) : Bj [(N .i64 0),(N .u64 0),(St []),(St []),(St [])] [(0,2,.agg (aO e.1)),(2,1,St e.2.2.1),(3,1,St e.2.2.2.1),(4,1,St e.2.2.2.2)]=some (aF.cells (jk e)):=rfl
def Ky (TS T:Nat) (c:ai) : Prop:=∀ {M:RM} {t k:Nat} {B:Nat→Prop} {ps:List Pt} {es:List aH} {e:lh} {kv:AV} {ks:List ay} {Q:ak},mZ TS T B M t ps es→SI k ps→k + 65≤4000→es.length≤50000→Sl aV M kv ks→t ∉ aI kv →
 (di e ks=false→∀ M',ag [] M M'→Q (.tup [Bo false,N .i64 1]) M') →
 (di e ks=true→∀ M',mZ TS T (fun d=>B d∨M.next≤d) M' t (xJ ps e ks) (gT ps es e ks)→ag [t] M M'→Q (.tup [Bo (!oL (xJ ps e ks) ps || !decide (gT ps es e ks=es)),N .i64 0]) M')→c [.ptr t 0,.agg (bg e kv)] M Q
theorem XO {TS T TE TD TN nc nd:Nat} {cG cC cA cH cL cS cD cW cQ:ai} {cv:FuncId→ai} (hG:vN cG) (hC:Ty T cC) (hA:P7 T cA) (hH:Xa T cH) (hL:Nq TN cL) (hS:NP (.fn (.func nc) [] []) fO TN cS)
  (hD:∀ b e kv ks,ks.length≤1000000→Au TN (FQ TE b e kv ks) (fun x=>decide (x.1∈ks)) (.fn (.func nd) [] [.ptr b 0]) cD) (hW:NR T cW) (hQ' : Nv cQ) :
  Ky TS T fun args M Q=>∃ a0 a1,args=[a0,a1]∧xW TE cG cC TD cA cH TN cL cS nc nd cD cW cQ a0 a1 M Q:=by
 intro M0 t k B ps es e kv ks Q hst hsi hk hes QT htk hbad hok
 refine⟨_,_,rfl, ?_⟩
 unfold xW
 simp only[iN,dP,dz,dK,bH]
 rw[dJ (xH QT) (by simp),aX]
 have k0:ag [] M0 (M0.push (.row (bg e kv) false TE 0)):=(ag.refl _ _).push _
 have h0:(M0.push (.row (bg e kv) false TE 0)).heap M0.next=some (.row (bg e kv) false TE 0):=RM.aQ _
 have hlt:M0.next<(M0.push (.row (bg e kv) false TE 0)).next:=by simp[RM.push]
 have hs:Sl aV (M0.push (.row (bg e kv) false TE 0)) kv ks:=aR.keep QT k0 (by simp)
 have hkl:∀ d∈aI kv,d<M0.next:=aR.lt QT
 have n0:=k0.next
 generalize M0.push (.row (bg e kv) false TE 0)=M at *
 generalize hb0:M0.next=b at *
 rw[bS (n:=7) h0 (by simp[EvE.len]; rfl)]
 refine hG hs fun M1 k1=>?_
 have k01:=k0.trans k1
 rw[bu]
 refine aD (fun hg=>?_) (fun hg=>?_)
 ·exact hbad (by simpa using hg) M1 k01
 have hge:di e ks=true:=by simpa using hg
 obtain⟨hgd,hkl64,hkg,_,_⟩:=lD hge
 have hok:=hok hge
 have n1:=k1.next
 obtain⟨s,v,r1,⟨S,r2,r2'⟩,r3,r4,r5⟩:=hst.row
 have htl:=hst.lt
 have e1:=k1.aK h0 hlt (by simp)
 have t1:=k01.aK r1 htl (by simp)
 have set1:=(r2.below).keep k01 (by simp) (by simp)
 have slt:=r2.lt
 rw[aU,bJ,aA t1 rfl]
 -- the set is copied
 refine hC set1 hsi (by omega) fun s' M2 hs' set2 k2=>?_
 have n2:=k2.next
 have hs'lt:=set2.lt
 have e2:=k2.aK e1 (by omega) (by simp)
 have k02:=k01.trans k2
 rw[bJ,yL e2,mE (x:=.agg (aO e.1)) (size:=2) rfl rfl rfl,aX]
 have k3:ag [] M2 (M2.push (.row (AV.agg (aO e.1)).cells false TD 0)):=(ag.refl _ _).push _
 have l3:(M2.push (.row (AV.agg (aO e.1)).cells false TD 0)).heap M2.next=some (.row (aV.row [e.1]) false TD 0):=by
  rw[RM.aQ]; rfl
 have n3:M2.next<(M2.push (.row (AV.agg (aO e.1)).cells false TD 0)).next:=by simp[RM.push]
 have e3:=k3.aK e2 (by omega) (by simp)
 have QO:=set2.keep k3 (by simp) (by simp)
 have kv3:Sl aV (M2.push (.row (AV.agg (aO e.1)).cells false TD 0)) kv ks:=aR.keep QT (k02.trans k3) (by simp)
 have k03:=k02.trans k3
 generalize M2.push (.row (AV.agg (aO e.1)).cells false TD 0)=M3 at *
 generalize hb2:M2.next=b2 at *
 rw[bJ,aA e3 rfl]
 refine aaZ (E:=aV) (xs:=[e.1]) (by omega) l3 kv3 (by simp) (by decide) (by simp; omega) (by simp; omega) fun dv M4 hdv hdb k4=>?_
 have hds:(e.1 :: ks).length≤65:=by simp; omega
 have k34:ag [] M3 M4:=k4
 have n4:=k4.next
 have e4:=k4.aK e3 (by omega) (by simp)
 have af2:=QO.keep k4 (by simp) (by simp)
 have k04:=k03.trans k4
 have hdv:Sl aV M4 dv (e.1 :: ks):=hdv
 have hdl:=aR.lt hdv
 have hdg:∀ d∈e.1 :: ks,good d=true:=fun d hd=>by
  rcases List.mem_cons.1 hd with rfl | hd
  ·exact hgd
  ·exact hkg d hd
 have ag2:s' ∉ aI dv:=fun hm=>by
  rcases hdb s' hm with h | h <;> omega
 generalize hds' : e.1 :: ks=ds at *
 rw[aR.len hdv]
 refine aG (fun m ys M6=>∃ i:Nat,m=ds.length - i∧ys=[N .i64 (i:Int)]∧i≤ds.length∧ag [s'] M4 M6∧fV T (fun e=>s'<e) M6 s' (mo ps (ds.take i))) _ ⟨0,rfl,rfl,Nat.zero_le _,ag.refl _ _,af2⟩ ?_
 rintro next m ys M6 hnext ⟨i,rfl,rfl,hi,k6,Sj⟩
 dsimp only[aa]
 have agY:Sl aV M6 dv ds:=aR.keep hdv k6 (fun b hb hm=>by simp at hm; subst hm; exact ag2 hb)
 have si6:SI (k + (ds.take i).length) (mo ps (ds.take i)):=Bl hsi
 have hti:(ds.take i).length≤65:=by rw[List.length_take]; omega
 rw[dC]
 refine aD (fun Sz=>?_) (fun rD=>?_)
 ·have Sz:i<ds.length:=of_decide_eq_true Sz
  rw[tY agY Sz,aX,dh (n:=2) (x:=.agg (aO ds[i])) (l:=[N .i64 0,N .u64 0]) (RM.aQ _) rfl rfl rfl]
  have k7:ag [] M6 ((M6.push (.row [N .i64 0,N .u64 0] false TD 0)).put M6.next (.row (AV.agg (aO ds[i])).cells false TD 0)):=((ag.refl _ _).push _).new _ (Nat.le_refl _)
  have hk7:((M6.push (.row [N .i64 0,N .u64 0] false TD 0)).put M6.next (.row (AV.agg (aO ds[i])).cells false TD 0)).heap M6.next=some (.row (aO ds[i]) false TD 0):=aN _
  generalize (M6.push (.row [N .i64 0,N .u64 0] false TD 0)).put M6.next (.row (AV.agg (aO ds[i])).cells false TD 0)=M7 at *
  rw[bS (n:=2) hk7 rfl]
  have agV:=Sj.keep k7 (by simp) (by simp)
  have n7:=k7.next
  have s6:=Sj.lt
  refine hA agV si6.wf fun M8 afC k8=>?_
  have hgood:=Pf (ps:=mo ps (ds.take i)) (d:=ds[i]) (fun p hp=>by have:=si6.few p hp; omega) (hdg _ (List.getElem_mem Sz))
  have h10:(kI (mo ps (ds.take i)) ds[i]).1=0:=by rw[hgood]
  rw[h10,iT,show((0:Int) != 0)=false from rfl,bz,add1 (by omega)]
  refine hnext _ _ _ (by omega) ⟨i + 1,rfl,rfl,by omega,(k6.trans (k7.mono (cs:=[s']) (by simp))).trans k8, ?_⟩
  rw[Uu Sz]
  exact afC.mono (fun d hd=>by rcases hd with hd | hd <;> omega) (by omega)
 have hie:i=ds.length:=by
  have:¬ i<ds.length:=of_decide_eq_false rD
  omega
 subst hie
 rw[List.take_length] at Sj si6
 clear hnext rD
 have agT:mo ps ds=xJ ps e ks:=by rw[← hds']; rfl
 rw[agT] at Sj si6
 have si6:=si6.mono (l:=k + 65) (by omega)
 have n6:=k6.next
 have k06:ag [] M0 M6:=k04.bW k6 (fun d hd=>by simp at hd; omega)
 have e6:=k6.aK e4 (by omega) (by simp; omega)
 have t6:=k06.aK r1 htl (by simp)
 have v6:Sl aF M6 v es:=aR.keep r3 k06 (by simp)
 have acY:=(r2.below).keep k06 (by simp) (by simp)
 have kv6:Sl aV M6 kv ks:=aR.keep QT k06 (by simp)
 rw[aU,aP,aA (i:=0 + 1) t6 rfl]
 have aeT:=Sj.below
 refine aT (fun zs M'=>∃ (w:AV) (es1:List aH),zs=[w]∧Sl aF M' w es1∧es1.length≤50001∧es1=(if decide (e.2.1=1) && !eD ps e.1 then qU fO (es++[jk e]) else es)∧ag [] M6 M') ?_ ?_
 ·rintro zs M9 ⟨w,es1,rfl,hw,hwl,af8,k9⟩
  dsimp only[aa]
  have n9:=k9.next
  refine hL hw (by omega) fun c M10 oc k10=>?_
  have n10:=k10.next
  have NU:=k9.trans k10
  have ZX:=k06.trans NU
  have af0:FQ TE b e kv ks M10:=⟨by omega,NU.aK e6 (by omega) (by simp),aR.keep kv6 NU (by simp)⟩
  refine hD b e kv ks (by omega) af0 (fun Ma Mb ks' hP kk hsub=>hP.keep kk (fun hm=>by have:=(oc.blk b (hsub b hm)).1; omega) (fun d hd hm=>by have:=hkl d hd; have:=(oc.blk d (hsub d hm)).1; omega)) oc (by omega) fun x M11 hx hxb k11=>?_
  have ED:ag [] M6 M11:=NU.bW k11 (fun d hd=>.inl (by have:=(oc.blk d hd).1; omega))
  have afF:=k06.trans ED
  have UQ:=ED.aK t6 (by omega) (by simp)
  have abp:=aeT.keep ED (by simp) (by simp)
  have aeM:=acY.keep ED (by simp) (by simp)
  have v11:Sl aF M11 v es:=aR.keep v6 ED (by simp)
  rw[aU,bJ,aA UQ rfl]
  refine hW abp aeM (fun p hp=>by have:=si6.few p hp; omega) (fun q hq=>⟨(hsi.wf q hq).1,by have:=hsi.few q hq; omega⟩) fun M12 k12=>?_
  have hxl:(es1.filter fun x=>!decide (x.1∈ks)).length≤es1.length:=List.length_filter_le _ _
  have t12:=k12.aK UQ (by have:=ED.next; omega) (by simp)
  have hfin:es1.filter (fun x=>!decide (x.1∈ks))=gT ps es e ks:=by rw[af8]; rfl
  rw[hfin] at hx hxl
  rw[bu]
  refine Dt (p:=!decide (gT ps es e ks=es)) (fun _ k hk=>?_) ?_
  ·rw[aU,aP,aA (i:=0 + 1) t12 rfl]
   refine hQ' (aR.keep hx k12 (by simp)) (aR.keep v11 k12 (by simp)) (by omega) ?_
   rw[bu]
   exact hk
  have x12:Sl aF M12 x (gT ps es e ks):=aR.keep hx k12 (by simp)
  rw[aU,bJ,dV t12 (by simp) rfl rfl,aU,aP]
  rw[dV (aN _) (by simp) (aR.cells x12) (aR.one x12)]
  have kk:ag [t] M12 ((M12.put t (.row ([AV.ptr s 0,v].set 0 (.ptr s' 0)) false TS 0)).put t (.row (([AV.ptr s 0,v].set 0 (.ptr s' 0)).set (0 + 1) x) false TS 0)):=((ag.refl _ _).put _ (.inr (by simp))).put _ (.inr (by simp))
  have hh:((M12.put t (.row ([AV.ptr s 0,v].set 0 (.ptr s' 0)) false TS 0)).put t (.row (([AV.ptr s 0,v].set 0 (.ptr s' 0)).set (0 + 1) x) false TS 0)).heap t=some (.row [.ptr s' 0,x] false TS 0):=aN _
  have hnx:((M12.put t (.row ([AV.ptr s 0,v].set 0 (.ptr s' 0)) false TS 0)).put t (.row (([AV.ptr s 0,v].set 0 (.ptr s' 0)).set (0 + 1) x) false TS 0)).next=M12.next:=rfl
  generalize (M12.put t (.row ([AV.ptr s 0,v].set 0 (.ptr s' 0)) false TS 0)).put t (.row (([AV.ptr s 0,v].set 0 (.ptr s' 0)).set (0 + 1) x) false TS 0)=M13 at *
  have n12:=k12.next
  have n611:=ED.next
  refine hok M13 ⟨by omega,⟨s',x,hh,⟨fun d=>s'<d∧d<M6.next,(abp.keep k12 (by simp) (by simp)).keep kk (by simp; omega) (fun d hd h=>by simp at hd; omega),fun d hd=>.inr (by omega)⟩,aR.keep x12 kk (fun d hd hm=>?_),.inr (by omega),fun d hd=>.inr (by have:=(oc.blk d (hxb d hd)).1; omega)⟩,fun hB=>?_⟩ ((afF.trans k12).mono (by simp) |>.trans kk)
  ·simp at hm
   subst hm
   have:=(oc.blk d (hxb d hd)).1
   omega
  ·rcases hB with hB | hB
   ·exact hst.nb hB
   ·omega
 intro J hJ
 have e2v:∀ {M' : RM},ag [] M6 M'→M'.heap b=some (.row (bg e kv) false TE 0):=fun k=>k.aK e6 (by omega) (by simp)
 have op1:((e.2.1:Int) == 1)=decide (e.2.1=1):=by by_cases h:e.2.1=1 <;> simp[h]
 rw[bJ,aA e6 rfl,bV,op1]
 refine je (P:=fun M'=>ag [] M6 M') (p:=!eD ps e.1) (ag.refl _ _) (fun _ k hk=>?_) fun M7 k7=>?_
 ·rw[aU,bJ,aA t6 rfl,bJ,yL e6]
  refine hH acY (fun q hq=>⟨(hsi.wf q hq).1,by have:=hsi.few q hq; omega⟩) fun M7 k7=>?_
  rw[bu]
  exact hk M7 k7
 refine aD (fun hc=>?_) (fun hc=>?_)
 ·have e7:=e2v k7
  rw[bJ,yL e7,bJ,aA e7 rfl,bJ,aA e7 rfl,bJ,aA e7 rfl,iD]
  refine⟨_,Yb e, ?_⟩
  rw[mE (x:=.agg (aF.cells (jk e))) (size:=5) rfl rfl rfl,nL]
  have k8:ag [] M7 (M7.push (.row (AV.agg (aF.cells (jk e))).cells false TN 0)):=(ag.refl _ _).push _
  have h8:(M7.push (.row (AV.agg (aF.cells (jk e))).cells false TN 0)).heap M7.next=some (.row (aF.cells (jk e)) false TN 0):=RM.aQ _
  have n8:M7.next<(M7.push (.row (AV.agg (aF.cells (jk e))).cells false TN 0)).next:=by simp[RM.push]
  generalize M7.push (.row (AV.agg (aF.cells (jk e))).cells false TN 0)=M8 at *
  generalize hb7:M7.next=b7 at *
  have k68:=k7.trans k8
  refine hL (aR.keep v6 k68 (by simp)) (by omega) fun c M9 oc k9=>?_
  have k69:=k68.trans k9
  have e9:=e2v k69
  have n9:=k9.next
  rw[yL e9]
  refine⟨rfl, ?_⟩
  rw[aA e9 rfl]
  refine⟨rfl, ?_⟩
  rw[aA e9 rfl]
  refine⟨rfl, ?_⟩
  rw[aA e9 rfl]
  refine⟨rfl, ?_⟩
  rw[mE (x:=.agg (aF.cells (jk e))) (size:=5) rfl rfl rfl,Xm]
  have h9:=k9.aK h8 n8 (by simp)
  refine⟨⟨h9,rfl⟩, ?_⟩
  have slx:Sl aF M9 (.slc b7 0 1 (.ex 1)) [jk e]:=by
   refine .slc _ _ _ _ _ (by omega) ?_
   rw[RM.dF h9 (by rw[aF.len]; decide),List.drop_zero,Enc.row_one]
   have:(aF.cells (jk e)).length=1 * aF.size:=by rw[aF.len,Nat.one_mul]
   rw[← this,List.take_length]
  refine zD (E:=aF) oc n9 (by decide) slx (by simp; omega) (by simp; omega) fun c2 M10 oc2 k10 n10 _=>?_
  have NU:ag [] M6 M10:=k69.bW k10 (fun d hd=>.inl (by have:=(oc.blk d hd).1; have:=k68.next; omega))
  refine hS oc2 (by simp; omega) fun M11 oc3 k11=>?_
  have ED:ag [] M6 M11:=NU.bW k11 (fun d hd=>.inl (by have:=(oc2.blk d hd).1; have:=k68.next; omega))
  have hsl:(qU fO (es++[jk e])).length=(es++[jk e]).length:=(qO iJ _).length_eq
  exact hJ _ _ ⟨c2,_,rfl,oc3.il,by rw[hsl]; simp; omega,by rw[if_pos hc],ED⟩
 ·exact hJ _ _ ⟨v,es,rfl,aR.keep v6 k7 (by simp),by omega,by rw[if_neg (by rw[hc]; decide)],k7⟩
abbrev Ev:=lh × List ay
def oC:q8 Ev:=q8.pre EvE (aV.A8.slice)
theorem LB {M:RM} {v:AV} {l:List Ev} {S:Nat→Prop} (h:fG oC M v l S) {i:Nat} (hi:i<l.length) :
  ∃ b o kv,(∀ (kd:IntKind) (K:AV→Prop),ah v (N kd (i:Int)) 7 K=K (.ptr b o))∧(∀ K:AV→Prop,av M (.ptr b o) 7 K=K (.agg (bg l[i].1 kv)))∧(∀ K:AV→Prop,av M (.ptr b o) 2 K=K (.agg (aO l[i].1.1)))∧Sl aV M kv l[i].2∧∀ d∈aI kv,S d:=by
 obtain⟨b,o,cs,_,_,hidx,hld,ds,hcs,kv,hds,hkv⟩:=h.at (i:=i) 7 (i:Int) hi rfl rfl
 subst hds
 subst hcs
 refine⟨b,o,kv,hidx,fun K=>?_,fun K=>?_,fG.sl hkv, ?_⟩
 ·rw[dQ,hld]
  simp
 ·have e2:(bg l[i].1 kv).take 2=aO l[i].1.1:=rfl
  rw[dQ,uy hld 2 (by decide),e2]
  simp
 ·obtain⟨_,_,h2,_⟩:=hkv
  exact h2
theorem X7 {M:RM} {e:lh} {kv:AV} {ks:List ay} {S:Nat→Prop} (h:Sl aV M kv ks) (hS:∀ d∈aI kv,S d) : oC.rel M (bg e kv) (e,ks) S:=⟨[kv],rfl,kv,rfl,fG.XU h hS⟩
def nI (out:List Ev) (x:Ev) : List Ev:=if !(!di x.1 x.2 || out.any fun y=>decide (y.1.1=x.1.1)) then out++[x] else out
def uQ (l:List Ev) : List Ev:=l.foldl nI []
theorem Pq {l:List Ev} {i:Nat} (h:i<l.length) : uQ (l.take (i + 1))=nI (uQ (l.take i)) l[i]:=by
 rw[List.take_succ_eq_append_getElem h,uQ,List.foldl_append]; rfl
theorem Ux (out:List Ev) (x:Ev) : (nI out x).length≤out.length + 1:=by
 unfold nI; split <;> simp
theorem Dl (l:List Ev) : ∀ i,(uQ (l.take i)).length≤i
 | 0=>Nat.le_refl _
 | i + 1=>by
   by_cases h:i<l.length
   ·rw[Pq h]
    have:=Dl l i
    have:=Ux (uQ (l.take i)) l[i]
    omega
   ·rw[List.take_of_length_le (by omega)]
    have:=Dl l i
    rw[List.take_of_length_le (by omega)] at this
    omega
theorem Pm:∀ (l:List Ev) (out:List Ev),(∀ x∈out,di x.1 x.2=true)→∀ x∈l.foldl nI out,di x.1 x.2=true
 | [],out,h=>h
 | y :: l,out,h=>Pm l (nI out y) fun x hx=>by
   unfold nI at hx
   split at hx
   ·rename_i hc
    rcases List.mem_append.1 hx with hx | hx
    ·exact h x hx
    ·simp only[List.mem_singleton] at hx
     subst hx
     simp only[Bool.not_eq_true',Bool.or_eq_false_iff,Bool.not_eq_false'] at hc
     exact hc.1
   ·exact h x hx
def aaX (TE:Nat) (c:ai) : Prop:=∀ {M:RM} {v:AV} {l:List Ev} {Q:ak},fG oC M v l (fun d=>d<M.next)→l.length≤10000 →
 (∀ v' M',fG oC M' v' (uQ l) (fun d=>d<M'.next)→ag [] M M'→Q v' M')→c [v] M Q
theorem ZC {TE:Nat} {cG:ai} (hG:vN cG) : aaX TE fun args M Q=>∃ a0,args=[a0]∧abQ TE cG a0 M Q:=by
 intro M v l Q hv hl hQ
 refine⟨_,rfl, ?_⟩
 unfold abQ
 simp only[iN,dP,dz,bH]
 refine⟨_,_,_,_,rfl,rfl,by decide,by decide,by decide,by decide, ?_⟩
 dsimp only
 rw[aX]
 have kM:ag [] M (M.push (.row (bU [(N .i64 0),(N .u64 0),(N .i64 0),(St []),(St []),(St []),(.sc (.slice none 0 0))] 0) false TE 0)):=(ag.refl _ _).push _
 have oM:nk oC (M.push (.row (bU [(N .i64 0),(N .u64 0),(N .i64 0),(St []),(St []),(St []),(.sc (.slice none 0 0))] 0) false TE 0)) M.next TE (.slc M.next 0 0 (.ex 0)) [] (fun d=>d<M.next):=⟨[],Own.lit M (Nat.le_refl _),.nil⟩
 refine aG (fun m ys M3=>∃ (i:Nat) (w:AV),m=l.length - i∧ys=[w,N .i64 (i:Int)]∧i≤l.length∧ag [] M M3∧nk oC M3 M.next TE w (uQ (l.take i)) (fun d=>d<M.next)) _ ⟨0,_,rfl,rfl,Nat.zero_le _,kM,oM⟩ ?_
 rintro next m ys M3 hnext ⟨i,w,rfl,rfl,hi,k3,ow⟩
 dsimp only[aa]
 have hv3:fG oC M3 v l (fun d=>d<M.next):=hv.keep k3 (by simp)
 have n3:=k3.next
 rw[hv3.len,dC]
 refine aD (fun hlt=>?_) (fun hge=>?_)
 ·have hlt:i<l.length:=of_decide_eq_true hlt
  refine aT (fun zs M'=>∃ w',zs=[w']∧ag [] M M'∧nk oC M' M.next TE w' (uQ (l.take (i + 1))) (fun d=>d<M.next)) ?_ ?_
  ·rintro zs M' ⟨w',rfl,k',o'⟩
   dsimp only[aa]
   rw[add1 (by omega)]
   exact hnext _ _ _ (by omega) ⟨i + 1,w',rfl,rfl,by omega,k',o'⟩
  intro J hJ
  rw[Pq hlt] at hJ
  have hol:=Dl l i
  obtain⟨b,o,kv,hidx,hl7,hl2,hkv,hkb⟩:=LB hv3 hlt
  rw[hidx,hl7]
  refine hG hkv fun M4 k4=>?_
  rw[bu]
  have ow4:=ow.keep k4 (by simp) (by simp)
  generalize uQ (l.take i)=out at *
  have k34:=k3.trans k4
  have n4:=k34.next
  have hv4:fG oC M4 v l (fun d=>d<M.next):=hv.keep k34 (by simp)
  have owS:fG oC M4 w out (fun d=>d<M4.next):=(ow4.mono (fun d hd=>by omega)).slD (fun d _ h=>h)
  obtain⟨b4,o4,kv4,abT,agb,agO,ady,agh⟩:=LB hv4 hlt
  refine aG (fun m ys M5=>∃ j:Nat,m=out.length - j∧ys=[Bo (!di l[i].1 l[i].2 || (out.take j).any fun y=>decide (y.1.1=l[i].1.1)),N .i64 (j:Int)]∧j≤out.length∧M5=M4) _ ⟨0,rfl,by simp,Nat.zero_le _,rfl⟩ ?_
  rintro fq m ys M5 dx ⟨j,rfl,rfl,hj,rfl⟩
  dsimp only[aa]
  rw[owS.len,dC]
  refine aD (fun hlt2=>?_) (fun rD=>?_)
  ·have hlt2:j<out.length:=of_decide_eq_true hlt2
   obtain⟨b5,o5,kv5,aeA,hl75,afH,_,_⟩:=LB owS hlt2
   refine Qr (P:=fun M'=>M'=M5) (p:=decide (out[j].1.1=l[i].1.1)) rfl (fun _ k hk=>?_) fun M' hM'=>?_
   ·rw[aeA,aP,Nat.add_zero,afH,abT,aP,Nat.add_zero,agO,kY rfl rfl (Az _ _),Bool.bne_false]
    exact hk M5 rfl
   subst hM'
   rw[add1 (by omega)]
   refine dx _ _ _ (by omega) ⟨j + 1,rfl, ?_,by omega,rfl⟩
   rw[List.take_succ_eq_append_getElem hlt2,List.any_append,List.any_cons,List.any_nil,Bool.or_false,Bool.or_assoc]
  ·have hje:j=out.length:=by
    have:¬ j<out.length:=of_decide_eq_false rD
    omega
   subst hje
   rw[List.take_length,bu]
   refine aD (fun hc=>?_) (fun hc=>?_)
   ·rw[abT,agb,mE (x:=.agg (bg l[i].1 kv4)) (size:=7) rfl (xH ady) rfl,aX]
    have hd:=ow4.blk
    refine nk.app (R:=oC) ow4 (X7 ady agh) (by omega) (by decide) (fun d hd' h=>by have:=(hd d hd').1; omega) (fun d h=>by omega) (by omega) (by omega) ?_
    intro w' M6 o6 k6 n6 _ _
    refine hJ _ _ ⟨w',rfl,k34.bW k6 (fun d hd'=>.inl (hd d hd').1), ?_⟩
    rw[nI,if_pos hc]
    exact o6
   ·refine hJ _ _ ⟨w,rfl,k34, ?_⟩
    rw[nI,if_neg (by rw[hc]; decide)]
    exact ow4
 ·have he:i=l.length:=by
   have:¬ i<l.length:=of_decide_eq_false hge
   omega
  subst he
  rw[List.take_length] at ow
  exact hQ w M3 ((ow.mono (fun d hd=>by omega)).slD (fun d _ h=>h)) k3
theorem Zu {k:Nat} {ps:List Pt} {d e:ay} (h:SI k ps) (hk:k<4096) (hg:good d=true) : eD (kI ps d).2 e=true↔eD ps e=true∨e=d:=by
 have hl:∀ p∈ps,p.2.length<4096:=fun p hp=>by have:=h.few p hp; omega
 rw[eD,eD,Bool.and_eq_true,Bool.and_eq_true,aaP h.len h.wf hl hg]
 constructor
 ·rintro⟨h1,h2 | ⟨h2,h3⟩⟩
  ·exact .inl ⟨h1,h2⟩
  ·refine .inr (Prod.ext ?_ h3)
   have:=(JS h1).1
   have:=(JS hg).1
   omega
 ·rintro(⟨h1,h2⟩ | rfl)
  ·exact⟨h1,.inl h2⟩
  ·exact⟨hg,.inr ⟨rfl,rfl⟩⟩
theorem Ih {e:ay} : ∀ {ds:List ay} {ps:List Pt} {k:Nat},SI k ps→k + ds.length<4096→(∀ d∈ds,good d=true)→(eD (mo ps ds) e=true↔eD ps e=true∨e∈ds)
 | [],ps,k,h,hk,hg=>by simp[mo]
 | d :: ds,ps,k,h,hk,hg=>by
   have:mo ps (d :: ds)=mo (kI ps d).2 ds:=rfl
   rw[this,Ih (U3 h) (by simp at hk; omega) (fun x hx=>hg x (by simp[hx])),Zu h (by simp at hk; omega) (hg d (by simp)),List.mem_cons]
   constructor
   ·rintro((h | h) | h)
    ·exact .inl h
    ·exact .inr (.inl h)
    ·exact .inr (.inr h)
   ·rintro(h | h | h)
    ·exact .inl (.inl h)
    ·exact .inl (.inr h)
    ·exact .inr h
theorem VZ (ps:List Pt) (es:List aH) (e:lh) (ks:List ay) : (gT ps es e ks).length≤es.length + 1:=by
 unfold gT
 refine Nat.le_trans (List.length_filter_le _ _) ?_
 split
 ·rw[(qO iJ _).length_eq]; simp
 ·omega
structure ahu (i:Nat) (ps:List Pt) (es:List aH) (dead:List ay) : Prop where
 si:SI (65 * i) ps
 few:es.length≤i
 dl:dead.length≤64 * i
 seen:∀ d∈dead,eD ps d=true
 gone:∀ x∈es,x.1 ∉ dead
theorem aan (n:Int) : ∃ m:Nat,m≤1023∧Qo .i64 n 1023=(m:Int):=by
 unfold Qo
 refine⟨(BitVec.ofInt 64 n &&& BitVec.ofInt 64 1023).toNat, ?_, ?_⟩
 ·rw[BitVec.toNat_and]
  exact Nat.le_trans Nat.and_le_right (by decide)
 ·have:(BitVec.ofInt 64 n &&& BitVec.ofInt 64 1023).toNat≤1023:=by
   rw[BitVec.toNat_and]
   exact Nat.le_trans Nat.and_le_right (by decide)
  exact aS (by omega) (by show((BitVec.ofInt 64 n &&& BitVec.ofInt 64 1023).toNat:Int)<9223372036854775808; omega)
def keq (x y:aH) : Bool:=decide (x.2.1=y.2.1∧x.2.2.1=y.2.2.1∧x.1=y.1)
theorem G5 {α β:Type} [DecidableEq β] {k:α→β} {lt1:β→β→Bool} {lt2:α→α→Bool} (h:LO lt1) {x y:α} (h1:lex k lt1 lt2 x y=false) (h2:lex k lt1 lt2 y x=false) : k x=k y∧lt2 x y=false∧lt2 y x=false:=by
 unfold lex at h1 h2
 rw[Bool.or_eq_false_iff] at h1 h2
 have e:=h.tri _ _ h1.1 h2.1
 have a:=h1.2
 have b:=h2.2
 rw[e,decide_eq_true rfl,Bool.true_and] at a b
 exact⟨e,a,b⟩
theorem U6 {x y:aH} (h1:fO x y=false) (h2:fO y x=false) : keq x y=true:=by
 obtain⟨e1,a1,b1⟩:=G5 qz h1 h2
 obtain⟨e2,a2,b2⟩:=G5 qz a1 b1
 obtain⟨e3,a3,b3⟩:=G5 F9 a2 b2
 obtain⟨e4,_,_⟩:=G5 Gb a3 b3
 exact decide_eq_true ⟨e1,e2,Prod.ext e4 e3⟩
def yB (xs:List aH) : Prop:=xs.Pairwise fun x y=>fO y x=false
theorem yB.at {xs:List aH} (h:yB xs) {i j:Nat} (hij:i≤j) (hj:j<xs.length) : fO xs[j] (xs[i]'(by omega))=false:=by
 rcases Nat.lt_or_ge i j with h1 | h1
 ·exact(List.pairwise_iff_getElem.1 h) i j (by omega) hj h1
 ·have:i=j:=by omega
  subst this
  exact iJ.irrefl _
theorem aeu {M:RM} {c p:Bool} {f:ak→Prop} {P:RM→Prop} {G:AV→RM→Prop} (h0:P M) (hf:c=true→∀ k:ak,(∀ M',P M'→k (Bo p) M')→f k) (hG:∀ M',P M'→G (Bo (c && p)) M') :
  aj (Bo c) true f (fun k=>k .undef M) (fun t M'=>aL (Bo c) t (Bo false) fun u=>G u M'):=by
 cases c with
 | false=>rw[bI]; dsimp only; rw[cz]; exact hG M h0
 | true=>rw[cB]; exact hf rfl _ fun M' h=>by rw[dN]; exact hG M' h
abbrev uL:=List Pt × List aH
def lQ (s:uL) (x:Ev) : uL:=if di x.1 x.2 then(xJ s.1 x.1 x.2,gT s.1 s.2 x.1 x.2) else s
def fP (l:List Ev) : uL:=l.foldl lQ (jy,[])
theorem Gs (l:List Ev) (x:Ev) : fP (l++[x])=lQ (fP l) x:=by rw[fP,List.foldl_append]; rfl
structure Gn (i:Nat) (s:uL) : Prop where
 si:SI (65 * i) s.1
 few:s.2.length≤i
 up:yB s.2
theorem PD {ps:List Pt} {es:List aH} {e:lh} {ks:List ay} (h:yB es) : yB (gT ps es e ks):=by
 unfold gT
 refine List.Pairwise.filter _ ?_
 split
 ·exact Z4 iJ _
 ·exact h
theorem Gn.step {i:Nat} {s:uL} (h:Gn i s) (x:Ev) : Gn (i + 1) (lQ s x):=by
 unfold lQ
 split
 ·rename_i hg
  obtain⟨_,g2,_,_,_⟩:=lD hg
  refine⟨(Bl h.si).mono (by simp; omega), ?_,PD h.up⟩
  have:=VZ s.1 s.2 x.1 x.2
  have:=h.few
  show(gT s.1 s.2 x.1 x.2).length≤i + 1
  omega
 ·exact⟨h.si.mono (by omega),by have:=h.few; omega,h.up⟩
theorem Gn.empty:Gn 0 (jy,[]):=⟨Ay,Nat.le_refl _,.nil⟩
theorem Rm:∀ (l:List Ev),Gn l.length (fP l):=fun l=>by
 suffices h:∀ (l:List Ev) (i:Nat) (s:uL),Gn i s→Gn (i + l.length) (l.foldl lQ s) by
  have:=h l 0 _ Gn.empty
  rwa [Nat.zero_add] at this
 intro l
 induction l with
 | nil=>intro i s h; exact h
 | cons x l ih =>
   intro i s h
   have:=ih (i + 1) (lQ s x) (h.step x)
   rwa [show i + 1 + l.length=i + (x :: l).length by simp; omega] at this
def sV (n m:Nat) (back:Bool) (i:Nat) : Nat:=if back then n - 1 - (i + m) % n else(i + m) % n
theorem tJ {n m i:Nat} {back:Bool} (h:i<n) : sV n m back i<n:=by
 have:=Nat.mod_lt (i + m) (show 0<n by omega)
 unfold sV; split <;> omega
def mX (l:List Ev) (m:Nat) (back:Bool) : List Ev:=(List.range l.length).map fun i=>l.getD (sV l.length m back i) (((0,0),(0,([],([],[])))),[])
theorem qc (l:List Ev) (m:Nat) (back:Bool) : (mX l m back).length=l.length:=by simp[mX]
theorem CO {l:List Ev} {m:Nat} {back:Bool} {i:Nat} (h:i<l.length) : (mX l m back)[i]'(by rw[qc]; exact h)=l[sV l.length m back i]'(tJ h):=by
 simp only[mX,List.getElem_map,List.getElem_range]
 rw[List.getD_eq_getElem?_getD,List.getElem?_eq_getElem (tJ h)]; rfl
theorem Zo {l:List Ev} {m:Nat} {back:Bool} {i:Nat} (h:i<l.length) : fP ((mX l m back).take (i + 1))=lQ (fP ((mX l m back).take i)) (l[sV l.length m back i]'(tJ h)):=by
 rw[List.take_succ_eq_append_getElem (by rw[qc]; exact h),Gs,CO h]
theorem TR {α:Type} {p:α→Bool} {l:List α} {i:Nat} (h:i<l.length) : (l.take (i + 1)).filter p=(l.take i).filter p++(if p l[i] then[l[i]] else[]):=by
 rw[List.take_succ_eq_append_getElem h,List.filter_append,List.filter_cons,List.filter_nil]
theorem Xb {α:Type} (p:α→Bool) (l:List α) (i:Nat) : ((l.take i).filter p).length≤i:=Nat.le_trans (List.length_filter_le _ _) (by rw[List.length_take]; omega)
theorem nC (x:aH) : (aF.cells x).all oneCell=true:=rfl
theorem Sv {M:RM} {b T:Nat} {x:aH} {p:Bool} (h:M.heap b=some (.row (aF.cells x) p T 0)) {K:AV→Prop} : av M (.ptr b 0) 2 K=K (.agg (aO x.1)):=by
 have e2:((aF.cells x).drop 0).take 2=aO x.1:=rfl
 rw[dQ,RM.dF h (by rw[aF.len]; decide),e2]
 simp
theorem xX {α:Type} [DecidableEq α] : ∀ {xs ys:List α},xs.Nodup→(∀ x∈xs,x∈ys)→xs.length≤ys.length
 | [],_,_,_=>Nat.zero_le _
 | x :: xs,ys,hn,hs=>by
   have hx:x∈ys:=hs x (by simp)
   rw[List.nodup_cons] at hn
   have:=xX (xs:=xs) (ys:=ys.erase x) hn.2 fun y hy=>(List.mem_erase_of_ne (by rintro rfl; exact hn.1 hy)).2 (hs y (by simp[hy]))
   rw[List.length_erase_of_mem hx] at this
   have h0:0<ys.length:=List.length_pos_of_mem hx
   simp
   omega
theorem aar {k:Nat} {ps:List Pt} (h:SI k ps) {j x:Nat} (hj:j<16) (hx:x∈(ps.getD j (0,[])).2) : eD ps ((j:Int),x)=true:=by
 have w:=(h.at j).1
 have h1:=w.2.1 x hx
 have h2:=w.2.2.2.1 x hx
 rw[eD,Bool.and_eq_true]
 refine⟨?_, ?_⟩
 ·simp only[good,Bool.and_eq_true,decide_eq_true_eq]
  omega
 ·rw[iZ]
  exact .inr (by simpa using hx)
def jc (l:List Ev) : List ay:=l.flatMap fun x=>x.1.1 :: x.2
theorem VP {k:Nat} {ps:List Pt} {e:lh} {ks:List ay} (h:SI k ps) (hk:k + 65<4096) (hg:di e ks=true) (d:ay) : eD (xJ ps e ks) d=true↔eD ps d=true∨d∈e.1 :: ks:=by
 obtain⟨g1,g2,g3,_,_⟩:=lD hg
 refine Ih h (by simp; omega) fun d hd=>?_
 rcases List.mem_cons.1 hd with rfl | hd
 ·exact g1
 ·exact g3 d hd
structure StU (s:uL) : Prop where
 seen:∀ x∈s.2,eD s.1 x.1=true
 one:s.2.Pairwise fun x y=>x.1≠y.1
structure StB (a t:uL) : Prop where
 uo:∀ x∈t.2,eD a.1 x.1=true→x∈a.2
 sets:∀ d,eD a.1 d=true→eD t.1 d=true
theorem StU.empty:StU (jy,[]):=⟨by simp,.nil⟩
theorem YP (d:ay) : eD jy d=false:=by
 rw[eD,Dm]
 cases good d with
 | false=>rfl
 | true =>
   simp only[Bool.true_and]
   unfold jg
   simp
   omega
theorem Ub (l:List Ev) : (uQ l).length≤l.length:=by
 have:=Dl l l.length
 rwa [List.take_length] at this
theorem Kc:∀ {l:List Ev},(∀ x∈l,di x.1 x.2=true)→(jc l).length≤65 * l.length
 | [],_=>by simp[jc]
 | x :: l,h=>by
   have e:jc (x :: l)=(x.1.1 :: x.2)++jc l:=by simp[jc]
   have:=Kc (l:=l) fun y hy=>h y (by simp[hy])
   obtain⟨_,g2,_,_,_⟩:=lD (h x (by simp))
   rw[e,List.length_append,List.length_cons,List.length_cons]
   omega
def Live (l:List Ev) (x:aH) : Prop:=∃ e∈l,e.1.2.1=1∧jk e.1=x∧∀ f∈l,e.1.1 ∉ f.2
structure Ch (l:List Ev) (s:uL) : Prop where
 uo:∀ x,x∈s.2↔Live l x
 sets:∀ d,eD s.1 d=true↔d∈jc l
 up:yB s.2
 one:s.2.Pairwise fun x y=>x.1≠y.1
 si:∃ k,SI k s.1
theorem sU {l:List Ev} {d:ay} : d∈jc l↔∃ e∈l,d=e.1.1∨d∈e.2:=by
 unfold jc
 rw[List.mem_flatMap]
 constructor
 ·rintro⟨e,he,h⟩
  exact⟨e,he,List.mem_cons.1 h⟩
 ·rintro⟨e,he,h⟩
  exact⟨e,he,List.mem_cons.2 h⟩
theorem Live.mem {l m:List Ev} {x:aH} (h:Live l x) (hm:∀ e,e∈l↔e∈m) : Live m x:=by
 obtain⟨e,he,h1,h2,h3⟩:=h
 exact⟨e,(hm e).1 he,h1,h2,fun f hf=>h3 f ((hm f).2 hf)⟩
theorem Ch.mem {l m:List Ev} {s:uL} (h:Ch l s) (hm:∀ e,e∈l↔e∈m) : Ch m s where
 uo x:=(h.uo x).trans ⟨fun h=>h.mem hm,fun h=>h.mem fun e=>(hm e).symm⟩
 sets d:=by
  rw[h.sets,sU,sU]
  exact⟨fun⟨e,he,h⟩=>⟨e,(hm e).1 he,h⟩,fun⟨e,he,h⟩=>⟨e,(hm e).2 he,h⟩⟩
 up:=h.up
 one:=h.one
 si:=h.si
theorem Ch.stU {l:List Ev} {s:uL} (h:Ch l s) : StU s:=⟨fun x hx=>by
 obtain⟨e,he,_,rfl,_⟩:=(h.uo x).1 hx
 exact(h.sets _).2 (sU.2 ⟨e,he,.inl rfl⟩),h.one⟩
theorem _root_.Go.Ab.ay.SI.tight {k:Nat} {ps:List Pt} {D:List ay} (h:SI k ps) (hd:∀ d,eD ps d=true→d∈D) : SI D.length ps:=by
 refine⟨h.len,h.wf,fun p hp=>?_⟩
 obtain⟨i,hi,rfl⟩:=List.getElem_of_mem hp
 have S9:i<16:=by rw[← h.len]; exact hi
 have hw:=(h.wf _ hp).1
 have hn:((ps[i].2).map fun x=>(((i:Int),x) : ay)).Nodup:=by
  rw[List.Nodup,List.pairwise_map]
  exact List.Pairwise.imp (fun {a b} (h:a<b) e=>by cases e; omega) hw
 have:=xX hn (ys:=D) fun d hd'=>by
  obtain⟨x,hx,rfl⟩:=List.mem_map.1 hd'
  refine hd _ (aar h S9 ?_)
  rw[zG hi]
  exact hx
 rwa [List.length_map] at this
theorem Ch.siD {l:List Ev} {s:uL} {D:List ay} (h:Ch l s) (hD:∀ d∈jc l,d∈D) : SI D.length s.1:=by
 obtain⟨k,hk⟩:=h.si
 exact hk.tight fun d hd=>hD d ((h.sets d).1 hd)
theorem Ch.len {l m:List Ev} {s:uL} (h:Ch l s) (hm:∀ e∈l,e∈m) : s.2.length≤m.length:=by
 have hn:(s.2.map fun x=>x.1).Nodup:=by
  rw[List.Nodup,List.pairwise_map]
  exact h.one
 have:=xX hn (ys:=m.map fun e=>e.1.1) fun d hd=>by
  obtain⟨x,hx,rfl⟩:=List.mem_map.1 hd
  obtain⟨e,he,_,rfl,_⟩:=(h.uo x).1 hx
  exact List.mem_map.2 ⟨e,hm e he,rfl⟩
 rwa [List.length_map,List.length_map] at this
theorem Kz {ps:List Pt} {es:List aH} {e:lh} {ks:List ay} {x:aH} : x∈gT ps es e ks↔x.1 ∉ ks∧(x∈es∨(e.2.1=1∧eD ps e.1=false∧x=jk e)):=by
 unfold gT
 rw[List.mem_filter]
 constructor
 ·rintro⟨h1,h2⟩
  refine⟨by simpa using h2, ?_⟩
  split at h1
  ·rename_i hc
   simp only[Bool.and_eq_true,Bool.not_eq_true',decide_eq_true_eq] at hc
   rw[(qO iJ _).mem_iff,List.mem_append,List.mem_singleton] at h1
   rcases h1 with h1 | h1
   ·exact .inl h1
   ·exact .inr ⟨hc.1,hc.2,h1⟩
  ·exact .inl h1
 ·rintro⟨h1,h2⟩
  refine⟨?_,by simpa using h1⟩
  split
  ·rw[(qO iJ _).mem_iff,List.mem_append,List.mem_singleton]
   rcases h2 with h2 | ⟨_,_,h2⟩
   ·exact .inl h2
   ·exact .inr h2
  ·rename_i hc
   rcases h2 with h2 | ⟨h3,h4,_⟩
   ·exact h2
   ·exact absurd (by rw[h3,h4]; rfl) hc
theorem Ch.step {l:List Ev} {s:uL} {x:Ev} {k:Nat} (h:Ch l s) (hk:SI k s.1) (hk2:k + 65<4096) (hg:di x.1 x.2=true) (hf:∀ e∈l,e.1.1≠x.1.1) : Ch (l++[x]) (lQ s x):=by
 have hU:=h.stU
 have e1:lQ s x=(xJ s.1 x.1 x.2,gT s.1 s.2 x.1 x.2):=by unfold lQ; rw[if_pos hg]
 have hm:=VP hk hk2 hg
 rw[e1]
 refine⟨fun y=>?_,fun d=>?_,PD h.up, ?_,⟨_,Bl hk⟩⟩
 ·rw[Kz,h.uo]
  constructor
  ·rintro⟨hy,⟨e,he,h1,rfl,h3⟩ | ⟨h1,h2,rfl⟩⟩
   ·refine⟨e,by simp[he],h1,rfl,fun f hf'=>?_⟩
    rcases List.mem_append.1 hf' with hf' | hf'
    ·exact h3 f hf'
    ·rw[List.mem_singleton] at hf'
     subst hf'
     exact hy
   ·refine⟨x,by simp,h1,rfl,fun f hf'=>?_⟩
    rcases List.mem_append.1 hf' with hf' | hf'
    ·intro hk'
     rw[(h.sets x.1.1).2 (sU.2 ⟨f,hf',.inr hk'⟩)] at h2
     cases h2
    ·rw[List.mem_singleton] at hf'
     subst hf'
     exact hy
  ·rintro⟨e,he,h1,rfl,h3⟩
   refine⟨h3 x (by simp), ?_⟩
   rcases List.mem_append.1 he with he | he
   ·exact .inl ⟨e,he,h1,rfl,fun f hf'=>h3 f (by simp[hf'])⟩
   ·rw[List.mem_singleton] at he
    subst he
    refine .inr ⟨h1, ?_,rfl⟩
    cases hs:eD s.1 e.1.1 with
    | false=>rfl
    | true =>
      obtain⟨f,hf',hd⟩:=sU.1 ((h.sets _).1 hs)
      rcases hd with hd | hd
      ·exact absurd hd.symm (hf f hf')
      ·exact absurd hd (h3 f (by simp[hf']))
 ·show eD (xJ s.1 x.1 x.2) d=true↔_
  rw[hm,h.sets]
  have:jc (l++[x])=jc l++(x.1.1 :: x.2):=by simp[jc]
  rw[this,List.mem_append]
 ·show(gT s.1 s.2 x.1 x.2).Pairwise _
  unfold gT
  refine List.Pairwise.filter _ ?_
  split
  ·rename_i hc
   simp only[Bool.and_eq_true,Bool.not_eq_true',decide_eq_true_eq] at hc
   refine(qO iJ _).symm.pairwise ?_ (fun {a b} hab e=>hab e.symm)
   rw[List.pairwise_append]
   refine⟨h.one,by simp,fun a ha b hb e=>?_⟩
   simp only[List.mem_singleton] at hb
   subst hb
   have:=hU.seen a ha
   rw[e,show(jk x.1).1=x.1.1 from rfl,hc.2] at this
   cases this
  ·exact h.one
theorem Ch.empty:Ch [] (jy,[]):=⟨fun x=>by simp[Live],fun d=>by rw[YP]; simp[jc],.nil,.nil,⟨0,Ay⟩⟩
theorem Ch.run {l:List Ev} (hg:∀ x∈l,di x.1 x.2=true) (hd:l.Pairwise fun x y=>x.1.1≠y.1.1) (hl:l.length≤60) : Ch l (fP l):=by
 suffices h:∀ n,n≤l.length→Ch (l.take n) (fP (l.take n)) by
  have:=h l.length (Nat.le_refl _)
  rwa [List.take_length] at this
 intro n
 induction n with
 | zero=>intro _; exact Ch.empty
 | succ n ih =>
   intro hn
   have h0:=ih (by omega)
   have e:l.take (n + 1)=l.take n++[l[n]]:=List.take_succ_eq_append_getElem (by omega)
   rw[e,Gs]
   have hI:=Rm (l.take n)
   rw[List.length_take,Nat.min_eq_left (by omega)] at hI
   refine h0.step hI.si (by omega) (hg _ (List.getElem_mem _)) fun y hy=>?_
   obtain⟨i,hi,rfl⟩:=List.getElem_of_mem hy
   rw[List.length_take] at hi
   rw[List.getElem_take]
   exact(List.pairwise_iff_getElem.1 hd) i n (by omega) (by omega) (by omega)
theorem Jn:∀ {a b:List aH},yB a→yB b→(a.Pairwise fun x y=>x.1≠y.1)→(b.Pairwise fun x y=>x.1≠y.1)→(∀ x,x∈a↔x∈b)→a=b:=by
 intro a b ha hb oa ob hm
 have strict:∀ {c:List aH},yB c→(c.Pairwise fun x y=>x.1≠y.1)→c.Pairwise fun x y=>fO x y=true:=fun {c} hu ho=>by
  refine List.Pairwise.imp (fun {x y} h=>?_) (List.Pairwise.and hu ho)
  cases hxy:fO x y with
  | true=>rfl
  | false=>exact absurd (of_decide_eq_true (U6 hxy h.1)).2.2 h.2
 have sa:=strict ha oa
 have sb:=strict hb ob
 clear ha hb oa ob
 induction a generalizing b with
 | nil =>
   cases b with
   | nil=>rfl
   | cons y b=>exact absurd ((hm y).2 (by simp)) (by simp)
 | cons x a ih =>
   cases b with
   | nil=>exact absurd ((hm x).1 (by simp)) (by simp)
   | cons y b =>
     rw[List.pairwise_cons] at sa sb
     have hxy:x=y:=by
      rcases List.mem_cons.1 ((hm x).1 (by simp)) with h | h
      ·exact h
      ·rcases List.mem_cons.1 ((hm y).2 (by simp)) with h' | h'
       ·exact h'.symm
       ·have h1:=sb.1 x h
        have h2:=sa.1 y h'
        have:=iJ.trans _ _ _ h1 h2
        rw[iJ.irrefl] at this
        cases this
     subst hxy
     rw[ih (fun z=>?_) sa.2 sb.2]
     constructor
     ·intro hz
      rcases List.mem_cons.1 ((hm z).1 (by simp[hz])) with h | h
      ·subst h
       have:=sa.1 z hz
       rw[iJ.irrefl] at this
       cases this
      ·exact h
     ·intro hz
      rcases List.mem_cons.1 ((hm z).2 (by simp[hz])) with h | h
      ·subst h
       have:=sb.1 z hz
       rw[iJ.irrefl] at this
       cases this
      ·exact h
theorem Ch.eq {l:List Ev} {s t:uL} (h:Ch l s) (g:Ch l t) : s.2=t.2∧oL s.1 t.1=true∧oL t.1 s.1=true:=by
 obtain⟨k,hk⟩:=h.si
 obtain⟨m,hm⟩:=g.si
 refine⟨Jn h.up g.up h.one g.one fun x=>by rw[h.uo,g.uo], ?_, ?_⟩
 ·exact(Il hk.wf hm.wf).2 fun d hd=>(g.sets d).2 ((h.sets d).1 hd)
 ·exact(Il hm.wf hk.wf).2 fun d hd=>(h.sets d).2 ((g.sets d).1 hd)
theorem aak (l:List Ev) : (uQ l).Pairwise fun x y=>x.1.1≠y.1.1:=by
 suffices h:∀ (l out:List Ev),(out.Pairwise fun x y=>x.1.1≠y.1.1)→(l.foldl nI out).Pairwise fun x y=>x.1.1≠y.1.1 from h l [] .nil
 intro l
 induction l with
 | nil=>intro out h; exact h
 | cons x l ih =>
   intro out h
   refine ih _ ?_
   unfold nI
   split
   ·rename_i hc
    simp only[Bool.not_eq_true',Bool.or_eq_false_iff,Bool.not_eq_false'] at hc
    rw[List.pairwise_append]
    refine⟨h,by simp,fun a ha b hb e=>?_⟩
    simp only[List.mem_singleton] at hb
    subst hb
    have:=List.any_eq_false.1 hc.2 a ha
    exact this (decide_eq_true e)
   ·exact h
end Go.Ab.Crw
