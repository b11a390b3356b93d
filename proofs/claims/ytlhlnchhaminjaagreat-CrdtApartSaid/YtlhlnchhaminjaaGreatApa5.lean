/- Part 5 of the ground of the proofs of this seat (texts Q1 to E2). By an AI agent. -/
import Derived.Test.YtlhlnchhaminjaaGreatApa4
import Derived.Sort.AssemblyPlain
import Derived.KernelRfl
set_option maxRecDepth 10000
set_option linter.unusedVariables false
set_option linter.unusedSimpArgs false
namespace Go.Ab.ak
open Go Go.Ab
abbrev lN:Nat→Nat→Bool:=fun x y=>decide (x<y)
def PM (M:RM) (b T:Nat) (d:Array Nat) : RM:=M.put b (.row (aX.row d.toList) true T 0)
abbrev vv (b n:Nat) : AV:=.slc b 0 n (.op 1)
section
variable {M:RM} {b T n i j:Nat} {d:Array Nat} {K:AV→Prop}
theorem PM.heap:(PM M b T d).heap b=some (.row (aX.row d.toList) true T 0):=RM.sV _ _
theorem PM.EE:(aX.row d.toList).length=d.size:=by rw [Enc.eG]; simp [aX]
theorem sZ (hi:i<d.size) : d[i]! = d[i]:=getElem!_pos d i hi
theorem PM.cellAt (hi:i<d.size) : (aX.row d.toList)[i]?=some (N .u64 ((d[i]! : Nat) : Int)):=by
 rw [Ji,List.getElem?_map,Array.getElem?_toList,sZ hi,Array.getElem?_eq_getElem hi]; rfl
theorem PM.idx {kd:IntKind} (hi:i<n) : au (vv b n) (N kd (i:Int)) 1 K=K (.ptr b i):=by
 rw [mW]
 simp only [Int.toNat_natCast]
 rw [show 0 + i * 1=i by omega]
 exact propext ⟨fun h=>h.2.2,fun h=>⟨by omega,by omega,h⟩⟩
theorem PM.rd {kd:IntKind} (hn:n=d.size) (hi:i<d.size) : (au (vv b n) (N kd (i:Int)) 1 fun p=>ax (PM M b T d) p K)=K (N .u64 ((d[i]! : Nat) : Int)):=by
 rw [PM.idx (by omega),az PM.heap (PM.cellAt hi)]
theorem PM.put {x:Nat} (hi:i<d.size) {K:RM→Prop} : aD (PM M b T d) (.ptr b i) (N .u64 (x:Int)) 1 K=K (PM M b T (d.setIfInBounds i x)):=by
 rw [eB PM.heap (by rw [PM.EE]; exact hi) rfl rfl]
 congr 1
 have e:(aX.row d.toList).set i (N .u64 (x:Int))=aX.row (d.setIfInBounds i x).toList:=by rw [Ji,Ji,Array.toList_setIfInBounds,List.map_set]
 rw [e,PM,PM]
 unfold RM.put
 congr 1
 funext c
 by_cases h:c=b <;> simp [h]
theorem PM.swap {k1 k2:IntKind} (hn:n=d.size) (hi:i<d.size) (hj:j<d.size) {K:RM→Prop} :
  (au (vv b n) (N k1 (i:Int)) 1 fun p=>aD (PM M b T d) p (N .u64 ((d[j]! : Nat) : Int)) 1 fun M1=>au (vv b n) (N k2 (j:Int)) 1 fun q=>aD M1 q (N .u64 ((d[i]! : Nat) : Int)) 1 K)=K (PM M b T (Sort.swp d i j)):=by
 rw [PM.idx (by omega),PM.put hi,PM.idx (by omega),PM.put (by simpa using hj)]
 rfl
theorem dZ (d:Array Nat) (i j:Nat) : (Sort.swp d i j).size=d.size:=by simp [Sort.swp]
theorem PM.push {x:RB} (h:b<M.next) : (PM M b T d).push x=PM (M.push x) b T d:=by
 unfold PM RM.push RM.put
 congr 1
 funext c
 simp only
 by_cases h1:c=M.next <;> by_cases h2:c=b <;> simp [h1,h2] <;> omega
theorem PM.PK {x:RB} {c:Nat} (h:c≠b) : (PM M b T d).put c x=PM (M.put c x) b T d:=by
 unfold PM RM.put
 congr 1
 funext e
 simp only
 by_cases h1:e=c <;> by_cases h2:e=b <;> simp [h1,h2] <;> omega
theorem PM.Gl {c:Nat} (h:c≠b) : (PM M b T d).heap c=M.heap c:=by
 unfold PM RM.put; simp [h]
theorem addN (h:i + j<4611686018427387904) : af .add (N .i64 (i:Int)) (N .i64 (j:Int)) K=K (N .i64 ((i + j:Nat) : Int)):=by
 rw [dm,aW (by omega) (by omega),Int.natCast_add]
theorem add1 (h:i<4611686018427387904) : af .add (N .i64 (i:Int)) (N .i64 1) K=K (N .i64 ((i + 1:Nat) : Int)):=by
 rw [dm,ik (by omega)]
theorem dK (h:j≤i) (hb:i<4611686018427387904) : af .sub (N .i64 (i:Int)) (N .i64 (j:Int)) K=K (N .i64 ((i - j:Nat) : Int)):=by
 rw [fJ,aW (by omega) (by omega),show (i:Int) - (j:Int)=((i - j:Nat) : Int) by omega]
theorem bD (h:1≤i) (hb:i<4611686018427387904) : af .sub (N .i64 (i:Int)) (N .i64 1) K=K (N .i64 ((i - 1:Nat) : Int)):=dK h hb
theorem UO (hb:i<1152921504606846976) : af .mul (N .i64 2) (N .i64 (i:Int)) K=K (N .i64 ((2 * i:Nat) : Int)):=by
 rw [pO,aW (by omega) (by omega),show (2:Int) * (i:Int)=((2 * i:Nat) : Int) by omega]
theorem dS:af .lss (N .i64 (i:Int)) (N .i64 (j:Int)) K=K (Bo (decide (i<j))):=by rw [dF,show decide ((i:Int)<(j:Int))=decide (i<j) by simp]
theorem nz:af .gtr (N .i64 (i:Int)) (N .i64 (j:Int)) K=K (Bo (decide (i > j))):=by rw [gH,show decide ((i:Int) > (j:Int))=decide (i > j) by simp]
theorem jG:af .leq (N .i64 (i:Int)) (N .i64 (j:Int)) K=K (Bo (decide (i≤j))):=by rw [jT,show decide ((i:Int)≤(j:Int))=decide (i≤j) by simp]
theorem gQ:af .geq (N .i64 (i:Int)) (N .i64 (j:Int)) K=K (Bo (decide (i ≥ j))):=by rw [fw,show decide ((i:Int) ≥ (j:Int))=decide (i ≥ j) by simp]
theorem HV:af .eql (N .i64 (i:Int)) (N .i64 (j:Int)) K=K (Bo (decide (i=j))):=by
 rw [df,show ((i:Int) == (j:Int))=decide (i=j) by by_cases h:i=j <;> simp [h]; omega]
end
def uW (T:Nat) (f:Array Nat→Nat→Nat→Array Nat) (P:Array Nat→Nat→Nat→Prop) (c:aj) : Prop:=∀ {M:RM} {b a e:Nat} {d:Array Nat} {Q:ah},b<M.next→d.size≤1000000→a≤e→e≤d.size→P d a e→Q (.tup []) (PM M b T (f d a e)) →
 c [vv b d.size,N .i64 (a:Int),N .i64 (e:Int)] (PM M b T d) Q
theorem El (a:Nat) : ∀ (j:Nat) (d:Array Nat),(Sort.insInner lN a j d).size=d.size
 | 0,d=>rfl
 | j + 1,d=>by
   rw [Sort.insInner]
   split
   ·rw [El a j,dZ]
   ·rfl
theorem Rb {T:Nat} {cl:aj} (hl:tN cl) : uW T (Sort.insertionSort lN) (fun _ _ _=>True) fun args M Q=>∃ a0 a1 a2,args=[a0,a1,a2]∧eu cl a0 a1 a2 M Q:=by
 intro M b a e d Q hb hsz hae he _ hQ
 refine ⟨_,_,_,rfl, ?_⟩
 unfold eu
 simp only [eD,dN,dQ]
 rw [add1 (by omega)]
 rw [Sort.insertionSort] at hQ
 obtain ⟨R,hR⟩ : ∃ R,R=Sort.insOuter lN a e (a + 1) d:=⟨_,rfl⟩
 rw [← hR] at hQ
 refine aG (fun m ys M3=>∃ (i:Nat) (d3:Array Nat),m=d.size - i∧ys=[N .i64 (i:Int)]∧i≤d.size + 1∧M3=PM M b T d3∧d3.size=d.size∧R=Sort.insOuter lN a e i d3) _ ⟨a + 1,d,rfl,rfl,by omega,rfl,rfl,hR⟩ ?_
 rintro next m ys M3 hnext ⟨i,d3,rfl,rfl,hi,rfl,hs3,hm⟩
 dsimp only [aa]
 rw [dS]
 refine aF (fun hlt=>?_) (fun hge=>?_)
 ·have hlt:i<e:=of_decide_eq_true hlt
  rw [Sort.insOuter,if_pos hlt] at hm
  obtain ⟨R5,hR5⟩ : ∃ R5,R5=Sort.insInner lN a i d3:=⟨_,rfl⟩
  rw [← hR5] at hm
  refine aG (fun m ys M5=>∃ (j:Nat) (d5:Array Nat),m=j + 1∧ys=[N .i64 (j:Int)]∧j≤i∧M5=PM M b T d5∧d5.size=d.size∧R5=Sort.insInner lN a j d5) _ ⟨i,d3,rfl,rfl,Nat.le_refl _,rfl,hs3,hR5⟩ ?_
  rintro next2 m ys M5 hnext2 ⟨j,d5,rfl,rfl,hj,rfl,hs5,hm5⟩
  dsimp only [aa]
  rw [nz]
  have out:Sort.insInner lN a j d5=d5→af .add (N .i64 (i:Int)) (N .i64 1) (fun t14=>next [t14] (PM M b T d5)):=fun h=>by
   rw [add1 (by omega)]
   refine hnext _ _ _ (by omega) ⟨i + 1,d5,rfl,rfl,by omega,rfl,hs5, ?_⟩
   rw [hm,hm5,h]
  by_cases hg:j > a
  ·obtain ⟨k,rfl⟩ : ∃ k,j=k + 1:=⟨j - 1,by omega⟩
   rw [decide_eq_true hg,cz]
   dsimp only
   rw [PM.rd hs5.symm (by omega),bD (by omega) (by omega),Nat.add_sub_cancel,PM.rd hs5.symm (by omega)]
   refine hl ?_
   rw [dO]
   rw [Sort.insInner] at hm5 out
   refine aF (fun h=>?_) (fun h=>?_)
   ·rw [if_pos (by simp [hg,h])] at hm5
    rw [bD (by omega) (by omega),bD (by omega) (by omega),Nat.add_sub_cancel,PM.rd hs5.symm (by omega),PM.rd hs5.symm (by omega),PM.swap hs5.symm (by omega) (by omega),bD (by omega) (by omega),Nat.add_sub_cancel]
    exact hnext2 _ _ _ (by omega) ⟨k,_,rfl,rfl,by omega,rfl,by rw [dZ]; exact hs5,hm5⟩
   ·exact out (by rw [if_neg (by simp [h])])
  ·rw [decide_eq_false hg,bL]
   dsimp only
   rw [dz,bF]
   refine out ?_
   cases j with
   | zero=>rfl
   | succ k=>rw [Sort.insInner,if_neg (by simp [hg])]
 ·have hge:¬ i<e:=of_decide_eq_false hge
  rw [Sort.insOuter,if_neg hge] at hm
  rw [hm] at hQ
  exact hQ
theorem Me {T:Nat} : uW T Sort.reverseRange (fun _ a e=>a<e) fun args M Q=>∃ a0 a1 a2,args=[a0,a1,a2]∧iH a0 a1 a2 M Q:=by
 intro M b a e d Q hb hsz hae he hP hQ
 refine ⟨_,_,_,rfl, ?_⟩
 unfold iH
 rw [bD (by omega) (by omega)]
 rw [Sort.reverseRange] at hQ
 obtain ⟨R,hR⟩ : ∃ R,R=Sort.reverseLoop a (e - 1) d:=⟨_,rfl⟩
 rw [← hR] at hQ
 refine aG (fun m ys M3=>∃ (i j:Nat) (d3:Array Nat),m=j - i∧ys=[N .i64 (i:Int),N .i64 (j:Int)]∧j<d.size∧i≤d.size∧M3=PM M b T d3∧d3.size=d.size∧R=Sort.reverseLoop i j d3) _ ⟨a,e - 1,d,rfl,rfl,by omega,by omega,rfl,rfl,hR⟩ ?_
 rintro next m ys M3 hnext ⟨i,j,d3,rfl,rfl,hj,hi,rfl,hs3,hm⟩
 dsimp only [aa]
 rw [dS]
 rw [Sort.reverseLoop] at hm
 refine aF (fun hlt=>?_) (fun hge=>?_)
 ·have hlt:i<j:=of_decide_eq_true hlt
  rw [if_pos hlt] at hm
  rw [PM.rd hs3.symm (by omega),PM.rd hs3.symm (by omega),PM.swap hs3.symm (by omega) (by omega),add1 (by omega),bD (by omega) (by omega)]
  exact hnext _ _ _ (by omega) ⟨i + 1,j - 1,_,rfl,rfl,by omega,by omega,rfl,by rw [dZ]; exact hs3,hm⟩
 ·have hge:¬ i<j:=of_decide_eq_false hge
  rw [if_neg hge] at hm
  rw [hm] at hQ
  exact hQ
def QH (T:Nat) (c:aj) : Prop:=∀ {M:RM} {b lo hi first:Nat} {d:Array Nat} {Q:ah},b<M.next→d.size≤1000000→first + hi≤d.size→lo≤1000000→Q (.tup []) (PM M b T (Sort.siftDown lN hi first lo d)) →
 c [vv b d.size,N .i64 (lo:Int),N .i64 (hi:Int),N .i64 (first:Int)] (PM M b T d) Q
theorem vH (hi first:Nat) : ∀ (k lo:Nat) (d:Array Nat),hi - lo≤k→(Sort.siftDown lN hi first lo d).size=d.size
 | 0,lo,d,h=>by rw [Sort.siftDown,dif_pos (by omega)]
 | k + 1,lo,d,h=>by
   rw [Sort.siftDown]
   split
   ·rfl
   ·split
    ·split
     ·rfl
     ·split
      ·rw [vH hi first k _ _ (by omega),dZ]
      ·rfl
    ·split
     ·rfl
     ·rw [vH hi first k _ _ (by omega),dZ]
theorem RG {T:Nat} {cl:aj} (hl:tN cl) : QH T fun args M Q=>∃ a0 a1 a2 a3,args=[a0,a1,a2,a3]∧jP cl a0 a1 a2 a3 M Q:=by
 intro M b lo hi first d Q hb hsz hfe hlo hQ
 refine ⟨_,_,_,_,rfl, ?_⟩
 unfold jP
 simp only [eD,dN,dQ,bT]
 obtain ⟨R,hR⟩ : ∃ R,R=Sort.siftDown lN hi first lo d:=⟨_,rfl⟩
 rw [← hR] at hQ
 refine aG (fun m ys M3=>∃ (r:Nat) (d3:Array Nat),m=1000000 + hi - r∧ys=[N .i64 (r:Int)]∧(r≤1000000)∧M3=PM M b T d3∧d3.size=d.size∧R=Sort.siftDown lN hi first r d3) _ ⟨lo,d,rfl,rfl,hlo,rfl,rfl,hR⟩ ?_
 rintro next m ys M3 hnext ⟨r,d3,rfl,rfl,hr,rfl,hs3,hm⟩
 dsimp only [aa]
 rw [UO (by omega),add1 (by omega),gQ]
 rw [Sort.siftDown] at hm
 refine aF (fun hg=>?_) (fun hg=>?_)
 ·rw [dif_pos (of_decide_eq_true hg)] at hm
  rw [hm] at hQ
  exact hQ
 have hg:¬ 2 * r + 1 ≥ hi:=of_decide_eq_false hg
 rw [dif_neg hg] at hm
 -- the child that is taken
 refine aZ (fun zs M'=>∃ c:Nat,zs=[N .i64 (c:Int)]∧M'=PM M b T d3∧r<c∧c<hi∧R=if !lN d3[first + r]! d3[first + c]! then d3 else Sort.siftDown lN hi first c (Sort.swp d3 (first + r) (first + c))) ?_ ?_
 ·rintro zs M' ⟨c,rfl,rfl,hrc,hchi,hm2⟩
  dsimp only [aa]
  rw [addN (by omega),PM.rd hs3.symm (by omega),addN (by omega),PM.rd hs3.symm (by omega)]
  refine hl ?_
  rw [bB]
  refine aF (fun h=>?_) (fun h=>?_)
  ·rw [if_pos h] at hm2
   rw [hm2] at hQ
   exact hQ
  ·rw [if_neg (by simp only [lN,h]; decide)] at hm2
   rw [addN (by omega),addN (by omega),addN (by omega),PM.rd hs3.symm (by omega),addN (by omega),PM.rd hs3.symm (by omega),PM.swap hs3.symm (by omega) (by omega)]
   exact hnext _ _ _ (by omega) ⟨c,_,rfl,rfl,by omega,rfl,by rw [dZ]; exact hs3,hm2⟩
 intro J hJ
 rw [add1 (by omega),dS]
 have one:¬ (2 * r + 1 + 1<hi∧lN d3[first + (2 * r + 1)]! d3[first + (2 * r + 1) + 1]! = true)→J [N .i64 ((2 * r + 1:Nat) : Int)] (PM M b T d3):=fun h=>by
  refine hJ _ _ ⟨2 * r + 1,rfl,rfl,by omega,by omega, ?_⟩
  rw [if_neg (by simpa using h)] at hm
  exact hm
 by_cases h1:2 * r + 1 + 1<hi
 ·rw [decide_eq_true h1,cz]
  dsimp only
  rw [addN (by omega),PM.rd hs3.symm (by omega),addN (by omega),add1 (by omega),PM.rd hs3.symm (by omega)]
  refine hl ?_
  rw [dO]
  refine aF (fun h=>?_) (fun h=>?_)
  ·rw [add1 (by omega)]
   refine hJ _ _ ⟨2 * r + 2,rfl,rfl,by omega,by omega, ?_⟩
   rw [if_pos (by simp only [lN,h,decide_eq_true h1,Bool.and_self]),dif_pos (by omega)] at hm
   exact hm
  ·exact one (fun h'=>by have:=h'.2; rw [show lN d3[first + (2 * r + 1)]! d3[first + (2 * r + 1) + 1]! = false from h] at this; cases this)
 ·rw [decide_eq_false h1,bL]
  dsimp only
  rw [dz,bF]
  exact one (fun h=>h1 h.1)
theorem Mt (hi first:Nat) : ∀ (k:Nat) (d:Array Nat),(Sort.heapBuild lN hi first k d).size=d.size
 | 0,d=>rfl
 | k + 1,d=>by rw [Sort.heapBuild,Mt hi first k,vH hi first hi _ _ (by omega)]
theorem Sa {T:Nat} {cs:aj} (hs:QH T cs) : uW T (Sort.heapSort lN) (fun _ a e=>a<e) fun args M Q=>∃ a0 a1 a2,args=[a0,a1,a2]∧jW cs a0 a1 a2 M Q:=by
 intro M b a e d Q hb hsz hae he hP hQ
 refine ⟨_,_,_,rfl, ?_⟩
 unfold jW
 rw [Sort.heapSort] at hQ
 rw [dK hae (by omega),bD (by omega) (by omega),jo]
 refine ⟨by decide, ?_⟩
 rw [show (2:Int)=((2:Nat) : Int) from rfl,show ((e - a - 1:Nat) : Int).tdiv ((2:Nat) : Int)=(((e - a - 1) / 2:Nat) : Int) by rw [Int.tdiv_eq_ediv_of_nonneg (by omega)]; rfl,aW (by omega) (by omega)]
 obtain ⟨R,hR⟩ : ∃ R,R=Sort.heapBuild lN (e - a) a ((e - a - 1) / 2 + 1) d:=⟨_,rfl⟩
 rw [← hR] at hQ
 refine aG (fun m ys M3=>∃ (k:Nat) (d3:Array Nat),m=k + 1∧ys=[N .i64 ((k:Int) - 1)]∧k≤(e - a - 1) / 2 + 1∧M3=PM M b T d3∧d3.size=d.size∧R=Sort.heapBuild lN (e - a) a k d3) _ ⟨(e - a - 1) / 2 + 1,d,rfl,by congr 3; omega,Nat.le_refl _,rfl,rfl,hR⟩ ?_
 rintro next m ys M3 hnext ⟨k,d3,rfl,rfl,hk,rfl,hs3,hm⟩
 dsimp only [aa]
 rw [fw]
 refine aF (fun hg=>?_) (fun hg=>?_)
 ·have hg:1≤k:=by
   have:(k:Int) - 1 ≥ 0:=of_decide_eq_true hg
   omega
  obtain ⟨k',rfl⟩ : ∃ k',k=k' + 1:=⟨k - 1,by omega⟩
  rw [Sort.heapBuild] at hm
  rw [show ((k' + 1:Nat) : Int) - 1=(k' : Int) by omega,← hs3]
  refine hs hb (by omega) (by omega) (by omega) ?_
  rw [fJ,aW (by omega) (by omega)]
  exact hnext _ _ _ (by omega) ⟨k',_,rfl,rfl,by omega,rfl,by rw [vH _ _ (e - a) _ _ (by omega)]; exact hs3,hm⟩
 ·have hk0:k=0:=by
   have:¬ (k:Int) - 1 ≥ 0:=of_decide_eq_false hg
   omega
  subst hk0
  rw [Sort.heapBuild] at hm
  rw [hm] at hQ
  rw [bD (by omega) (by omega)]
  obtain ⟨R4,hR4⟩ : ∃ R4,R4=Sort.heapPop lN a (e - a) d3:=⟨_,rfl⟩
  rw [← hR4] at hQ
  refine aG (fun m ys M4=>∃ (k:Nat) (d4:Array Nat),m=k + 1∧ys=[N .i64 ((k:Int) - 1)]∧k≤e - a∧M4=PM M b T d4∧d4.size=d.size∧R4=Sort.heapPop lN a k d4) _ ⟨e - a,d3,rfl,by congr 3; omega,Nat.le_refl _,rfl,hs3,hR4⟩ ?_
  rintro next2 m ys M4 hnext2 ⟨k,d4,rfl,rfl,hk,rfl,hs4,hm4⟩
  dsimp only [aa]
  rw [fw]
  refine aF (fun hg=>?_) (fun hg=>?_)
  ·have hg:1≤k:=by
    have:(k:Int) - 1 ≥ 0:=of_decide_eq_true hg
    omega
   obtain ⟨k',rfl⟩ : ∃ k',k=k' + 1:=⟨k - 1,by omega⟩
   rw [Sort.heapPop] at hm4
   rw [show ((k' + 1:Nat) : Int) - 1=(k' : Int) by omega,addN (by omega),addN (by omega),PM.rd hs4.symm (by omega),PM.rd hs4.symm (by omega),PM.swap hs4.symm (by omega) (by omega),show d.size=(Sort.swp d4 a (a + k')).size by rw [dZ]; exact hs4.symm]
   refine hs (lo:=0) hb (by rw [dZ]; omega) (by rw [dZ]; omega) (by decide) ?_
   rw [fJ,aW (by omega) (by omega)]
   exact hnext2 _ _ _ (by omega) ⟨k',_,rfl,rfl,by omega,rfl,by rw [vH _ _ k' _ _ (by omega),dZ]; exact hs4,hm4⟩
  ·have hk0:k=0:=by
    have:¬ (k:Int) - 1 ≥ 0:=of_decide_eq_false hg
    omega
   subst hk0
   rw [Sort.heapPop] at hm4
   rw [hm4] at hQ
   exact hQ
end Go.Ab.ak
set_option maxRecDepth 10000
set_option linter.unusedVariables false
set_option linter.unusedSimpArgs false
namespace Go.Ab.ak
open Go Go.Ab
section
variable {body:(List AV→RM→Prop)→List AV→RM→Prop} {p:Nat→Bool} {d:Array Nat} {M:RM}
theorem Ik {J i0:Nat} (h:∀ (next:List AV→RM→Prop) (i:Nat),i0≤i→i≤max (J + 1) i0→((decide (i≤J) && p d[i]!)=true→next [N .i64 ((i + 1:Nat) : Int)] M)→((decide (i≤J) && p d[i]!)=false→i=Sort.scanUp p d J i0)→body next [N .i64 (i:Int)] M) :
  aU body [N .i64 (i0:Int)] M:=by
 obtain ⟨R,hR⟩ : ∃ R,R=Sort.scanUp p d J i0:=⟨_,rfl⟩
 refine aG (fun m ys M3=>∃ (i:Nat),m=J + 1 - i∧ys=[N .i64 (i:Int)]∧i0≤i∧i≤max (J + 1) i0∧M3=M∧R=Sort.scanUp p d J i) _ ⟨i0,rfl,rfl,Nat.le_refl _,by omega,rfl,hR⟩ ?_
 rintro next m ys M3 hnext ⟨i,rfl,rfl,h0,hi,rfl,hm⟩
 rw [Sort.scanUp] at hm
 refine h next i h0 hi (fun hc=>?_) (fun hc=>?_)
 ·rw [if_pos hc] at hm
  have hij:i≤J:=by
   rw [Bool.and_eq_true] at hc
   exact of_decide_eq_true hc.1
  exact hnext _ _ _ (by omega) ⟨i + 1,rfl,rfl,by omega,by omega,rfl,hm⟩
 ·rw [if_neg (by rw [hc]; decide)] at hm
  rw [← hR]; exact hm.symm
theorem Cu {i j0:Nat} (h1:1≤i) (h:∀ (next:List AV→RM→Prop) (j:Nat),j≤j0→(j=j0∨i≤j + 1)→((decide (i≤j) && p d[j]!)=true→next [N .i64 ((j - 1:Nat) : Int)] M)→((decide (i≤j) && p d[j]!)=false→j=Sort.scanDown p d i j0)→body next [N .i64 (j:Int)] M) :
  aU body [N .i64 (j0:Int)] M:=by
 obtain ⟨R,hR⟩ : ∃ R,R=Sort.scanDown p d i j0:=⟨_,rfl⟩
 refine aG (fun m ys M3=>∃ (j:Nat),m=j + 1∧ys=[N .i64 (j:Int)]∧j≤j0∧(j=j0∨i≤j + 1)∧M3=M∧R=Sort.scanDown p d i j) _ ⟨j0,rfl,rfl,Nat.le_refl _,.inl rfl,rfl,hR⟩ ?_
 rintro next m ys M3 hnext ⟨j,rfl,rfl,h0,hi,rfl,hm⟩
 refine h next j h0 hi (fun hc=>?_) (fun hc=>?_)
 ·have hij:i≤j:=by
   rw [Bool.and_eq_true] at hc
   exact of_decide_eq_true hc.1
  obtain ⟨k,rfl⟩ : ∃ k,j=k + 1:=⟨j - 1,by omega⟩
  rw [Sort.scanDown,if_pos hc] at hm
  exact hnext _ _ _ (by omega) ⟨k,rfl,rfl,by omega,by omega,rfl,hm⟩
 ·rw [← hR]
  cases j with
  | zero=>exact hm.symm
  | succ k=>rw [Sort.scanDown,if_neg (by rw [hc]; decide)] at hm; exact hm.symm
end
theorem vD {d d' : Array Nat} {i j:Nat} (h:d'.size=d.size) : (Sort.swp d' i j).size=d.size:=by rw [dZ,h]
def H8 (T:Nat) (c:aj) : Prop:=∀ {M:RM} {b a e pv:Nat} {d:Array Nat} {Q:ah},b<M.next→d.size≤1000000→a≤pv→pv<e→e≤d.size→Q (N .i64 (((Sort.partitionEqual lN d a e pv).1:Nat) : Int)) (PM M b T (Sort.partitionEqual lN d a e pv).2) →
 c [vv b d.size,N .i64 (a:Int),N .i64 (e:Int),N .i64 (pv:Int)] (PM M b T d) Q
theorem andM {c p:Bool} {f:ah→Prop} {M:RM} {G:AV→RM→Prop} (hf:c=true→∀ k:ah,k (Bo p) M→f k) (hG:G (Bo (c && p)) M) :
  ai (Bo c) true f (fun k=>k .undef M) (fun t M'=>aM (Bo c) t (Bo false) fun u=>G u M'):=by
 cases c with
 | false=>rw [bL]; dsimp only; rw [dz]; exact hG
 | true=>rw [cz]; exact hf rfl _ (by rw [dO]; exact hG)
theorem Mh {c p:Bool} {f:KR→Prop} {M:RM} {G:AV→RM→Prop} (hf:c=true→∀ k:KR,k (Bo p) M none→f k) (hG:G (Bo (c && p)) M) :
  ae (Bo c) true f (fun k=>k .undef M none) (fun t M' b=>aM (Bo c) t (Bo false) fun u=>G u M'):=by
 cases c with
 | false=>rw [ny]; dsimp only; rw [dz]; exact hG
 | true=>rw [jN]; exact hf rfl _ (by rw [dO]; exact hG)
theorem NG {T:Nat} {cl:aj} (hl:tN cl) : H8 T fun args M Q=>∃ a0 a1 a2 a3,args=[a0,a1,a2,a3]∧ig cl a0 a1 a2 a3 M Q:=by
 intro M b a e pv d Q hb hsz hap hpe he hQ
 refine ⟨_,_,_,_,rfl, ?_⟩
 unfold ig
 simp only [eD,dN,dQ]
 rw [Sort.partitionEqual] at hQ
 rw [PM.rd rfl (by omega),PM.rd rfl (by omega),PM.swap rfl (by omega) (by omega),add1 (by omega),bD (by omega) (by omega)]
 obtain ⟨R,hR⟩ : ∃ R,R=Sort.partEqLoop lN a (a + 1) (e - 1) (Sort.swp d a pv):=⟨_,rfl⟩
 rw [← hR] at hQ
 refine aG (fun m ys M3=>∃ (i j:Nat) (d3:Array Nat),m=j + 1 - i∧ys=[N .i64 (i:Int),N .i64 (j:Int)]∧a + 1≤i∧i≤e + 1∧j<e∧M3=PM M b T d3∧d3.size=d.size∧R=Sort.partEqLoop lN a i j d3) _ ⟨a + 1,e - 1,_,rfl,rfl,Nat.le_refl _,by omega,by omega,rfl,dZ _ _ _,hR⟩ ?_
 rintro next m ys M3 hnext ⟨i,j,d3,rfl,rfl,hai,hie,hje,rfl,hs3,hm⟩
 dsimp only [aa]
 rw [Sort.partEqLoop] at hm
 refine Ik (p:=fun x=>!lN d3[a]! x) (d:=d3) (J:=j) fun next2 i2 h0 h1 hgo hstop=>?_
 dsimp only [aa]
 rw [jG]
 refine Mh (p:=!lN d3[a]! d3[i2]!) (fun hc k hk=>?_) ?_
 ·have hc:i2≤j:=of_decide_eq_true hc
  rw [PM.rd hs3.symm (by omega),PM.rd hs3.symm (by omega)]
  refine hl ?_
  rw [bB]
  exact hk
 refine aF (fun h=>?_) (fun h=>?_)
 ·rw [add1 (by omega)]
  exact hgo h
 have hi2:=hstop h
 rw [← hi2] at hm
 refine Cu (p:=fun x=>lN d3[a]! x) (d:=d3) (i:=i2) (by omega) fun next3 j2 q0 q1 hgo3 hstop3=>?_
 dsimp only [aa]
 rw [jG]
 refine andM (p:=lN d3[a]! d3[j2]!) (fun hc k hk=>?_) ?_
 ·have hc:i2≤j2:=of_decide_eq_true hc
  rw [PM.rd hs3.symm (by omega),PM.rd hs3.symm (by omega)]
  exact hl hk
 refine aF (fun h=>?_) (fun h=>?_)
 ·have hc:i2≤j2:=by
   rw [Bool.and_eq_true] at h
   exact of_decide_eq_true h.1
  rw [bD (by omega) (by omega)]
  exact hgo3 h
 have hj2:=hstop3 h
 simp only [← hj2] at hm
 rw [nz]
 refine aF (fun hg=>?_) (fun hg=>?_)
 ·rw [if_pos (of_decide_eq_true hg)] at hm
  rw [hm] at hQ
  exact hQ
 ·have hg:¬ i2 > j2:=of_decide_eq_false hg
  rw [if_neg hg,dif_pos (by omega)] at hm
  rw [PM.rd hs3.symm (by omega),PM.rd hs3.symm (by omega),PM.swap hs3.symm (by omega) (by omega),add1 (by omega),bD (by omega) (by omega)]
  exact hnext _ _ _ (by omega) ⟨i2 + 1,j2 - 1,_,rfl,rfl,by omega,by omega,by omega,rfl,vD hs3,hm⟩
def Qc (T:Nat) (c:aj) : Prop:=∀ {M:RM} {b a e pv:Nat} {d:Array Nat} {Q:ah},b<M.next→d.size≤1000000→a≤pv→pv<e→e≤d.size→Q (.tup [N .i64 (((Sort.partition lN d a e pv).1:Nat) : Int),Bo (Sort.partition lN d a e pv).2.1]) (PM M b T (Sort.partition lN d a e pv).2.2) →
 c [vv b d.size,N .i64 (a:Int),N .i64 (e:Int),N .i64 (pv:Int)] (PM M b T d) Q
theorem Bu (d:Array Nat) (a e pv:Nat) : Sort.partition lN d a e pv =
  if Sort.scanUp (fun x=>lN x (Sort.swp d a pv)[a]!) (Sort.swp d a pv) (e - 1) (a + 1) > Sort.scanDown (fun x=>!lN x (Sort.swp d a pv)[a]!) (Sort.swp d a pv) (Sort.scanUp (fun x=>lN x (Sort.swp d a pv)[a]!) (Sort.swp d a pv) (e - 1) (a + 1)) (e - 1) then
   (Sort.scanDown (fun x=>!lN x (Sort.swp d a pv)[a]!) (Sort.swp d a pv) (Sort.scanUp (fun x=>lN x (Sort.swp d a pv)[a]!) (Sort.swp d a pv) (e - 1) (a + 1)) (e - 1),true,Sort.swp (Sort.swp d a pv) (Sort.scanDown (fun x=>!lN x (Sort.swp d a pv)[a]!) (Sort.swp d a pv) (Sort.scanUp (fun x=>lN x (Sort.swp d a pv)[a]!) (Sort.swp d a pv) (e - 1) (a + 1)) (e - 1)) a)
  else ((Sort.partLoop lN a (Sort.scanUp (fun x=>lN x (Sort.swp d a pv)[a]!) (Sort.swp d a pv) (e - 1) (a + 1) + 1) (Sort.scanDown (fun x=>!lN x (Sort.swp d a pv)[a]!) (Sort.swp d a pv) (Sort.scanUp (fun x=>lN x (Sort.swp d a pv)[a]!) (Sort.swp d a pv) (e - 1) (a + 1)) (e - 1) - 1) (Sort.swp (Sort.swp d a pv) (Sort.scanUp (fun x=>lN x (Sort.swp d a pv)[a]!) (Sort.swp d a pv) (e - 1) (a + 1)) (Sort.scanDown (fun x=>!lN x (Sort.swp d a pv)[a]!) (Sort.swp d a pv) (Sort.scanUp (fun x=>lN x (Sort.swp d a pv)[a]!) (Sort.swp d a pv) (e - 1) (a + 1)) (e - 1)))).1,false,
   Sort.swp (Sort.partLoop lN a (Sort.scanUp (fun x=>lN x (Sort.swp d a pv)[a]!) (Sort.swp d a pv) (e - 1) (a + 1) + 1) (Sort.scanDown (fun x=>!lN x (Sort.swp d a pv)[a]!) (Sort.swp d a pv) (Sort.scanUp (fun x=>lN x (Sort.swp d a pv)[a]!) (Sort.swp d a pv) (e - 1) (a + 1)) (e - 1) - 1) (Sort.swp (Sort.swp d a pv) (Sort.scanUp (fun x=>lN x (Sort.swp d a pv)[a]!) (Sort.swp d a pv) (e - 1) (a + 1)) (Sort.scanDown (fun x=>!lN x (Sort.swp d a pv)[a]!) (Sort.swp d a pv) (Sort.scanUp (fun x=>lN x (Sort.swp d a pv)[a]!) (Sort.swp d a pv) (e - 1) (a + 1)) (e - 1)))).2
    (Sort.partLoop lN a (Sort.scanUp (fun x=>lN x (Sort.swp d a pv)[a]!) (Sort.swp d a pv) (e - 1) (a + 1) + 1) (Sort.scanDown (fun x=>!lN x (Sort.swp d a pv)[a]!) (Sort.swp d a pv) (Sort.scanUp (fun x=>lN x (Sort.swp d a pv)[a]!) (Sort.swp d a pv) (e - 1) (a + 1)) (e - 1) - 1) (Sort.swp (Sort.swp d a pv) (Sort.scanUp (fun x=>lN x (Sort.swp d a pv)[a]!) (Sort.swp d a pv) (e - 1) (a + 1)) (Sort.scanDown (fun x=>!lN x (Sort.swp d a pv)[a]!) (Sort.swp d a pv) (Sort.scanUp (fun x=>lN x (Sort.swp d a pv)[a]!) (Sort.swp d a pv) (e - 1) (a + 1)) (e - 1)))).1 a):=rfl
theorem Sk {T:Nat} {cl:aj} (hl:tN cl) : Qc T fun args M Q=>∃ a0 a1 a2 a3,args=[a0,a1,a2,a3]∧jD cl a0 a1 a2 a3 M Q:=by
 intro M b a e pv d Q hb hsz hap hpe he hQ
 refine ⟨_,_,_,_,rfl, ?_⟩
 unfold jD
 simp only [eD,dN,dQ]
 have hs2:=dZ d a pv
 rw [Bu] at hQ
 rw [PM.rd rfl (by omega),PM.rd rfl (by omega),PM.swap rfl (by omega) (by omega),add1 (by omega),bD (by omega) (by omega)]
 generalize Sort.swp d a pv=d2 at *
 refine Ik (p:=fun x=>lN x d2[a]!) (d:=d2) (J:=e - 1) fun next2 i h0 h1 hgo hstop=>?_
 dsimp only [aa]
 rw [jG]
 refine andM (p:=lN d2[i]! d2[a]!) (fun hc k hk=>?_) ?_
 ·have hc:i≤e - 1:=of_decide_eq_true hc
  rw [PM.rd hs2.symm (by omega),PM.rd hs2.symm (by omega)]
  exact hl hk
 refine aF (fun h=>?_) (fun h=>?_)
 ·rw [add1 (by omega)]
  exact hgo h
 have hi2:=hstop h
 simp only [← hi2] at hQ
 refine Cu (p:=fun x=>!lN x d2[a]!) (d:=d2) (i:=i) (by omega) fun next3 j q0 q1 hgo3 hstop3=>?_
 dsimp only [aa]
 rw [jG]
 refine Mh (p:=!lN d2[j]! d2[a]!) (fun hc k hk=>?_) ?_
 ·have hc:i≤j:=of_decide_eq_true hc
  rw [PM.rd hs2.symm (by omega),PM.rd hs2.symm (by omega)]
  refine hl ?_
  rw [bB]
  exact hk
 refine aF (fun h=>?_) (fun h=>?_)
 ·have hc:i≤j:=by
   rw [Bool.and_eq_true] at h
   exact of_decide_eq_true h.1
  rw [bD (by omega) (by omega)]
  exact hgo3 h
 have hj2:=hstop3 h
 simp only [← hj2] at hQ
 rw [nz]
 refine aF (fun hg=>?_) (fun hg=>?_)
 ·rw [if_pos (of_decide_eq_true hg)] at hQ
  rw [PM.rd hs2.symm (by omega),PM.rd hs2.symm (by omega),PM.swap hs2.symm (by omega) (by omega)]
  exact hQ
 have hg:¬ i > j:=of_decide_eq_false hg
 rw [if_neg hg] at hQ
 rw [PM.rd hs2.symm (by omega),PM.rd hs2.symm (by omega),PM.swap hs2.symm (by omega) (by omega),add1 (by omega),bD (by omega) (by omega)]
 obtain ⟨R,hR⟩ : ∃ R,R=Sort.partLoop lN a (i + 1) (j - 1) (Sort.swp d2 i j):=⟨_,rfl⟩
 simp only [← hR] at hQ
 refine aG (fun m ys M3=>∃ (i j:Nat) (d3:Array Nat),m=j + 1 - i∧ys=[N .i64 (i:Int),N .i64 (j:Int)]∧a + 1≤i∧i≤e + 1∧j<e∧M3=PM M b T d3∧d3.size=d.size∧R=Sort.partLoop lN a i j d3) _ ⟨i + 1,j - 1,_,rfl,rfl,by omega,by omega,by omega,rfl,vD hs2,hR⟩ ?_
 rintro next m ys M3 hnext ⟨i,j,d3,rfl,rfl,hai,hie,hje,rfl,hs3,hm⟩
 dsimp only [aa]
 rw [Sort.partLoop] at hm
 refine Ik (p:=fun x=>lN x d3[a]!) (d:=d3) (J:=j) fun next2 i2 h0 h1 hgo hstop=>?_
 dsimp only [aa]
 rw [jG]
 refine andM (p:=lN d3[i2]! d3[a]!) (fun hc k hk=>?_) ?_
 ·have hc:i2≤j:=of_decide_eq_true hc
  rw [PM.rd hs3.symm (by omega),PM.rd hs3.symm (by omega)]
  exact hl hk
 refine aF (fun h=>?_) (fun h=>?_)
 ·rw [add1 (by omega)]
  exact hgo h
 have hi2:=hstop h
 rw [← hi2] at hm
 refine Cu (p:=fun x=>!lN x d3[a]!) (d:=d3) (i:=i2) (by omega) fun next3 j2 q0 q1 hgo3 hstop3=>?_
 dsimp only [aa]
 rw [jG]
 refine Mh (p:=!lN d3[j2]! d3[a]!) (fun hc k hk=>?_) ?_
 ·have hc:i2≤j2:=of_decide_eq_true hc
  rw [PM.rd hs3.symm (by omega),PM.rd hs3.symm (by omega)]
  refine hl ?_
  rw [bB]
  exact hk
 refine aF (fun h=>?_) (fun h=>?_)
 ·have hc:i2≤j2:=by
   rw [Bool.and_eq_true] at h
   exact of_decide_eq_true h.1
  rw [bD (by omega) (by omega)]
  exact hgo3 h
 have hj2:=hstop3 h
 simp only [← hj2] at hm
 rw [nz]
 refine aF (fun hg=>?_) (fun hg=>?_)
 ·rw [if_pos (of_decide_eq_true hg)] at hm
  rw [hm] at hQ
  rw [PM.rd hs3.symm (by omega),PM.rd hs3.symm (by omega),PM.swap hs3.symm (by omega) (by omega)]
  exact hQ
 ·have hg:¬ i2 > j2:=of_decide_eq_false hg
  rw [if_neg hg,dif_pos (by omega)] at hm
  rw [PM.rd hs3.symm (by omega),PM.rd hs3.symm (by omega),PM.swap hs3.symm (by omega) (by omega),add1 (by omega),bD (by omega) (by omega)]
  exact hnext _ _ _ (by omega) ⟨i2 + 1,j2 - 1,_,rfl,rfl,by omega,by omega,by omega,rfl,vD hs3,hm⟩
end Go.Ab.ak
set_option maxRecDepth 10000
set_option linter.unusedVariables false
set_option linter.unusedSimpArgs false
namespace Go.Ab.ak
open Go Go.Ab
def Up (xs:List Nat) : Prop:=∀ i j (hi:i<xs.length) (hj:j<xs.length),i≤j→xs[i]≤xs[j]
theorem Asc.up {xs:List Nat} (h:Asc xs) : Up xs:=fun i j hi hj hij=>by
 rcases Nat.lt_or_ge i j with h1 | h1
 ·exact Nat.le_of_lt (h.lt h1 hj)
 ·have:i=j:=by omega
  subst this; exact Nat.le_refl _
theorem Own.u64 {M:RM} {base T:Nat} {v:AV} {xs:List Nat} (h:Ow aX M base T v xs) : Sl aX M v xs:=h.lG
theorem l8 (a b:Nat) : (a:Int).tdiv (b:Int)=((a / b:Nat) : Int):=by
 rw [Int.tdiv_eq_ediv_of_nonneg (by omega)]; rfl
end Go.Ab.ak
set_option maxRecDepth 10000
set_option linter.unusedVariables false
set_option linter.unusedSimpArgs false
namespace Go.Ab.ak
open Go Go.Ab
def SM (M:RM) (s T k:Nat) : RM:=M.put s (.row [N .i64 (k:Int)] false T 0)
theorem SM.put {M:RM} {s T k k' : Nat} : (SM M s T k).put s (.row [N .i64 (k' : Int)] false T 0)=SM M s T k':=by
 unfold SM RM.put
 congr 1
 funext c
 simp only
 by_cases h:c=s <;> simp [h]
theorem SM.new {M:RM} {T:Nat} : M.push (.row [N .i64 0] false T 0)=SM (M.push (.row [N .i64 0] false T 0)) M.next T 0:=by
 unfold SM RM.put RM.push
 congr 1
 funext c
 simp only
 by_cases h:c=M.next <;> simp [h]
def HY (T TI:Nat) (c:aj) : Prop:=∀ {M:RM} {b s k i j:Nat} {d:Array Nat} {Q:ah},s≠b→i<d.size→j<d.size→k≤1000 →
 Q (.tup [N .i64 (((Sort.order2 lN d i j k).1:Nat) : Int),N .i64 (((Sort.order2 lN d i j k).2.1:Nat) : Int)]) (PM (SM M s TI (Sort.order2 lN d i j k).2.2) b T d)→c [vv b d.size,N .i64 (i:Int),N .i64 (j:Int),.ptr s 0] (PM (SM M s TI k) b T d) Q
theorem MG {T TI:Nat} {cl:aj} (hl:tN cl) : HY T TI fun args M Q=>∃ a0 a1 a2 a3,args=[a0,a1,a2,a3]∧ll cl a0 a1 a2 a3 M Q:=by
 intro M b s k i j d Q hsb hi hj hk hQ
 refine ⟨_,_,_,_,rfl, ?_⟩
 unfold ll
 rw [PM.rd rfl (by omega),PM.rd rfl (by omega)]
 refine hl ?_
 unfold Sort.order2 at hQ
 refine aF (fun h=>?_) (fun h=>?_)
 ·rw [if_pos (by exact h)] at hQ
  have hh:(PM (SM M s TI k) b T d).heap s=some (.row [N .i64 (k:Int)] false TI 0):=by
   rw [PM.Gl hsb]; exact RM.sV _ _
  rw [aJ,az hh rfl,add1 (by omega),aJ,eB hh (by simp) rfl rfl]
  rw [PM.PK hsb]
  rw [show ([N .i64 (k:Int)] : List AV).set 0 (N .i64 ((k + 1:Nat) : Int))=[N .i64 ((k + 1:Nat) : Int)] from rfl,SM.put]
  exact hQ
 ·rw [if_neg (by rw [show lN d[j]! d[i]! = false from h]; decide)] at hQ
  exact hQ
theorem uj (d:Array Nat) (i j k:Nat) : (((Sort.order2 lN d i j k).1=i∧(Sort.order2 lN d i j k).2.1=j)∨((Sort.order2 lN d i j k).1=j∧(Sort.order2 lN d i j k).2.1=i))∧k≤(Sort.order2 lN d i j k).2.2∧(Sort.order2 lN d i j k).2.2≤k + 1:=by
 unfold Sort.order2
 split <;> simp
def Dp (T TI:Nat) (c:aj) : Prop:=∀ {M:RM} {b s k i j h:Nat} {d:Array Nat} {Q:ah},s≠b→i<d.size→j<d.size→h<d.size→k≤900 →
 Q (N .i64 (((Sort.median lN d i j h k).1:Nat) : Int)) (PM (SM M s TI (Sort.median lN d i j h k).2) b T d)→c [vv b d.size,N .i64 (i:Int),N .i64 (j:Int),N .i64 (h:Int),.ptr s 0] (PM (SM M s TI k) b T d) Q
theorem L8 {T TI:Nat} {c2:aj} (h2:HY T TI c2) : Dp T TI fun args M Q=>∃ a0 a1 a2 a3 a4,args=[a0,a1,a2,a3,a4]∧lh c2 a0 a1 a2 a3 a4 M Q:=by
 intro M b s k i j h d Q hsb hi hj hh hk hQ
 refine ⟨_,_,_,_,_,rfl, ?_⟩
 unfold lh
 unfold Sort.median at hQ
 have o1:=uj d i j k
 refine h2 hsb hi hj (by omega) ?_
 rw [ic,il]
 dsimp only at hQ
 generalize Sort.order2 lN d i j k=r1 at *
 have o2:=uj d r1.2.1 h r1.2.2
 refine h2 hsb (by omega) hh (by omega) ?_
 rw [ic,il]
 generalize Sort.order2 lN d r1.2.1 h r1.2.2=r2 at *
 refine h2 hsb (by omega) (by omega) (by omega) ?_
 rw [ic,il]
 exact hQ
theorem Bz (d:Array Nat) {i j h k n:Nat} (hi:i<n) (hj:j<n) (hh:h<n) : (Sort.median lN d i j h k).1<n∧(Sort.median lN d i j h k).2≤k + 3:=by
 unfold Sort.median
 dsimp only
 have o1:=uj d i j k
 generalize Sort.order2 lN d i j k=r1 at *
 have o2:=uj d r1.2.1 h r1.2.2
 generalize Sort.order2 lN d r1.2.1 h r1.2.2=r2 at *
 have o3:=uj d r1.1 r2.1 r2.2.2
 omega
def Hd (T TI:Nat) (c:aj) : Prop:=∀ {M:RM} {b s k i:Nat} {d:Array Nat} {Q:ah},s≠b→d.size≤1000000→1≤i→i + 1<d.size→k≤900 →
 Q (N .i64 (((Sort.medianAdjacent lN d i k).1:Nat) : Int)) (PM (SM M s TI (Sort.medianAdjacent lN d i k).2) b T d)→c [vv b d.size,N .i64 (i:Int),.ptr s 0] (PM (SM M s TI k) b T d) Q
theorem K7 {T TI:Nat} {cm:aj} (hm:Dp T TI cm) : Hd T TI fun args M Q=>∃ a0 a1 a2,args=[a0,a1,a2]∧gY cm a0 a1 a2 M Q:=by
 intro M b s k i d Q hsb hsz h1 h2 hk hQ
 refine ⟨_,_,_,rfl, ?_⟩
 unfold gY
 rw [bD (by omega) (by omega),add1 (by omega)]
 exact hm hsb (by omega) (by omega) (by omega) hk hQ
def kg:Sort.Hint→Int
 | .unknown=>0
 | .increasing=>1
 | .decreasing=>2
def I1 (T:Nat) (c:aj) : Prop:=∀ {M:RM} {b a e:Nat} {d:Array Nat} {Q:ah},b<M.next→d.size≤1000000→a<e→e≤d.size →
 (∀ M',ag [] M M'→Q (.tup [N .i64 (((Sort.choosePivot lN d a e).1:Nat) : Int),N .i64 (kg (Sort.choosePivot lN d a e).2)]) (PM M' b T d))→c [vv b d.size,N .i64 (a:Int),N .i64 (e:Int)] (PM M b T d) Q
theorem KU {T TI:Nat} {ca cm:aj} (ha:Hd T TI ca) (hm:Dp T TI cm) : I1 T fun args M Q=>∃ a0 a1 a2,args=[a0,a1,a2]∧iW TI ca cm a0 a1 a2 M Q:=by
 intro M b a e d Q hb hsz hae he hQ
 refine ⟨_,_,_,rfl, ?_⟩
 unfold iW
 simp only [bT]
 rw [dK (by omega) (by omega),bi,PM.push hb]
 have hnx:(PM M b T d).next=M.next:=rfl
 rw [hnx]
 have kk:ag [] M (M.push (.row [N .i64 0] false TI 0)):=(ag.refl _ _).push _
 have kS:∀ k,ag [] M (SM (M.push (.row [N .i64 0] false TI 0)) M.next TI k):=fun k=>kk.new _ (Nat.le_refl _)
 rw [show PM (M.push (.row [N .i64 0] false TI 0)) b T d=PM (SM (M.push (.row [N .i64 0] false TI 0)) M.next TI 0) b T d by rw [← SM.new]]
 generalize M.push (.row [N .i64 0] false TI 0)=M1 at *
 have hsb:M.next≠b:=by omega
 generalize M.next=s at *
 have hq:∀ (k:Nat) (c:Int),c=(k:Int)→k≤3→∀ (K:AV→Prop),(af .quo (N .i64 ((e - a:Nat) : Int)) (N .i64 4) fun t18=>af .mul t18 (N .i64 c) fun t19=>af .add (N .i64 (a:Int)) t19 K)=K (N .i64 ((a + (e - a) / 4 * k:Nat) : Int)):=fun k c hc hk K=>by
  subst hc
  have hb:(e - a) / 4 * k≤(e - a) * 3:=Nat.mul_le_mul (Nat.div_le_self _ _) hk
  rw [jo,show (4:Int)=((4:Nat) : Int) from rfl,l8,aW (by omega) (by omega),pO,← Int.natCast_mul,aW (by omega) (by omega),addN (by omega)]
  exact propext ⟨fun h=>h.2,fun h=>⟨by decide,h⟩⟩
 rw [hq 1 1 rfl (by omega),hq 2 2 rfl (by omega),hq 3 3 rfl (by omega)]
 have hcp:Sort.choosePivot lN d a e=((if e - a ≥ 8 then (if e - a ≥ 50 then Sort.median lN d (Sort.medianAdjacent lN d (a + (e - a) / 4 * 1) 0).1 (Sort.medianAdjacent lN d (a + (e - a) / 4 * 2) (Sort.medianAdjacent lN d (a + (e - a) / 4 * 1) 0).2).1 (Sort.medianAdjacent lN d (a + (e - a) / 4 * 3) (Sort.medianAdjacent lN d (a + (e - a) / 4 * 2) (Sort.medianAdjacent lN d (a + (e - a) / 4 * 1) 0).2).2).1 (Sort.medianAdjacent lN d (a + (e - a) / 4 * 3) (Sort.medianAdjacent lN d (a + (e - a) / 4 * 2) (Sort.medianAdjacent lN d (a + (e - a) / 4 * 1) 0).2).2).2
   else Sort.median lN d (a + (e - a) / 4 * 1) (a + (e - a) / 4 * 2) (a + (e - a) / 4 * 3) 0) else (a + (e - a) / 4 * 2,0) : Nat × Nat).1,
   if (if e - a ≥ 8 then (if e - a ≥ 50 then Sort.median lN d (Sort.medianAdjacent lN d (a + (e - a) / 4 * 1) 0).1 (Sort.medianAdjacent lN d (a + (e - a) / 4 * 2) (Sort.medianAdjacent lN d (a + (e - a) / 4 * 1) 0).2).1 (Sort.medianAdjacent lN d (a + (e - a) / 4 * 3) (Sort.medianAdjacent lN d (a + (e - a) / 4 * 2) (Sort.medianAdjacent lN d (a + (e - a) / 4 * 1) 0).2).2).1 (Sort.medianAdjacent lN d (a + (e - a) / 4 * 3) (Sort.medianAdjacent lN d (a + (e - a) / 4 * 2) (Sort.medianAdjacent lN d (a + (e - a) / 4 * 1) 0).2).2).2
   else Sort.median lN d (a + (e - a) / 4 * 1) (a + (e - a) / 4 * 2) (a + (e - a) / 4 * 3) 0) else (a + (e - a) / 4 * 2,0) : Nat × Nat).2=0 then .increasing else if (if e - a ≥ 8 then (if e - a ≥ 50 then Sort.median lN d (Sort.medianAdjacent lN d (a + (e - a) / 4 * 1) 0).1 (Sort.medianAdjacent lN d (a + (e - a) / 4 * 2) (Sort.medianAdjacent lN d (a + (e - a) / 4 * 1) 0).2).1 (Sort.medianAdjacent lN d (a + (e - a) / 4 * 3) (Sort.medianAdjacent lN d (a + (e - a) / 4 * 2) (Sort.medianAdjacent lN d (a + (e - a) / 4 * 1) 0).2).2).1 (Sort.medianAdjacent lN d (a + (e - a) / 4 * 3) (Sort.medianAdjacent lN d (a + (e - a) / 4 * 2) (Sort.medianAdjacent lN d (a + (e - a) / 4 * 1) 0).2).2).2
   else Sort.median lN d (a + (e - a) / 4 * 1) (a + (e - a) / 4 * 2) (a + (e - a) / 4 * 3) 0) else (a + (e - a) / 4 * 2,0) : Nat × Nat).2=12 then .decreasing else .unknown):=rfl
 rw [hcp] at hQ
 generalize hr:(if e - a ≥ 8 then (if e - a ≥ 50 then Sort.median lN d (Sort.medianAdjacent lN d (a + (e - a) / 4 * 1) 0).1 (Sort.medianAdjacent lN d (a + (e - a) / 4 * 2) (Sort.medianAdjacent lN d (a + (e - a) / 4 * 1) 0).2).1 (Sort.medianAdjacent lN d (a + (e - a) / 4 * 3) (Sort.medianAdjacent lN d (a + (e - a) / 4 * 2) (Sort.medianAdjacent lN d (a + (e - a) / 4 * 1) 0).2).2).1 (Sort.medianAdjacent lN d (a + (e - a) / 4 * 3) (Sort.medianAdjacent lN d (a + (e - a) / 4 * 2) (Sort.medianAdjacent lN d (a + (e - a) / 4 * 1) 0).2).2).2
   else Sort.median lN d (a + (e - a) / 4 * 1) (a + (e - a) / 4 * 2) (a + (e - a) / 4 * 3) 0) else (a + (e - a) / 4 * 2,0) : Nat × Nat)=r at hQ
 refine aZ (fun zs M'=>zs=[N .i64 ((r.1:Nat) : Int)]∧M'=PM (SM M1 s TI r.2) b T d) ?_ ?_
 ·rintro zs M' ⟨rfl,rfl⟩
  dsimp only [aa]
  have hh:(PM (SM M1 s TI r.2) b T d).heap s=some (.row [N .i64 (r.2:Int)] false TI 0):=by
   rw [PM.Gl hsb]; exact RM.sV _ _
  have:=hQ _ (kS r.2)
  rw [az hh rfl,df]
  by_cases h0:r.2=0
  ·rw [show ((r.2:Int) == 0)=true by rw [h0]; rfl,dC]
   rw [if_pos h0] at this
   exact this
  ·rw [show ((r.2:Int) == 0)=false by rw [beq_eq_false_iff_ne]; omega,bF,df]
   rw [if_neg h0] at this
   by_cases h12:r.2=12
   ·rw [show ((r.2:Int) == 12)=true by rw [h12]; rfl,dC]
    rw [if_pos h12] at this
    exact this
   ·rw [show ((r.2:Int) == 12)=false by rw [beq_eq_false_iff_ne]; omega,bF]
    rw [if_neg h12] at this
    exact this
 intro J hJ
 rw [show (8:Int)=((8:Nat) : Int) from rfl,gQ]
 refine aF (fun h8=>?_) (fun h8=>?_)
 ·have h8:e - a ≥ 8:=of_decide_eq_true h8
  rw [if_pos h8] at hr
  refine aZ (fun zs M'=>∃ x y z k:Nat,zs=[N .i64 (x:Int),N .i64 (y:Int),N .i64 (z:Int)]∧M'=PM (SM M1 s TI k) b T d∧x<d.size∧y<d.size∧z<d.size∧k≤900∧Sort.median lN d x y z k=r) ?_ ?_
  ·rintro zs M' ⟨x,y,z,k,rfl,rfl,hx,hy,hz,hk,he⟩
   dsimp only [aa]
   refine hm hsb hx hy hz hk ?_
   rw [he]
   exact hJ _ _ ⟨rfl,rfl⟩
  intro J0 hJ0
  rw [show (50:Int)=((50:Nat) : Int) from rfl,gQ]
  refine aF (fun h50=>?_) (fun h50=>?_)
  ·have h50:e - a ≥ 50:=of_decide_eq_true h50
   rw [if_pos h50] at hr
   have m1:=Bz d (i:=a + (e - a) / 4 * 1 - 1) (j:=a + (e - a) / 4 * 1) (h:=a + (e - a) / 4 * 1 + 1) (k:=0) (n:=d.size) (by omega) (by omega) (by omega)
   have r1:(Sort.medianAdjacent lN d (a + (e - a) / 4 * 1) 0).1<d.size∧(Sort.medianAdjacent lN d (a + (e - a) / 4 * 1) 0).2≤0 + 3:=m1
   refine ha hsb hsz (by omega) (by omega) (by omega) ?_
   generalize Sort.medianAdjacent lN d (a + (e - a) / 4 * 1) 0=q1 at *
   have m2:=Bz d (i:=a + (e - a) / 4 * 2 - 1) (j:=a + (e - a) / 4 * 2) (h:=a + (e - a) / 4 * 2 + 1) (k:=q1.2) (n:=d.size) (by omega) (by omega) (by omega)
   have r2:(Sort.medianAdjacent lN d (a + (e - a) / 4 * 2) q1.2).1<d.size∧(Sort.medianAdjacent lN d (a + (e - a) / 4 * 2) q1.2).2≤q1.2 + 3:=m2
   refine ha hsb hsz (by omega) (by omega) (by omega) ?_
   generalize Sort.medianAdjacent lN d (a + (e - a) / 4 * 2) q1.2=q2 at *
   have m3:=Bz d (i:=a + (e - a) / 4 * 3 - 1) (j:=a + (e - a) / 4 * 3) (h:=a + (e - a) / 4 * 3 + 1) (k:=q2.2) (n:=d.size) (by omega) (by omega) (by omega)
   have r3:(Sort.medianAdjacent lN d (a + (e - a) / 4 * 3) q2.2).1<d.size∧(Sort.medianAdjacent lN d (a + (e - a) / 4 * 3) q2.2).2≤q2.2 + 3:=m3
   refine ha hsb hsz (by omega) (by omega) (by omega) ?_
   generalize Sort.medianAdjacent lN d (a + (e - a) / 4 * 3) q2.2=q3 at *
   exact hJ0 _ _ ⟨q1.1,q2.1,q3.1,q3.2,rfl,rfl,r1.1,r2.1,r3.1,by omega,hr⟩
  ·have h50:¬ e - a ≥ 50:=of_decide_eq_false h50
   rw [if_neg h50] at hr
   exact hJ0 _ _ ⟨_,_,_,0,rfl,rfl,by omega,by omega,by omega,by omega,hr⟩
 ·have h8:¬ e - a ≥ 8:=of_decide_eq_false h8
  rw [if_neg h8] at hr
  subst hr
  exact hJ _ _ ⟨rfl,rfl⟩
theorem vV:∀ (j:Nat) (d:Array Nat),(Sort.shiftDown lN j d).size=d.size
 | 0,d=>rfl
 | j + 1,d=>by
   rw [Sort.shiftDown]
   split
   ·rfl
   ·rw [vV j,dZ]
theorem zJ (e:Nat) : ∀ (k j:Nat) (d:Array Nat),e - j≤k→(Sort.shiftUp lN e j d).size=d.size
 | 0,j,d,h=>by rw [Sort.shiftUp,if_neg (by omega)]
 | k + 1,j,d,h=>by
   rw [Sort.shiftUp]
   split
   ·split
    ·rfl
    ·rw [zJ e k _ _ (by omega),dZ]
   ·rfl
def EQ (T:Nat) (c:aj) : Prop:=∀ {M:RM} {b a e:Nat} {d:Array Nat} {Q:ah},b<M.next→d.size≤1000000→a<e→e≤d.size→Q (Bo (Sort.partialInsertionSort lN d a e).2) (PM M b T (Sort.partialInsertionSort lN d a e).1) →
 c [vv b d.size,N .i64 (a:Int),N .i64 (e:Int)] (PM M b T d) Q
theorem AU (a b s i:Nat) (d:Array Nat) : Sort.partialIns lN a b (s + 1) i d =
  if Sort.scanSorted lN d b i=b then (d,true) else if b - a<50 then (d,false) else
   Sort.partialIns lN a b s (Sort.scanSorted lN d b i) (if b - Sort.scanSorted lN d b i ≥ 2 then Sort.shiftUp lN b (Sort.scanSorted lN d b i + 1) (if Sort.scanSorted lN d b i - a ≥ 2 then Sort.shiftDown lN (Sort.scanSorted lN d b i - 1) (Sort.swp d (Sort.scanSorted lN d b i) (Sort.scanSorted lN d b i - 1)) else Sort.swp d (Sort.scanSorted lN d b i) (Sort.scanSorted lN d b i - 1))
    else (if Sort.scanSorted lN d b i - a ≥ 2 then Sort.shiftDown lN (Sort.scanSorted lN d b i - 1) (Sort.swp d (Sort.scanSorted lN d b i) (Sort.scanSorted lN d b i - 1)) else Sort.swp d (Sort.scanSorted lN d b i) (Sort.scanSorted lN d b i - 1))):=rfl
theorem JX {T:Nat} {cl:aj} (hl:tN cl) : EQ T fun args M Q=>∃ a0 a1 a2,args=[a0,a1,a2]∧fA cl a0 a1 a2 M Q:=by
 intro M b a e d Q hb hsz hae he hQ
 refine ⟨_,_,_,rfl, ?_⟩
 unfold fA
 simp only [eD,dN,dQ,bT]
 rw [add1 (by omega)]
 unfold Sort.partialInsertionSort at hQ
 obtain ⟨R,hR⟩ : ∃ R,R=Sort.partialIns lN a e 5 (a + 1) d:=⟨_,rfl⟩
 rw [← hR] at hQ
 refine aG (fun m ys M3=>∃ (i s:Nat) (d3:Array Nat),m=s∧s≤5∧ys=[N .i64 (i:Int),N .i64 ((5 - s:Nat) : Int)]∧a + 1≤i∧i≤e∧M3=PM M b T d3∧d3.size=d.size∧R=Sort.partialIns lN a e s i d3) _ ⟨a + 1,5,d,rfl,by omega,rfl,by omega,by omega,rfl,rfl,hR⟩ ?_
 rintro next m ys M3 hnext ⟨i,s,d3,hms,hs5,rfl,hai,hie,rfl,hs3,hm⟩
 dsimp only [aa]
 rw [show (5:Int)=((5:Nat) : Int) from rfl,dS]
 refine aF (fun hg=>?_) (fun hg=>?_)
 ·have hg:5 - s<5:=of_decide_eq_true hg
  obtain ⟨s',rfl⟩ : ∃ s',s=s' + 1:=⟨s - 1,by omega⟩
  rw [AU] at hm
  refine aZ (fun zs M'=>∃ (i' : Nat) (d4:Array Nat),zs=[N .i64 (i' : Int)]∧a + 1≤i'∧i'≤e∧M'=PM M b T d4∧d4.size=d.size∧R=Sort.partialIns lN a e s' i' d4) ?_ ?_
  ·rintro zs M' ⟨i',d4,rfl,h1,h2,rfl,h3,h4⟩
   dsimp only [aa]
   rw [add1 (by omega)]
   exact hnext _ _ _ (by omega) ⟨i',s',d4,rfl,by omega,by congr 4; omega,h1,h2,rfl,h3,h4⟩
  intro J hJ
  obtain ⟨R5,hR5⟩ : ∃ R5,R5=Sort.scanSorted lN d3 e i:=⟨_,rfl⟩
  rw [← hR5] at hm
  refine aG (fun m ys M5=>∃ (j:Nat),m=e - j∧ys=[N .i64 (j:Int)]∧i≤j∧j≤e∧M5=PM M b T d3∧R5=Sort.scanSorted lN d3 e j) _ ⟨i,rfl,rfl,Nat.le_refl _,hie,rfl,hR5⟩ ?_
  rintro next2 m ys M5 hnext2 ⟨j,rfl,rfl,hij,hje,rfl,hm5⟩
  dsimp only [aa]
  rw [Sort.scanSorted] at hm5
  rw [dS]
  refine Mh (p:=!lN d3[j]! d3[j - 1]!) (fun hc k hk=>?_) ?_
  ·have hc:j<e:=of_decide_eq_true hc
   rw [PM.rd hs3.symm (by omega),bD (by omega) (by omega),PM.rd hs3.symm (by omega)]
   refine hl ?_
   rw [bB]
   exact hk
  refine aF (fun h=>?_) (fun h=>?_)
  ·have hc:j<e:=by
    rw [Bool.and_eq_true] at h
    exact of_decide_eq_true h.1
   rw [if_pos h] at hm5
   rw [add1 (by omega)]
   exact hnext2 _ _ _ (by omega) ⟨j + 1,rfl,rfl,by omega,by omega,rfl,hm5⟩
  rw [if_neg (by rw [h]; decide)] at hm5
  subst hm5
  rw [HV]
  refine aF (fun hje2=>?_) (fun hje2=>?_)
  ·rw [if_pos (of_decide_eq_true hje2)] at hm
   rw [hm] at hQ
   exact hQ
  have hje2:¬ R5=e:=of_decide_eq_false hje2
  rw [if_neg hje2] at hm
  rw [dK (by omega) (by omega),show (50:Int)=((50:Nat) : Int) from rfl,dS]
  refine aF (fun h50=>?_) (fun h50=>?_)
  ·rw [if_pos (of_decide_eq_true h50)] at hm
   rw [hm] at hQ
   exact hQ
  rw [if_neg (of_decide_eq_false h50)] at hm
  rw [bD (by omega) (by omega),bD (by omega) (by omega),PM.rd hs3.symm (by omega),PM.rd hs3.symm (by omega),PM.swap hs3.symm (by omega) (by omega)]
  have hs6:=vD (i:=R5) (j:=R5 - 1) hs3
  generalize Sort.swp d3 R5 (R5 - 1)=d6 at *
  refine aZ (fun zs M'=>zs=[]∧M'=PM M b T (if R5 - a ≥ 2 then Sort.shiftDown lN (R5 - 1) d6 else d6)) ?_ ?_
  ·rintro zs M' ⟨rfl,rfl⟩
   have hs7:(if R5 - a ≥ 2 then Sort.shiftDown lN (R5 - 1) d6 else d6).size=d.size:=by
    split
    ·rw [vV,hs6]
    ·exact hs6
   generalize (if R5 - a ≥ 2 then Sort.shiftDown lN (R5 - 1) d6 else d6)=d7 at *
   rw [dK (by omega) (by omega),show (2:Int)=((2:Nat) : Int) from rfl,gQ]
   refine aF (fun h2=>?_) (fun h2=>?_)
   ·rw [if_pos (of_decide_eq_true h2)] at hm
    rw [add1 (by omega)]
    have hs8:=zJ e e (R5 + 1) d7 (by omega)
    obtain ⟨R8,hR8⟩ : ∃ R8,R8=Sort.shiftUp lN e (R5 + 1) d7:=⟨_,rfl⟩
    rw [← hR8] at hm hs8
    refine aG (fun m ys M8=>∃ (j:Nat) (d8:Array Nat),m=e - j∧ys=[N .i64 (j:Int)]∧R5 + 1≤j∧j≤e∧M8=PM M b T d8∧d8.size=d.size∧R8=Sort.shiftUp lN e j d8) _ ⟨R5 + 1,d7,rfl,rfl,Nat.le_refl _,by omega,rfl,hs7,hR8⟩ ?_
    rintro next3 m ys M8 hnext3 ⟨j,d8,rfl,rfl,hj1,hj2,rfl,hs8',hm8⟩
    dsimp only [aa]
    rw [Sort.shiftUp] at hm8
    rw [dS]
    refine aF (fun hl1=>?_) (fun hl1=>?_)
    ·have hl1:j<e:=of_decide_eq_true hl1
     rw [if_pos hl1] at hm8
     rw [PM.rd hs8'.symm (by omega),bD (by omega) (by omega),PM.rd hs8'.symm (by omega)]
     refine hl ?_
     rw [bB]
     refine aF (fun hn=>?_) (fun hn=>?_)
     ·rw [if_pos hn] at hm8
      subst hm8
      exact hJ _ _ ⟨R5,R8,rfl,by omega,by omega,rfl,hs8',hm⟩
     ·rw [if_neg (by rw [show (!lN d8[j]! d8[j - 1]!)=false from hn]; decide)] at hm8
      rw [bD (by omega) (by omega),bD (by omega) (by omega),PM.rd hs8'.symm (by omega),PM.rd hs8'.symm (by omega),PM.swap hs8'.symm (by omega) (by omega),add1 (by omega)]
      exact hnext3 _ _ _ (by omega) ⟨j + 1,_,rfl,rfl,by omega,by omega,rfl,vD hs8',hm8⟩
    ·rw [if_neg (of_decide_eq_false hl1)] at hm8
     subst hm8
     exact hJ _ _ ⟨R5,R8,rfl,by omega,by omega,rfl,hs8',hm⟩
   ·rw [if_neg (of_decide_eq_false h2)] at hm
    exact hJ _ _ ⟨R5,d7,rfl,by omega,by omega,rfl,hs7,hm⟩
  intro J2 hJ2
  rw [dK (by omega) (by omega),show (2:Int)=((2:Nat) : Int) from rfl,gQ]
  refine aF (fun h2=>?_) (fun h2=>?_)
  ·rw [if_pos (of_decide_eq_true h2)] at hJ2
   rw [bD (by omega) (by omega)]
   obtain ⟨R8,hR8⟩ : ∃ R8,R8=Sort.shiftDown lN (R5 - 1) d6:=⟨_,rfl⟩
   rw [← hR8] at hJ2
   refine aG (fun m ys M8=>∃ (j:Nat) (d8:Array Nat),m=j + 1∧ys=[N .i64 (j:Int)]∧j<R5∧M8=PM M b T d8∧d8.size=d.size∧R8=Sort.shiftDown lN j d8) _ ⟨R5 - 1,d6,rfl,rfl,by omega,rfl,hs6,hR8⟩ ?_
   rintro next3 m ys M8 hnext3 ⟨j,d8,rfl,rfl,hj1,rfl,hs8',hm8⟩
   dsimp only [aa]
   rw [show (1:Int)=((1:Nat) : Int) from rfl,gQ]
   refine aF (fun hl1=>?_) (fun hl1=>?_)
   ·have hl1:j ≥ 1:=of_decide_eq_true hl1
    obtain ⟨j',rfl⟩ : ∃ j',j=j' + 1:=⟨j - 1,by omega⟩
    rw [Sort.shiftDown] at hm8
    rw [PM.rd hs8'.symm (by omega),dK (by omega) (by omega),Nat.add_sub_cancel,PM.rd hs8'.symm (by omega)]
    refine hl ?_
    rw [bB]
    refine aF (fun hn=>?_) (fun hn=>?_)
    ·rw [if_pos hn] at hm8
     subst hm8
     exact hJ2 _ _ ⟨rfl,rfl⟩
    ·rw [if_neg (by rw [show (!lN d8[j' + 1]! d8[j']!)=false from hn]; decide)] at hm8
     rw [dK (by omega) (by omega),dK (by omega) (by omega),Nat.add_sub_cancel,PM.rd hs8'.symm (by omega),PM.rd hs8'.symm (by omega),PM.swap hs8'.symm (by omega) (by omega),dK (by omega) (by omega),Nat.add_sub_cancel]
     exact hnext3 _ _ _ (by omega) ⟨j',_,rfl,rfl,by omega,rfl,vD hs8',hm8⟩
   ·have hl1:¬ j ≥ 1:=of_decide_eq_false hl1
    have h0:j=0:=by omega
    subst h0
    rw [Sort.shiftDown] at hm8
    subst hm8
    exact hJ2 _ _ ⟨rfl,rfl⟩
  ·rw [if_neg (of_decide_eq_false h2)] at hJ2
   exact hJ2 _ _ ⟨rfl,rfl⟩
 ·have hg:¬ 5 - s<5:=of_decide_eq_false hg
  have h0:s=0:=by omega
  subst h0
  rw [Sort.partialIns] at hm
  rw [hm] at hQ
  exact hQ
end Go.Ab.ak
set_option maxRecDepth 10000
set_option linter.unusedVariables false
set_option linter.unusedSimpArgs false
namespace Go.Ab.ak
open Go Go.Ab
def PZ (P:List Nat→Prop) (f:List Nat→List Nat) (T:Nat) (c:aj) : Prop:=∀ {M:RM} {base:Nat} {v:AV} {xs:List Nat} {Q:ah},Ow aX M base T v xs→P xs→(∀ M',Ow aX M' base T v (f xs)→ag (aH v) M M'→Q (.tup []) M')→c [v] M Q
def Fv (P:List Nat→Prop) (f:List Nat→List Nat) (T:Nat) (c:aj) : Prop:=∀ {M:RM} {base:Nat} {v:AV} {xs:List Nat} {Q:ah},Ow aX M base T v xs→P xs→(∀ v' M',Sl aX M' v' (f xs)→ku v'→(∀ d∈aH v',d∈aH v)→ag (aH v) M M'→Q v' M')→c [v] M Q
def Qt (T:Nat) (c:aj) : Prop:=∀ {M:RM} {n:Nat} {Q:ah},n≤10000000→(n=0→Q bJ M) →
 (0<n→∀ b M',M.next≤b→b<M'.next→M'.heap b=some (.row (bK [N .u64 0] n) true T 0)→ag [] M M'→Q (.slc b 0 0 (.op 1)) M')→c [bJ,N .i64 (n:Int)] M Q
theorem RJ {TS T:Nat} : Qt T fun args M Q=>∃ a0 a1,args=[a0,a1]∧uL TS T a0 a1 M Q:=by
 intro M n Q hn h0 h1
 refine ⟨_,_,rfl, ?_⟩
 unfold uL
 rw [su,dF,show decide ((n:Int)<0)=false by simp,bF]
 dsimp only
 rw [su]
 have hcap:∀ K:AV→Prop,yc bJ K=K (N .i64 0):=fun K=>by
  unfold yc
  exact propext ⟨fun ⟨m,h,k⟩=>by cases h; exact k,fun k=>⟨0,rfl,k⟩⟩
 rw [hcap,EC,fJ,show IntKind.wrap .i64 ((0:Int) - 0)=0 from by rw [aW] <;> decide,fJ,Int.sub_zero,aW (by omega) (by omega),gH]
 dsimp only [aa]
 by_cases hz:n=0
 ·rw [show decide ((n:Int) > 0)=false by simp; omega,bF]
  exact h0 hz
 ·rw [show decide ((n:Int) > 0)=true by simp; omega,dC,hcap,show dh 1 bJ none (some (N .i64 0)) none=some bJ by simp [dh,bnd],dY]
  have hr:=nK n
  refine CW (base:=M.next) (m:=n) (ds:=bK [N .u64 0] n) .nil (Nat.le_refl _) (Nat.le_refl _) (by simp [oh]) (by rw [hr.1,Nat.mul_one]) hr.2 (by omega) (by omega) ?_
  intro v' M' o k _ _
  rw [Nat.zero_add] at o
  obtain ⟨b,rfl,q1,q2,q3,q4⟩:=Own.vO o (by omega)
  rw [EC,show dh 1 (.slc b 0 n (.op 1)) none (some (N .i64 0)) none=some (.slc b 0 0 (.op 1)) by simp [dh,bnd]; omega,dY]
  exact h1 (by omega) b M' q1 q2 (by simpa using q3) (by simpa [aH] using k)
end Go.Ab.ak
set_option maxRecDepth 10000
set_option linter.unusedVariables false
set_option linter.unusedSimpArgs false
namespace Go.Ab.ak
open Go Go.Ab
theorem zI (p:Nat→Bool) (d:Array Nat) (J:Nat) : ∀ (n i:Nat),J + 1 - i≤n→i≤Sort.scanUp p d J i∧Sort.scanUp p d J i≤max (J + 1) i
 | 0,i,h=>by
   rw [Sort.scanUp,if_neg (by simp; omega)]; omega
 | n + 1,i,h=>by
   rw [Sort.scanUp]
   split
   ·rename_i hc
    rw [Bool.and_eq_true] at hc
    have:=of_decide_eq_true hc.1
    have:=zI p d J n (i + 1) (by omega)
    omega
   ·omega
theorem vY (p:Nat→Bool) (d:Array Nat) (i:Nat) : ∀ j,Sort.scanDown p d i j≤j
 | 0=>Nat.le_refl _
 | j + 1=>by
   rw [Sort.scanDown]
   split
   ·have:=vY p d i j; omega
   ·omega
theorem yI (a:Nat) : ∀ (n i j:Nat) (d:Array Nat),j + 1 - i≤n→i≤(Sort.partEqLoop lN a i j d).1∧(Sort.partEqLoop lN a i j d).1≤max (j + 1) i∧(Sort.partEqLoop lN a i j d).2.size=d.size
 | n,i,j,d,h=>by
   have h1:=zI (fun x=>!lN d[a]! x) d j _ i (Nat.le_refl _)
   have h2:=vY (fun x=>lN d[a]! x) d (Sort.scanUp (fun x=>!lN d[a]! x) d j i) j
   rw [Sort.partEqLoop]
   generalize Sort.scanUp (fun x=>!lN d[a]! x) d j i=i2 at *
   generalize Sort.scanDown (fun x=>lN d[a]! x) d i2 j=j2 at *
   split
   ·exact ⟨h1.1,h1.2,rfl⟩
   ·split
    ·cases n with
     | zero=>omega
     | succ n =>
       have h3:=yI a n (i2 + 1) (j2 - 1) (Sort.swp d i2 j2) (by omega)
       rw [dZ] at h3
       omega
    ·exact ⟨h1.1,h1.2,rfl⟩
theorem Eh (a:Nat) : ∀ (n i j:Nat) (d:Array Nat),j + 1 - i≤n→(Sort.partLoop lN a i j d).1≤j∧(Sort.partLoop lN a i j d).2.size=d.size
 | n,i,j,d,h=>by
   have h1:=zI (fun x=>lN x d[a]!) d j _ i (Nat.le_refl _)
   have h2:=vY (fun x=>!lN x d[a]!) d (Sort.scanUp (fun x=>lN x d[a]!) d j i) j
   rw [Sort.partLoop]
   generalize Sort.scanUp (fun x=>lN x d[a]!) d j i=i2 at *
   generalize Sort.scanDown (fun x=>!lN x d[a]!) d i2 j=j2 at *
   split
   ·exact ⟨h2,rfl⟩
   ·split
    ·cases n with
     | zero=>omega
     | succ n =>
       have h3:=Eh a n (i2 + 1) (j2 - 1) (Sort.swp d i2 j2) (by omega)
       rw [dZ] at h3
       exact ⟨by omega,h3.2⟩
    ·exact ⟨h2,rfl⟩
theorem Aq (a e:Nat) : ∀ (s i:Nat) (d:Array Nat),(Sort.partialIns lN a e s i d).1.size=d.size
 | 0,i,d=>rfl
 | s + 1,i,d=>by
   rw [AU]
   split
   ·rfl
   ·split
    ·rfl
    ·rw [Aq a e s]
     have h1:∀ x,(if x - a ≥ 2 then Sort.shiftDown lN (x - 1) (Sort.swp d x (x - 1)) else Sort.swp d x (x - 1)).size=d.size:=fun x=>by
      split
      ·rw [vV,dZ]
      ·rw [dZ]
     split
     ·rw [zJ e e _ _ (by omega),h1]
     ·rw [h1]
theorem Um {x:Nat} (h:256≤x) : Sort.bitsLen x=Sort.bitsLen (x / 256) + 8:=by
 have h0:x / 256≠0:=by omega
 unfold Sort.bitsLen
 rw [if_neg (by omega),if_neg h0]
 have h1:=(Nat.log2_eq_iff h0 (k:=(x / 256).log2)).1 rfl
 have h2:x.log2=(x / 256).log2 + 8:=by
  rw [Nat.log2_eq_iff (by omega)]
  rw [show (x / 256).log2 + 8 + 1=((x / 256).log2 + 1) + 8 by omega,Nat.pow_add,Nat.pow_add _ ((x / 256).log2 + 1)]
  generalize 2 ^ (x / 256).log2=u at *
  generalize 2 ^ ((x / 256).log2 + 1)=v at *
  omega
 omega
theorem SS {tab:List UInt8} {x:Nat} (h:(List.range 256).all (fun i=>tab[i]? == some (UInt8.ofNat (Sort.bitsLen i)))=true) (hx:x<256) : tab[x]?=some (UInt8.ofNat (Sort.bitsLen x)):=by
 have:=List.all_eq_true.1 h x (List.mem_range.2 hx)
 exact eq_of_beq this
theorem Wh {x:Nat} (h:x<256) : Sort.bitsLen x≤8:=by
 unfold Sort.bitsLen
 split
 ·omega
 ·rename_i h0
  have:=(Nat.log2_lt h0 (k:=8)).2 (by omega)
  omega
def Aw (c:aj) : Prop:=∀ {M:RM} {x:Nat} {Q:ah},x<65536→Q (N .i64 (Sort.bitsLen x:Nat)) M→c [N .u64 (x:Int)] M Q
theorem NJ:Aw fun args M Q=>∃ a0,args=[a0]∧om a0 M Q:=by
 intro M x Q hx hQ
 refine ⟨_,rfl, ?_⟩
 unfold om
 rw [su,fw,show decide ((x:Int) ≥ 4294967296)=false by simp; omega,bF]
 dsimp only [aa]
 rw [su,fw,show decide ((x:Int) ≥ 65536)=false by simp; omega,bF]
 dsimp only [aa]
 rw [su,fw]
 have fin:∀ (y z:Nat),y<256→z≤8→Sort.bitsLen x=z + Sort.bitsLen y→kD .u8 (N .u64 (y:Int)) fun t21=>Lv (St [0,1,2,2,3,3,3,3,4,4,4,4,4,4,4,4,5,5,5,5,5,5,5,5,5,5,5,5,5,5,5,5,6,6,6,6,6,6,6,6,6,6,6,6,6,6,6,6,6,6,6,6,6,6,6,6,6,6,6,6,6,6,6,6,7,7,7,7,7,7,7,7,7,7,7,7,7,7,7,7,7,7,7,7,7,7,7,7,7,7,7,7,7,7,7,7,7,7,7,7,7,7,7,7,7,7,7,7,7,7,7,7,7,7,7,7,7,7,7,7,7,7,7,7,7,7,7,7,8,8,8,8,8,8,8,8,8,8,8,8,8,8,8,8,8,8,8,8,8,8,8,8,8,8,8,8,8,8,8,8,8,8,8,8,8,8,8,8,8,8,8,8,8,8,8,8,8,8,8,8,8,8,8,8,8,8,8,8,8,8,8,8,8,8,8,8,8,8,8,8,8,8,8,8,8,8,8,8,8,8,8,8,8,8,8,8,8,8,8,8,8,8,8,8,8,8,8,8,8,8,8,8,8,8,8,8,8,8,8,8,8,8,8,8,8,8,8,8,8,8,8,8,8,8,8,8]) t21 fun t22 =>
   kD .i64 t22 fun t23=>af .add (N .i64 (z:Int)) t23 fun t24=>Q t24 M:=fun y z hy hz e=>by
  rw [jB,OW (by omega) (by omega),VQ]
  refine ⟨by omega, ?_⟩
  rw [Int.toNat_natCast]
  refine ⟨_,SS (by kernel_rfl) hy, ?_⟩
  have hb:=Wh hy
  have hu:(UInt8.ofNat (Sort.bitsLen y)).toNat=Sort.bitsLen y:=by rw [UInt8.toNat_ofNat']; omega
  rw [hu,jB,aW (by omega) (by omega),addN (by omega),← e]
  exact hQ
 by_cases h:x ≥ 256
 ·rw [show decide ((x:Int) ≥ 256)=true by simp; omega,dC]
  dsimp only [aa]
  rw [ze]
  refine ⟨by decide, ?_⟩
  rw [show (8:Int)=((8:Nat) : Int) from rfl,Fe _ _ _ (by decide),dm,Int.zero_add,aW (by omega) (by omega)]
  exact fin (x / 256) 8 (by omega) (by omega) (by rw [Um h]; omega)
 ·rw [show decide ((x:Int) ≥ 256)=false by simp; omega,bF]
  dsimp only [aa]
  exact fin x 0 (by omega) (by omega) (by omega)
theorem RP {c3 c6:aj} (h6:Aw c6) : Aw fun args M Q=>∃ a0,args=[a0]∧qW c3 c6 a0 M Q:=by
 intro M x Q hx hQ
 refine ⟨_,rfl, ?_⟩
 unfold qW
 rw [bF]
 exact h6 hx hQ
end Go.Ab.ak
set_option maxRecDepth 10000
set_option linter.unusedVariables false
set_option linter.unusedSimpArgs false
namespace Go.Ab.ak
open Go Go.Ab
def XM (M:RM) (s T:Nat) (r:UInt64) : RM:=M.put s (.row [N .u64 (r.toNat:Int)] false T 0)
theorem XM.put {M:RM} {s T:Nat} {r r' : UInt64} : (XM M s T r).put s (.row [N .u64 (r'.toNat:Int)] false T 0)=XM M s T r':=by
 unfold XM RM.put
 congr 1
 funext c
 simp only
 by_cases h:c=s <;> simp [h]
theorem XM.new {M:RM} {T:Nat} {x:RB} {r:UInt64} : (M.push x).put M.next (.row [N .u64 (r.toNat:Int)] false T 0)=XM (M.push x) M.next T r:=rfl
theorem Df {r k:UInt64} {n:Nat} (hk:k.toNat=n) (h:n<64) : QE .u64 (r.toNat:Int) (n:Int)=((r <<< k).toNat:Int):=by
 rw [K5 rfl _ _ (by show n≤64; omega),UInt64.toNat_shiftLeft,hk,Nat.mod_eq_of_lt h,Nat.shiftLeft_eq]; rfl
theorem Ol {r k:UInt64} {n:Nat} (hk:k.toNat=n) (h:n<64) : Mj .u64 (r.toNat:Int) (n:Int)=((r >>> k).toNat:Int):=by
 rw [Fe _ _ _ (by show n≤64; omega),UInt64.toNat_shiftRight,hk,Nat.mod_eq_of_lt h,Nat.shiftRight_eq_div_pow]
theorem u64_xor (a b:UInt64) : OQ .u64 (a.toNat:Int) (b.toNat:Int)=((a ^^^ b).toNat:Int):=by
 rw [Ty rfl,← UInt64.toNat_xor]
 have:=(a ^^^ b).toNat_lt
 rw [Nat.mod_eq_of_lt (by show _<2 ^ 64; omega)]
def Un (T TX:Nat) (c:aj) : Prop:=∀ {M:RM} {b s:Nat} {r:UInt64} {d:Array Nat} {Q:ah},s≠b→Q (N .u64 ((Sort.xorNext r).toNat:Int)) (PM (XM M s TX (Sort.xorNext r)) b T d)→c [.ptr s 0] (PM (XM M s TX r) b T d) Q
theorem Tz {T TX:Nat} : Un T TX fun args M Q=>∃ a0,args=[a0]∧kQ a0 M Q:=by
 intro M b s r d Q hsb hQ
 refine ⟨_,rfl, ?_⟩
 unfold kQ
 have hh:∀ r,(PM (XM M s TX r) b T d).heap s=some (.row [N .u64 (r.toNat:Int)] false TX 0):=fun r=>by rw [PM.Gl hsb]; exact RM.sV _ _
 have st:∀ (r r' : UInt64) (K:RM→Prop),aD (PM (XM M s TX r) b T d) (.ptr s 0) (N .u64 (r'.toNat:Int)) 1 K=K (PM (XM M s TX r') b T d):=fun r r' K=>by
  rw [eB (hh r) (by simp) rfl rfl,PM.PK hsb]
  rw [show ([N .u64 (r.toNat:Int)] : List AV).set 0 (N .u64 (r'.toNat:Int))=[N .u64 (r'.toNat:Int)] from rfl,XM.put]
 rw [aJ,az (hh r) rfl,aJ,az (hh r) rfl,yO]
 refine ⟨by decide, ?_⟩
 rw [show (13:Int)=((13:Nat) : Int) from rfl,Df (k:=13) (n:=13) rfl (by decide),sW,u64_xor,aJ,st]
 rw [aJ,az (hh _) rfl,aJ,az (hh _) rfl,ze]
 refine ⟨by decide, ?_⟩
 rw [show (7:Int)=((7:Nat) : Int) from rfl,Ol (k:=7) (n:=7) rfl (by decide),sW,u64_xor,aJ,st]
 rw [aJ,az (hh _) rfl,aJ,az (hh _) rfl,yO]
 refine ⟨by decide, ?_⟩
 rw [show (17:Int)=((17:Nat) : Int) from rfl,Df (k:=17) (n:=17) rfl (by decide),sW,u64_xor,aJ,st]
 rw [aJ,az (hh _) rfl]
 exact hQ
def LP (c:aj) : Prop:=∀ {M:RM} {x:Nat} {Q:ah},0<x→x<65536→Q (N .u64 ((2 ^ Sort.bitsLen x:Nat) : Int)) M→c [N .i64 (x:Int)] M Q
theorem sG {x:Nat} (h0:0<x) (h:x<65536) : Sort.bitsLen x≤16∧2 ^ Sort.bitsLen x≤2 * x∧x<2 ^ Sort.bitsLen x:=by
 unfold Sort.bitsLen
 rw [if_neg (by omega)]
 have h1:=(Nat.log2_eq_iff (show x≠0 by omega) (k:=x.log2)).1 rfl
 have h2:=(Nat.log2_lt (show x≠0 by omega) (k:=16)).2 (by omega)
 rw [Nat.pow_succ] at *
 omega
theorem Uu {cl:aj} (hl:Aw cl) : LP fun args M Q=>∃ a0,args=[a0]∧pQ cl a0 M Q:=by
 intro M x Q h0 hx hQ
 refine ⟨_,rfl, ?_⟩
 unfold pQ
 have hb:=sG h0 hx
 rw [jB,gV (by omega) (by omega)]
 refine hl hx ?_
 rw [yO]
 refine ⟨by omega, ?_⟩
 rw [show (1:Int)=((1:Nat) : Int) from rfl,K5 rfl _ _ (by show Sort.bitsLen x≤64; omega),Nat.one_mul]
 have:2 ^ Sort.bitsLen x<2 ^ 64:=Nat.pow_lt_pow_right (by decide) (by omega)
 rw [Nat.mod_eq_of_lt (by exact this)]
 exact hQ
def AY (a l m i0:Nat) (d:Array Nat) : Nat→UInt64 × Array Nat
 | 0=>(UInt64.ofNat l,d)
 | k + 1=>Sort.breakStep a l m (AY a l m i0 d k) (i0 + k)
theorem QR (a l m i0:Nat) (d:Array Nat) : ∀ k,(AY a l m i0 d k).2.size=d.size
 | 0=>rfl
 | k + 1=>by
   rw [AY,Sort.breakStep]
   show (Sort.swp _ _ _).size=_
   rw [dZ,QR a l m i0 d k]
def La (T:Nat) (c:aj) : Prop:=∀ {M:RM} {b a e:Nat} {d:Array Nat} {Q:ah},b<M.next→d.size≤60000→a≤e→e≤d.size→(∀ M',ag [] M M'→Q (.tup []) (PM M' b T (Sort.breakPatterns d a e))) →
 c [vv b d.size,N .i64 (a:Int),N .i64 (e:Int)] (PM M b T d) Q
theorem PT {T TX:Nat} {cp cx:aj} (hp:LP cp) (hx:Un T TX cx) : La T fun args M Q=>∃ a0 a1 a2,args=[a0,a1,a2]∧iq TX cp cx a0 a1 a2 M Q:=by
 intro M b a e d Q hb hsz hae he hQ
 refine ⟨_,_,_,rfl, ?_⟩
 unfold iq
 simp only [bT]
 rw [dK hae (by omega),show (8:Int)=((8:Nat) : Int) from rfl,gQ]
 unfold Sort.breakPatterns at hQ
 refine aF (fun h8=>?_) (fun h8=>?_)
 ·have h8:e - a ≥ 8:=of_decide_eq_true h8
  rw [if_pos h8] at hQ
  have hbl:=sG (x:=e - a) (by omega) (by omega)
  rw [jB,gV (by omega) (by omega),bi,PM.push hb]
  have hnx:(PM M b T d).next=M.next:=rfl
  rw [hnx]
  have hsb:M.next≠b:=by omega
  have kk:ag [] M (M.push (.row [(N .u64 0)] false TX 0)):=(ag.refl _ _).push _
  have kS:∀ r,ag [] M (XM (M.push (.row [(N .u64 0)] false TX 0)) M.next TX r):=fun r=>kk.new _ (Nat.le_refl _)
  have hh0:(PM (M.push (.row [(N .u64 0)] false TX 0)) b T d).heap M.next=some (.row [N .u64 0] false TX 0):=by rw [PM.Gl hsb]; exact RM.aQ _
  have hl64:(UInt64.ofNat (e - a)).toNat=e - a:=by rw [UInt64.toNat_ofNat']; omega
  rw [eB hh0 (by simp) rfl rfl,PM.PK hsb]
  rw [show ([N .u64 0] : List AV).set 0 (N .u64 ((e - a:Nat) : Int))=[N .u64 ((UInt64.ofNat (e - a)).toNat:Int)] by rw [hl64]; rfl,XM.new]
  generalize M.push (.row [(N .u64 0)] false TX 0)=M1 at *
  generalize M.next=s at *
  refine hp (by omega) (by omega) ?_
  have hq:∀ (c:Int),c=((2:Nat) : Int)→∀ (K:AV→Prop),(af .quo (N .i64 ((e - a:Nat) : Int)) (N .i64 4) fun t18=>af .mul t18 (N .i64 c) fun t19=>af .add (N .i64 (a:Int)) t19 K)=K (N .i64 ((a + (e - a) / 4 * 2:Nat) : Int)):=fun c hc K=>by
   subst hc
   rw [jo,show (4:Int)=((4:Nat) : Int) from rfl,l8,aW (by omega) (by omega),pO,← Int.natCast_mul,aW (by omega) (by omega),addN (by omega)]
   exact propext ⟨fun h=>h.2,fun h=>⟨by decide,h⟩⟩
  rw [hq 2 rfl,bD (by omega) (by omega)]
  have hst3:(Sort.breakStep a (e - a) (1 <<< Sort.bitsLen (e - a)) (Sort.breakStep a (e - a) (1 <<< Sort.bitsLen (e - a)) (Sort.breakStep a (e - a) (1 <<< Sort.bitsLen (e - a)) (UInt64.ofNat (e - a),d) (a + (e - a) / 4 * 2 - 1)) (a + (e - a) / 4 * 2 - 1 + 1)) (a + (e - a) / 4 * 2 - 1 + 2)).2=(AY a (e - a) (2 ^ Sort.bitsLen (e - a)) (a + (e - a) / 4 * 2 - 1) d 3).2:=by
   rw [Nat.shiftLeft_eq,Nat.one_mul]; rfl
  have hQ:∀ M',ag [] M M'→Q (.tup []) (PM M' b T (AY a (e - a) (2 ^ Sort.bitsLen (e - a)) (a + (e - a) / 4 * 2 - 1) d 3).2):=fun M' k=>by
   have:=hQ M' k
   rw [← hst3]; exact this
  generalize hmd:2 ^ Sort.bitsLen (e - a)=md at *
  generalize hi0:a + (e - a) / 4 * 2 - 1=i0 at *
  refine aG (fun m ys M3=>∃ (k:Nat),m=3 - k∧k≤3∧ys=[N .i64 ((i0 + k:Nat) : Int)]∧M3=PM (XM M1 s TX (AY a (e - a) md i0 d k).1) b T (AY a (e - a) md i0 d k).2) _ ⟨0,rfl,by omega,rfl,rfl⟩ ?_
  rintro next m ys M3 hnext ⟨k,rfl,hk,rfl,rfl⟩
  dsimp only [aa]
  have hsk:=QR a (e - a) md i0 d k
  have hnx' : AY a (e - a) md i0 d (k + 1)=Sort.breakStep a (e - a) md (AY a (e - a) md i0 d k) (i0 + k):=rfl
  generalize hstk:AY a (e - a) md i0 d k=st at *
  rw [hq 2 rfl,add1 (by omega),jG]
  refine aF (fun hg=>?_) (fun hg=>?_)
  ·have hg:i0 + k≤a + (e - a) / 4 * 2 + 1:=of_decide_eq_true hg
   refine aZ (fun zs M'=>M'=PM (XM M1 s TX (AY a (e - a) md i0 d (k + 1)).1) b T (AY a (e - a) md i0 d (k + 1)).2) ?_ ?_
   ·rintro zs M' rfl
    rw [add1 (by omega)]
    exact hnext _ _ _ (by omega) ⟨k + 1,rfl,by omega,rfl,rfl⟩
   intro J hJ
   refine hx hsb ?_
   rw [hnx'] at hJ
   unfold Sort.breakStep at hJ
   dsimp only at hJ
   generalize Sort.xorNext st.1=r at *
   rw [fJ,gV (by omega) (by omega),show (md:Int) - 1=((md - 1:Nat) : Int) by omega,Aj,EL rfl]
   have hlt:r.toNat &&& (md - 1)<md:=by
    rw [← hmd,Nat.and_two_pow_sub_one_eq_mod]
    exact Nat.mod_lt _ (by rw [hmd]; omega)
   rw [Nat.mod_eq_of_lt (show r.toNat &&& (md - 1)<2 ^ uX .u64 by show _<2 ^ 64; omega)]
   generalize r.toNat &&& (md - 1)=o at *
   rw [jB,aW (by omega) (by omega)]
   refine aZ (fun zs M'=>zs=[N .i64 (((if o ≥ e - a then o - (e - a) else o) : Nat) : Int)]∧M'=PM (XM M1 s TX r) b T st.2) ?_ ?_
   ·rintro zs M' ⟨rfl,rfl⟩
    dsimp only [aa]
    have ho:(if o ≥ e - a then o - (e - a) else o)<e - a:=by split <;> omega
    generalize (if o ≥ e - a then o - (e - a) else o)=o2 at *
    rw [addN (by omega),addN (by omega),PM.rd hsk.symm (by omega),PM.rd hsk.symm (by omega),PM.swap hsk.symm (by omega) (by omega)]
    exact hJ _ _ rfl
   intro J4 hJ4
   rw [gQ]
   refine aF (fun hg2=>?_) (fun hg2=>?_)
   ·have hg2:o ≥ e - a:=of_decide_eq_true hg2
    rw [dK (by omega) (by omega)]
    exact hJ4 _ _ ⟨by rw [if_pos hg2],rfl⟩
   ·exact hJ4 _ _ ⟨by rw [if_neg (of_decide_eq_false hg2)],rfl⟩
  ·have hg:¬ i0 + k≤a + (e - a) / 4 * 2 + 1:=of_decide_eq_false hg
   have h3:k=3:=by omega
   subst h3
   rw [hstk] at hQ
   exact hQ _ (kS _)
 ·rw [if_neg (of_decide_eq_false h8)] at hQ
  exact hQ M (ag.refl _ _)
end Go.Ab.ak
set_option maxRecDepth 10000
set_option linter.unusedVariables false
set_option linter.unusedSimpArgs false
namespace Go.Ab.ak
open Go Go.Ab
theorem Kt:Sort.SWO lN where
 irrefl x:=by simp [lN]
 trans x y z:=by simp [lN]; omega
 ntrans x y z:=by simp [lN]; omega
def Mo (d3:Array Nat) (a e pv limit:Nat) (wb wp:Bool) : Array Nat :=
 if a > 0 && !lN d3[a - 1]! d3[pv]! then
  match Sort.partitionEqual lN d3 a e pv with
  | (mid,d4)=>if _h:a<mid∧mid≤e then Sort.pdq lN d4 mid e limit wb wp else d4
 else
  match Sort.partition lN d3 a e pv with
  | (mid,ap,d4) =>
    if _h:a≤mid∧mid<e then
     if mid - a<e - mid then Sort.pdq lN (Sort.pdq lN d4 a mid limit true true) (mid + 1) e limit (decide (mid - a ≥ (e - a) / 8)) ap
     else Sort.pdq lN (Sort.pdq lN d4 (mid + 1) e limit true true) a mid limit (decide (e - mid ≥ (e - a) / 8)) ap
    else d4
def Vf (pi:Array Nat × Bool) (a e pv limit:Nat) (wb wp:Bool) : Array Nat:=if pi.2 then pi.1 else Mo pi.1 a e pv limit wb wp
def Tp (d2:Array Nat) (a e pv:Nat) (hint:Sort.Hint) (limit:Nat) (wb wp:Bool) : Array Nat :=
 Vf (if wb && wp && hint=.increasing then Sort.partialInsertionSort lN d2 a e else (d2,false)) a e pv limit wb wp
def TG (d1:Array Nat) (a e limit:Nat) (wb wp:Bool) : Array Nat :=
 Tp (if (Sort.choosePivot lN d1 a e).2=.decreasing then Sort.reverseRange d1 a e else d1) a e (if (Sort.choosePivot lN d1 a e).2=.decreasing then (e - 1) - ((Sort.choosePivot lN d1 a e).1 - a) else (Sort.choosePivot lN d1 a e).1)
  (if (Sort.choosePivot lN d1 a e).2=.decreasing then .increasing else (Sort.choosePivot lN d1 a e).2) limit wb wp
theorem pdq_eq (d:Array Nat) (a e limit:Nat) (wb wp:Bool) : Sort.pdq lN d a e limit wb wp =
  if e - a≤12 then Sort.insertionSort lN d a e else if limit=0 then Sort.heapSort lN d a e else TG (if !wb then Sort.breakPatterns d a e else d) a e (if !wb then limit - 1 else limit) wb wp:=by
 rw [Sort.pdq]; rfl
theorem DK (a e:Nat) : ∀ (k i:Nat) (d:Array Nat),e - i≤k→(Sort.insOuter lN a e i d).size=d.size
 | 0,i,d,h=>by rw [Sort.insOuter,if_neg (by omega)]
 | k + 1,i,d,h=>by
   rw [Sort.insOuter]
   split
   ·rw [DK a e k _ _ (by omega),El]
   ·rfl
theorem WZ (d:Array Nat) (a e:Nat) : (Sort.insertionSort lN d a e).size=d.size:=DK a e _ _ _ (Nat.le_refl _)
theorem SB (first:Nat) : ∀ (k:Nat) (d:Array Nat),(Sort.heapPop lN first k d).size=d.size
 | 0,d=>rfl
 | k + 1,d=>by rw [Sort.heapPop,SB first k,vH _ _ k _ _ (by omega),dZ]
theorem Ui (d:Array Nat) (a e:Nat) : (Sort.heapSort lN d a e).size=d.size:=by rw [Sort.heapSort,SB,Mt]
theorem Gj:∀ (k i j:Nat) (d:Array Nat),j - i≤k→(Sort.reverseLoop i j d).size=d.size
 | 0,i,j,d,h=>by rw [Sort.reverseLoop,if_neg (by omega)]
 | k + 1,i,j,d,h=>by
   rw [Sort.reverseLoop]
   split
   ·rw [Gj k _ _ _ (by omega),dZ]
   ·rfl
theorem Sc (d:Array Nat) (a e:Nat) : (Sort.reverseRange d a e).size=d.size:=Gj _ _ _ _ (Nat.le_refl _)
theorem vL (a l m:Nat) (st:UInt64 × Array Nat) (i:Nat) : (Sort.breakStep a l m st i).2.size=st.2.size:=dZ _ _ _
theorem LY (d:Array Nat) (a e:Nat) : (Sort.breakPatterns d a e).size=d.size:=by
 unfold Sort.breakPatterns
 dsimp only
 split
 ·rw [vL,vL,vL]
 ·rfl
theorem Mv (d:Array Nat) (a e pv:Nat) (h:a<e) : (Sort.partitionEqual lN d a e pv).2.size=d.size∧a<(Sort.partitionEqual lN d a e pv).1∧(Sort.partitionEqual lN d a e pv).1≤e:=by
 unfold Sort.partitionEqual
 have:=yI a _ (a + 1) (e - 1) (Sort.swp d a pv) (Nat.le_refl _)
 rw [dZ] at this
 omega
theorem NW (d:Array Nat) (a e pv:Nat) : (Sort.partition lN d a e pv).2.2.size=d.size:=by
 rw [Bu]
 split
 ·show (Sort.swp _ _ _).size=_
  rw [dZ,dZ]
 ·show (Sort.swp _ _ _).size=_
  rw [dZ,(Eh a _ _ _ _ (Nat.le_refl _)).2,dZ,dZ]
theorem vM:∀ (n:Nat) (d:Array Nat) (a e limit:Nat) (wb wp:Bool),e - a≤n→(Sort.pdq lN d a e limit wb wp).size=d.size
 | n,d,a,e,limit,wb,wp,hn=>by
   rw [pdq_eq]
   split
   ·exact WZ d a e
   split
   ·exact Ui d a e
   have h1:(if !wb then Sort.breakPatterns d a e else d).size=d.size:=by split; exact LY d a e; rfl
   rw [← h1]
   generalize (if !wb then Sort.breakPatterns d a e else d)=d1
   unfold TG
   have h2:(if (Sort.choosePivot lN d1 a e).2=.decreasing then Sort.reverseRange d1 a e else d1).size=d1.size:=by split; exact Sc d1 a e; rfl
   rw [← h2]
   generalize (if (Sort.choosePivot lN d1 a e).2=.decreasing then Sort.reverseRange d1 a e else d1)=d2
   generalize (if (Sort.choosePivot lN d1 a e).2=.decreasing then (e - 1) - ((Sort.choosePivot lN d1 a e).1 - a) else (Sort.choosePivot lN d1 a e).1)=pv
   generalize (if (Sort.choosePivot lN d1 a e).2=.decreasing then Sort.Hint.increasing else (Sort.choosePivot lN d1 a e).2)=hint
   unfold Tp
   have h3:(if wb && wp && hint=.increasing then Sort.partialInsertionSort lN d2 a e else (d2,false)).1.size=d2.size:=by
    split
    ·exact Aq a e _ _ _
    ·rfl
   rw [← h3]
   generalize (if wb && wp && hint=.increasing then Sort.partialInsertionSort lN d2 a e else (d2,false))=pi
   unfold Vf
   split
   ·rfl
   unfold Mo
   have hE:=Mv pi.1 a e pv
   have hP:=NW pi.1 a e pv
   generalize Sort.partitionEqual lN pi.1 a e pv=pe at *
   generalize Sort.partition lN pi.1 a e pv=pp at *
   obtain ⟨mid,d4⟩:=pe
   obtain ⟨mid2,ap,d5⟩:=pp
   cases n with
   | zero=>omega
   | succ n =>
     split
     ·dsimp only
      split
      ·rw [vM n _ _ _ _ _ _ (by omega)]
       exact (hE (by omega)).1
      ·exact (hE (by omega)).1
     ·dsimp only at hP ⊢
      split
      ·split
       ·rw [vM n _ _ _ _ _ _ (by omega),vM n _ _ _ _ _ _ (by omega)]; exact hP
       ·rw [vM n _ _ _ _ _ _ (by omega),vM n _ _ _ _ _ _ (by omega)]; exact hP
      ·exact hP
def O5 (T m:Nat) (c:aj) : Prop:=∀ {M:RM} {b a e limit:Nat} {d:Array Nat} {Q:ah},b<M.next→d.size≤60000→a≤e→e≤d.size→e - a<m→limit≤1000000→(∀ M',ag [] M M'→Q (.tup []) (PM M' b T (Sort.pdq lN d a e limit true true))) →
 c [vv b d.size,N .i64 (a:Int),N .i64 (e:Int),N .i64 (limit:Int)] (PM M b T d) Q
theorem Sn {T m:Nat} {ci ch cb cc cr cp cl ce ct cq:aj} (hi:uW T (Sort.insertionSort lN) (fun _ _ _=>True) ci) (hh:uW T (Sort.heapSort lN) (fun _ a e=>a<e) ch) (hb:La T cb) (hc:I1 T cc) (hr:uW T Sort.reverseRange (fun _ a e=>a<e) cr)
  (hp:EQ T cp) (hl:tN cl) (he:H8 T ce) (ht:Qc T ct) (hq:O5 T m cq) : O5 T (m + 1) fun args M Q=>∃ a0 a1 a2 a3,args=[a0,a1,a2,a3]∧fI ci ch cb cc cr cp cl ce ct cq a0 a1 a2 a3 M Q:=by
 intro M b a e limit d Q hbn hsz hae hed hm hlim hQ
 refine ⟨_,_,_,_,rfl, ?_⟩
 unfold fI
 simp only [eD,dN,dQ,bT]
 obtain ⟨R,hR⟩ : ∃ R,R=Sort.pdq lN d a e limit true true:=⟨_,rfl⟩
 rw [← hR] at hQ
 refine aG (fun m' ys M3=>∃ (a e limit:Nat) (wb wp:Bool) (d3:Array Nat) (M4:RM),m'=e - a∧ys=[N .i64 (a:Int),N .i64 (e:Int),N .i64 (limit:Int),Bo wb,Bo wp]∧a≤e∧e≤d.size∧e - a<m + 1∧limit≤1000000∧M3=PM M4 b T d3∧ag [] M M4∧d3.size=d.size∧R=Sort.pdq lN d3 a e limit wb wp) _
  ⟨a,e,limit,true,true,d,M,rfl,rfl,hae,hed,hm,hlim,rfl,ag.refl _ _,rfl,hR⟩ ?_
 clear hR hae hed hm hlim
 rintro next m' ys M3 hnext ⟨a,e,limit,wb,wp,d3,M4,rfl,rfl,hae,hed,hm,hlim,rfl,k4,hs3,hR⟩
 dsimp only [aa]
 have hb4:b<M4.next:=Nat.lt_of_lt_of_le hbn k4.next
 rw [pdq_eq] at hR
 rw [dK hae (by omega),show (12:Int)=((12:Nat) : Int) from rfl,jG]
 refine aF (fun hg=>?_) (fun hg=>?_)
 ·rw [if_pos (of_decide_eq_true hg)] at hR
  rw [← hs3]
  refine hi hb4 (by omega) hae (by omega) trivial ?_
  rw [← hR]
  exact hQ M4 k4
 have hg:¬ e - a≤12:=of_decide_eq_false hg
 rw [if_neg hg] at hR
 rw [show (0:Int)=((0:Nat) : Int) from rfl,HV]
 refine aF (fun hg0=>?_) (fun hg0=>?_)
 ·rw [if_pos (of_decide_eq_true hg0)] at hR
  rw [← hs3]
  refine hh hb4 (by omega) hae (by omega) (by omega) ?_
  rw [← hR]
  exact hQ M4 k4
 have hg0:¬ limit=0:=of_decide_eq_false hg0
 rw [if_neg hg0] at hR
 refine aZ (fun zs M'=>∃ (M5:RM),zs=[N .i64 (((if !wb then limit - 1 else limit) : Nat) : Int)]∧M'=PM M5 b T (if !wb then Sort.breakPatterns d3 a e else d3)∧ag [] M M5) ?_ ?_
 ·rintro zs M' ⟨M5,rfl,rfl,k5⟩
  dsimp only [aa]
  have hs5:(if !wb then Sort.breakPatterns d3 a e else d3).size=d.size:=by
   split
   ·rw [LY,hs3]
   ·exact hs3
  have hl5:(if !wb then limit - 1 else limit)≤1000000:=by split <;> omega
  generalize (if !wb then Sort.breakPatterns d3 a e else d3)=d5 at *
  generalize (if !wb then limit - 1 else limit)=lim at *
  have hb5:b<M5.next:=Nat.lt_of_lt_of_le hbn k5.next
  rw [← hs5]
  refine hc hb5 (by omega) (by omega) (by omega) fun M6 k6=>?_
  rw [hs5]
  have hcr:=Sort.choosePivot_holds lN d5 a e (by omega)
  unfold TG at hR
  generalize Sort.choosePivot lN d5 a e=cpv at *
  have k6':=k5.trans k6
  have hb6:b<M6.next:=Nat.lt_of_lt_of_le hbn k6'.next
  rw [ic,il]
  refine aZ (fun zs M'=>zs=[N .i64 (((if cpv.2=.decreasing then (e - 1) - (cpv.1 - a) else cpv.1) : Nat) : Int),N .i64 (kg (if cpv.2=.decreasing then .increasing else cpv.2))]∧M'=PM M6 b T (if cpv.2=.decreasing then Sort.reverseRange d5 a e else d5)) ?_ ?_
  ·rintro zs M' ⟨rfl,rfl⟩
   dsimp only [aa]
   have hs7:(if cpv.2=.decreasing then Sort.reverseRange d5 a e else d5).size=d.size:=by
    split
    ·rw [Sc,hs5]
    ·exact hs5
   have hpv:a≤(if cpv.2=.decreasing then (e - 1) - (cpv.1 - a) else cpv.1)∧(if cpv.2=.decreasing then (e - 1) - (cpv.1 - a) else cpv.1)<e:=by
    split <;> omega
   generalize (if cpv.2=.decreasing then Sort.reverseRange d5 a e else d5)=d7 at *
   generalize (if cpv.2=.decreasing then (e - 1) - (cpv.1 - a) else cpv.1)=pv at *
   generalize (if cpv.2=.decreasing then Sort.Hint.increasing else cpv.2)=hint at *
   unfold Tp Vf at hR
   -- behind the short insertion sort
   have rest:∀ d8:Array Nat,d8.size=d.size→R=Mo d8 a e pv lim wb wp→∀ (J:ah),True→af .gtr (N .i64 (a:Int)) (N .i64 ((0:Nat) : Int)) fun t74 =>
     ae t74 true (fun k'=>af .sub (N .i64 (a:Int)) (N .i64 1) fun t78=>au (vv b d.size) t78 1 fun t79=>ax (PM M6 b T d8) t79 fun t80=>au (vv b d.size) (N .i64 (pv:Int)) 1 fun t83=>ax (PM M6 b T d8) t83 fun t84=>cl [t80,t84] (PM M6 b T d8) fun t85 M_52=>dD t85 fun t86=>k' t86 M_52 none) (fun k=>k .undef (PM M6 b T d8) none) fun t86_56 M_57 b_58 =>
     aM t74 t86_56 (Bo false) fun t87=>ay t87 (
      ce [vv b d.size,N .i64 (a:Int),N .i64 (e:Int),N .i64 (pv:Int)] M_57 fun t92 M_59=>next [t92,N .i64 (e:Int),N .i64 (lim:Int),Bo wb,Bo wp] M_59) (
      ct [vv b d.size,N .i64 (a:Int),N .i64 (e:Int),N .i64 (pv:Int)] M_57 fun t99 M_60=>dJ t99 0 fun t100=>dJ t99 1 fun t101=>af .sub t100 (N .i64 (a:Int)) fun t105=>af .sub (N .i64 (e:Int)) t100 fun t108 =>
      af .quo (N .i64 ((e - a:Nat) : Int)) (N .i64 8) fun t110=>af .lss t105 t108 fun t113=>ay t113 (af .geq t105 t110 fun t116=>cq [vv b d.size,N .i64 (a:Int),t100,N .i64 (lim:Int)] M_60 fun t121 M_61=>af .add t100 (N .i64 1) fun t123=>next [t123,N .i64 (e:Int),N .i64 (lim:Int),t116,t101] M_61) (
      af .geq t108 t110 fun t126=>af .add t100 (N .i64 1) fun t129=>cq [vv b d.size,t129,N .i64 (e:Int),N .i64 (lim:Int)] M_60 fun t132 M_62=>next [N .i64 (a:Int),t100,N .i64 (lim:Int),t126,t101] M_62)):=fun d8 hs8 hR8 _ _=>by
    unfold Mo at hR8
    rw [nz]
    refine Mh (p:=!lN d8[a - 1]! d8[pv]!) (fun hc k hk=>?_) ?_
    ·have hc:a > 0:=of_decide_eq_true hc
     rw [bD (by omega) (by omega),PM.rd hs8.symm (by omega),PM.rd hs8.symm (by omega)]
     refine hl ?_
     rw [bB]
     exact hk
    refine aF (fun h=>?_) (fun h=>?_)
    ·rw [if_pos h] at hR8
     rw [← hs8]
     refine he hb6 (by omega) hpv.1 hpv.2 (by omega) ?_
     have hE:=Mv d8 a e pv (by omega)
     generalize Sort.partitionEqual lN d8 a e pv=pe at *
     dsimp only at hR8
     rw [dif_pos ⟨hE.2.1,hE.2.2⟩] at hR8
     exact hnext _ _ _ (by omega) ⟨pe.1,e,lim,wb,wp,pe.2,M6,rfl,rfl,hE.2.2,hed,by omega,hl5,rfl,k6',by rw [hE.1,hs8],hR8⟩
    ·rw [if_neg (by rw [h]; decide)] at hR8
     rw [← hs8]
     refine ht hb6 (by omega) hpv.1 hpv.2 (by omega) ?_
     have hT:=Sort.partition_holds lN Kt d8 a e pv hpv.1 hpv.2 (by omega)
     have hTs:=NW d8 a e pv
     generalize Sort.partition lN d8 a e pv=pp at *
     obtain ⟨mid,ap,d9⟩:=pp
     dsimp only at hR8 hT hTs ⊢
     rw [dif_pos ⟨hT.1,hT.2.1⟩] at hR8
     have hT1:=hT.1
     have hT2:=hT.2.1
     rw [ic,il,dK hT1 (by omega),dK (by omega) (by omega),jo]
     refine ⟨by decide, ?_⟩
     rw [show (8:Int)=((8:Nat) : Int) from rfl,l8,aW (by omega) (by omega),dS]
     refine aF (fun hc1=>?_) (fun hc1=>?_)
     ·have hc1:mid - a<e - mid:=of_decide_eq_true hc1
      rw [if_pos hc1] at hR8
      rw [gQ,← hTs]
      refine hq hb6 (by omega) hT1 (by omega) (by omega) hl5 fun M7 k7=>?_
      rw [add1 (by omega)]
      exact hnext _ _ _ (by omega) ⟨mid + 1,e,lim,_,ap,_,M7,rfl,rfl,by omega,hed,by omega,hl5,rfl,k6'.trans k7,by rw [vM _ _ _ _ _ _ _ (Nat.le_refl _),hTs,hs8],hR8⟩
     ·have hc1:¬ mid - a<e - mid:=of_decide_eq_false hc1
      rw [if_neg hc1] at hR8
      rw [gQ,add1 (by omega),← hTs]
      refine hq hb6 (by omega) (by omega) (by omega) (by omega) hl5 fun M7 k7=>?_
      exact hnext _ _ _ (by omega) ⟨a,mid,lim,_,ap,_,M7,rfl,rfl,hT1,by omega,by omega,hl5,rfl,k6'.trans k7,by rw [vM _ _ _ _ _ _ _ (Nat.le_refl _),hTs,hs8],hR8⟩
   refine aZ (fun zs M'=>∃ d8:Array Nat,M'=PM M6 b T d8∧d8.size=d.size∧R=Mo d8 a e pv lim wb wp) ?_ ?_
   ·rintro zs M' ⟨d8,rfl,hs8,hR8⟩
    exact rest d8 hs8 hR8 (fun _ _=>True) trivial
   intro J10 hJ10
   have no:¬ (wb && wp && decide (hint=.increasing))=true→J10 [] (PM M6 b T d7):=fun hn=>by
    have hpi:(if (wb && wp && decide (hint=.increasing))=true then Sort.partialInsertionSort lN d7 a e else (d7,false))=(d7,false):=if_neg hn
    rw [hpi] at hR
    exact hJ10 _ _ ⟨d7,rfl,hs7,hR⟩
   cases wb with
   | false =>
     rw [bL]
     dsimp only
     rw [dz,bL]
     dsimp only
     rw [bL]
     dsimp only
     rw [dz,bF]
     exact no (by simp)
   | true =>
     rw [cz]
     dsimp only
     rw [dO]
     cases wp with
     | false =>
       rw [bL]
       dsimp only
       rw [bL]
       dsimp only
       rw [dz,bF]
       exact no (by simp)
     | true =>
       rw [cz]
       dsimp only
       rw [cz]
       dsimp only
       rw [df,dO]
       by_cases hin:hint=.increasing
       ·rw [show (kg hint == 1)=true by rw [hin]; rfl,dC]
        have hpi:(if (true && true && decide (hint=.increasing))=true then Sort.partialInsertionSort lN d7 a e else (d7,false))=Sort.partialInsertionSort lN d7 a e:=if_pos (by simp [hin])
        rw [hpi] at hR
        rw [← hs7]
        refine hp hb6 (by omega) (by omega) (by omega) ?_
        have hs8:(Sort.partialInsertionSort lN d7 a e).1.size=d.size:=by
         rw [Sort.partialInsertionSort,Aq,hs7]
        generalize Sort.partialInsertionSort lN d7 a e=pi at *
        refine aF (fun h=>?_) (fun h=>?_)
        ·rw [if_pos h] at hR
         rw [← hR]
         exact hQ M6 k6'
        ·rw [if_neg (by rw [h]; decide)] at hR
         exact hJ10 _ _ ⟨pi.1,rfl,hs8,hR⟩
       ·rw [show (kg hint == 1)=false by cases hint <;> first | rfl | exact absurd rfl hin,bF]
        exact no (by simp [hin])
  intro J6 hJ6
  rw [df]
  by_cases hdec:cpv.2=.decreasing
  ·rw [show (kg cpv.2 == 2)=true by rw [hdec]; rfl,dC,← hs5]
   refine hr hb6 (by omega) hae (by omega) (by omega) ?_
   rw [bD (by omega) (by omega),dK (by omega) (by omega),dK (by omega) (by omega)]
   exact hJ6 _ _ ⟨by rw [if_pos hdec,if_pos hdec]; rfl,by rw [if_pos hdec]⟩
  ·rw [show (kg cpv.2 == 2)=false by cases h:cpv.2 <;> first | rfl | exact absurd h hdec,bF]
   exact hJ6 _ _ ⟨by rw [if_neg hdec,if_neg hdec],by rw [if_neg hdec]⟩
 intro J hJ
 rw [bB]
 cases wb with
 | true =>
   rw [Bool.not_true,bF]
   exact hJ _ _ ⟨M4,rfl,rfl,k4⟩
 | false =>
   rw [Bool.not_false,dC,← hs3]
   refine hb hb4 (by omega) hae (by omega) fun M5 k5=>?_
   rw [bD (by omega) (by omega)]
   exact hJ _ _ ⟨M5,rfl,rfl,k4.trans k5⟩
end Go.Ab.ak
set_option maxRecDepth 10000
set_option linter.unusedVariables false
set_option linter.unusedSimpArgs false
namespace Go.Ab.Crw
open Go Go.Ab Go.Ab.ak
section
variable {α:Type} [Inhabited α] {E:Enc α} {M M' : RM} {T b z n i j:Nat} {d:Array α}
structure At (E:Enc α) (T b:Nat) (d:Array α) (M:RM) : Prop where
 heap:M.heap b=some (.row (E.row d.toList) true T 0)
 lt:b<M.next
abbrev sv (b n z:Nat) : AV:=.slc b 0 n (.op z)
theorem At.keep {α:Type} {E:Enc α} {d:Array α} (h:At E T b d M) (k:ag [] M M') : At E T b d M':=⟨k.aK h.heap h.lt (by simp),Nat.lt_of_lt_of_le h.lt k.next⟩
theorem Cj (hi:i<d.size) : d[i]! = d[i]:=getElem!_pos d i hi
theorem At.idx {kd:IntKind} {K:AV→Prop} (hi:i<n) : au (sv b n z) (N kd (i:Int)) z K=K (.ptr b (i * z)):=by
 rw [mW]
 simp only [Int.toNat_natCast]
 rw [Nat.zero_add]
 exact propext ⟨fun h=>h.2.2,fun h=>⟨by omega,by omega,h⟩⟩
theorem At.ld (h:At E T b d M) (hz:E.size=z) (hi:i<d.size) {K:AV→Prop} : aB M (.ptr b (i * z)) z K=K (.agg (E.cells d[i]!)):=by
 subst hz
 have hl:M.loads b (i * E.size) E.size=some (E.cells d[i]!):=by
  have hlen:(E.row d.toList).length=d.size * E.size:=by rw [Enc.eG,Array.length_toList]
  have hsum:i * E.size + E.size≤d.size * E.size:=by rw [← Nat.succ_mul]; exact Nat.mul_le_mul_right _ hi
  rw [RM.dG h.heap (by omega),E.NS (by rw [Array.length_toList]; exact hi),Cj hi]
  simp
 rw [gK,hl]
 simp
theorem At.rd (h:At E T b d M) (hz:E.size=z) (hn:n=d.size) (hi:i<d.size) {kd:IntKind} {K:AV→Prop} : (au (sv b n z) (N kd (i:Int)) z fun p=>aB M p z K)=K (.agg (E.cells d[i]!)):=by
 rw [At.idx (by omega),h.ld hz hi]
theorem VF {α:Type} {E:Enc α} {l:List α} {i:Nat} {x:α} (hi:i<l.length) : (E.row l).take (i * E.size)++E.cells x++(E.row l).drop (i * E.size + E.size)=E.row (l.set i x):=by
 rw [List.set_eq_take_append_cons_drop,if_pos hi,E.qP,E.j4,E.sj,← Nat.succ_mul,E.sO,List.append_assoc]
theorem At.st {α:Type} {E:Enc α} {d:Array α} (h:At E T b d M) (hz:E.size=z) (hi:i<d.size) {x:α} {K:RM→Prop} (hK:∀ M',At E T b (d.setIfInBounds i x) M'→ag [b] M M'→M'.next=M.next→K M') : aD M (.ptr b (i * z)) (.agg (E.cells x)) z K:=by
 subst hz
 have hlen:(E.row d.toList).length=d.size * E.size:=by rw [Enc.eG,Array.length_toList]
 have hsum:i * E.size + E.size≤d.size * E.size:=by rw [← Nat.succ_mul]; exact Nat.mul_le_mul_right _ hi
 rw [vg]
 refine ⟨E.len x,_,RM.Ah h.heap (by show i * E.size + (E.cells x).length≤_; rw [E.len]; omega) (Nat.zero_le _) (E.one x), ?_⟩
 refine hK _ ⟨?_,h.lt⟩ ((ag.refl _ _).put _ (.inr (by simp))) rfl
 rw [aP]
 have hi' : i<d.toList.length:=by rw [Array.length_toList]; exact hi
 have:=VF (E:=E) (x:=x) hi'
 rw [Array.toList_setIfInBounds,← this]
 show some (RB.row ((E.row d.toList).take (i * E.size)++E.cells x++(E.row d.toList).drop (i * E.size + (E.cells x).length)) true T 0)=_
 rw [E.len]
theorem bS (d:Array α) (i j:Nat) : (Sort.swp d i j).size=d.size:=by simp [Sort.swp]
theorem At.swap (h:At E T b d M) (hz:E.size=z) (hn:n=d.size) (hi:i<d.size) (hj:j<d.size) {k1 k2:IntKind} {K:RM→Prop} (hK:∀ M',At E T b (Sort.swp d i j) M'→ag [b] M M'→K M') :
  au (sv b n z) (N k1 (i:Int)) z fun p=>aD M p (.agg (E.cells d[j]!)) z fun M1=>au (sv b n z) (N k2 (j:Int)) z fun q=>aD M1 q (.agg (E.cells d[i]!)) z K:=by
 rw [At.idx (by omega)]
 refine h.st hz hi fun M1 h1 k1 _=>?_
 rw [At.idx (by omega)]
 refine h1.st hz (by simpa using hj) fun M2 h2 k2 _=>?_
 exact hK M2 h2 (k1.trans k2)
def lM (E:Enc α) (lt:α→α→Bool) (c:List AV→RM→ah→Prop) : Prop:=∀ {M:RM} {x y:α} {Q:ah},(∀ (n:Int) M',decide (n<0)=lt x y→ag [] M M'→Q (N .i64 n) M')→c [.agg (E.cells x),.agg (E.cells y)] M Q
theorem lM.use {α:Type} {E:Enc α} {lt:α→α→Bool} {c:List AV→RM→ah→Prop} (h:lM E lt c) {M:RM} {x y:α} {K:AV→RM→Prop} (hK:∀ M',ag [] M M'→K (Bo (lt x y)) M') :
  c [.agg (E.cells x),.agg (E.cells y)] M fun t M'=>af .lss t (N .i64 0) fun u=>K u M':=by
 refine h fun n M' hn k=>?_
 rw [dF,hn]
 exact hK M' k
def SortG (E:Enc α) (T z:Nat) (fv:AV) (f:Array α→Nat→Nat→Array α) (P:Array α→Nat→Nat→Prop) (c:aj) : Prop:=∀ {M:RM} {b a e:Nat} {d:Array α} {Q:ah},At E T b d M→d.size≤60000→a≤e→e≤d.size→P d a e→(∀ M',At E T b (f d a e) M'→ag [b] M M'→Q (.tup []) M') →
 c [sv b d.size z,N .i64 (a:Int),N .i64 (e:Int),fv] M Q
end
section
variable {α:Type} [Inhabited α] (lt:α→α→Bool)
theorem FW (a:Nat) : ∀ (j:Nat) (d:Array α),(Sort.insInner lt a j d).size=d.size
 | 0,d=>rfl
 | j + 1,d=>by
   rw [Sort.insInner]
   split
   ·rw [FW a j,bS]
   ·rfl
theorem Gt (a e:Nat) : ∀ (k i:Nat) (d:Array α),e - i≤k→(Sort.insOuter lt a e i d).size=d.size
 | 0,i,d,h=>by rw [Sort.insOuter,if_neg (by omega)]
 | k + 1,i,d,h=>by
   rw [Sort.insOuter]
   split
   ·rw [Gt a e k _ _ (by omega),FW]
   ·rfl
theorem Yb (d:Array α) (a e:Nat) : (Sort.insertionSort lt d a e).size=d.size:=Gt lt a e _ _ _ (Nat.le_refl _)
theorem uk (hi first:Nat) : ∀ (k lo:Nat) (d:Array α),hi - lo≤k→(Sort.siftDown lt hi first lo d).size=d.size
 | 0,lo,d,h=>by rw [Sort.siftDown,dif_pos (by omega)]
 | k + 1,lo,d,h=>by
   rw [Sort.siftDown]
   split
   ·rfl
   ·split
    ·split
     ·rfl
     ·split
      ·rw [uk hi first k _ _ (by omega),bS]
      ·rfl
    ·split
     ·rfl
     ·rw [uk hi first k _ _ (by omega),bS]
theorem OA (hi first:Nat) : ∀ (k:Nat) (d:Array α),(Sort.heapBuild lt hi first k d).size=d.size
 | 0,d=>rfl
 | k + 1,d=>by rw [Sort.heapBuild,OA hi first k,uk lt hi first hi _ _ (by omega)]
theorem Vs (first:Nat) : ∀ (k:Nat) (d:Array α),(Sort.heapPop lt first k d).size=d.size
 | 0,d=>rfl
 | k + 1,d=>by rw [Sort.heapPop,Vs first k,uk lt _ _ k _ _ (by omega),bS]
theorem Xq (d:Array α) (a e:Nat) : (Sort.heapSort lt d a e).size=d.size:=by rw [Sort.heapSort,Vs,OA]
theorem JL:∀ (k i j:Nat) (d:Array α),j - i≤k→(Sort.reverseLoop i j d).size=d.size
 | 0,i,j,d,h=>by rw [Sort.reverseLoop,if_neg (by omega)]
 | k + 1,i,j,d,h=>by
   rw [Sort.reverseLoop]
   split
   ·rw [JL k _ _ _ (by omega),bS]
   ·rfl
theorem Qy (d:Array α) (a e:Nat) : (Sort.reverseRange d a e).size=d.size:=JL _ _ _ _ (Nat.le_refl _)
theorem tO (a l m:Nat) (st:UInt64 × Array α) (i:Nat) : (Sort.breakStep a l m st i).2.size=st.2.size:=bS _ _ _
theorem Jd (d:Array α) (a e:Nat) : (Sort.breakPatterns d a e).size=d.size:=by
 unfold Sort.breakPatterns
 dsimp only
 split
 ·rw [tO,tO,tO]
 ·rfl
theorem tL:∀ (j:Nat) (d:Array α),(Sort.shiftDown lt j d).size=d.size
 | 0,d=>rfl
 | j + 1,d=>by
   rw [Sort.shiftDown]
   split
   ·rfl
   ·rw [tL j,bS]
theorem JD (e:Nat) : ∀ (k j:Nat) (d:Array α),e - j≤k→(Sort.shiftUp lt e j d).size=d.size
 | 0,j,d,h=>by rw [Sort.shiftUp,if_neg (by omega)]
 | k + 1,j,d,h=>by
   rw [Sort.shiftUp]
   split
   ·split
    ·rfl
    ·rw [JD e k _ _ (by omega),bS]
   ·rfl
theorem qV (a b s i:Nat) (d:Array α) : Sort.partialIns lt a b (s + 1) i d =
  if Sort.scanSorted lt d b i=b then (d,true) else if b - a<50 then (d,false) else
   Sort.partialIns lt a b s (Sort.scanSorted lt d b i) (if b - Sort.scanSorted lt d b i ≥ 2 then Sort.shiftUp lt b (Sort.scanSorted lt d b i + 1) (if Sort.scanSorted lt d b i - a ≥ 2 then Sort.shiftDown lt (Sort.scanSorted lt d b i - 1) (Sort.swp d (Sort.scanSorted lt d b i) (Sort.scanSorted lt d b i - 1)) else Sort.swp d (Sort.scanSorted lt d b i) (Sort.scanSorted lt d b i - 1))
    else (if Sort.scanSorted lt d b i - a ≥ 2 then Sort.shiftDown lt (Sort.scanSorted lt d b i - 1) (Sort.swp d (Sort.scanSorted lt d b i) (Sort.scanSorted lt d b i - 1)) else Sort.swp d (Sort.scanSorted lt d b i) (Sort.scanSorted lt d b i - 1))):=rfl
theorem xD (a e:Nat) : ∀ (s i:Nat) (d:Array α),(Sort.partialIns lt a e s i d).1.size=d.size
 | 0,i,d=>rfl
 | s + 1,i,d=>by
   rw [qV]
   split
   ·rfl
   ·split
    ·rfl
    ·rw [xD a e s]
     have h1:∀ x,(if x - a ≥ 2 then Sort.shiftDown lt (x - 1) (Sort.swp d x (x - 1)) else Sort.swp d x (x - 1)).size=d.size:=fun x=>by
      split
      ·rw [tL,bS]
      ·rw [bS]
     split
     ·rw [JD lt e e _ _ (by omega),h1]
     ·rw [h1]
theorem Et (p:α→Bool) (d:Array α) (J:Nat) : ∀ (n i:Nat),J + 1 - i≤n→i≤Sort.scanUp p d J i∧Sort.scanUp p d J i≤max (J + 1) i
 | 0,i,h=>by
   rw [Sort.scanUp,if_neg (by simp; omega)]; omega
 | n + 1,i,h=>by
   rw [Sort.scanUp]
   split
   ·rename_i hc
    rw [Bool.and_eq_true] at hc
    have:=of_decide_eq_true hc.1
    have:=Et p d J n (i + 1) (by omega)
    omega
   ·omega
theorem zA (p:α→Bool) (d:Array α) (i:Nat) : ∀ j,Sort.scanDown p d i j≤j
 | 0=>Nat.le_refl _
 | j + 1=>by
   rw [Sort.scanDown]
   split
   ·have:=zA p d i j; omega
   ·omega
theorem Cz (a:Nat) : ∀ (n i j:Nat) (d:Array α),j + 1 - i≤n→i≤(Sort.partEqLoop lt a i j d).1∧(Sort.partEqLoop lt a i j d).1≤max (j + 1) i∧(Sort.partEqLoop lt a i j d).2.size=d.size
 | n,i,j,d,h=>by
   have h1:=Et (fun x=>!lt d[a]! x) d j _ i (Nat.le_refl _)
   have h2:=zA (fun x=>lt d[a]! x) d (Sort.scanUp (fun x=>!lt d[a]! x) d j i) j
   rw [Sort.partEqLoop]
   generalize Sort.scanUp (fun x=>!lt d[a]! x) d j i=i2 at *
   generalize Sort.scanDown (fun x=>lt d[a]! x) d i2 j=j2 at *
   split
   ·exact ⟨h1.1,h1.2,rfl⟩
   ·split
    ·cases n with
     | zero=>omega
     | succ n =>
       have h3:=Cz a n (i2 + 1) (j2 - 1) (Sort.swp d i2 j2) (by omega)
       rw [bS] at h3
       omega
    ·exact ⟨h1.1,h1.2,rfl⟩
theorem Fz (a:Nat) : ∀ (n i j:Nat) (d:Array α),j + 1 - i≤n→(Sort.partLoop lt a i j d).1≤j∧(Sort.partLoop lt a i j d).2.size=d.size
 | n,i,j,d,h=>by
   have h1:=Et (fun x=>lt x d[a]!) d j _ i (Nat.le_refl _)
   have h2:=zA (fun x=>!lt x d[a]!) d (Sort.scanUp (fun x=>lt x d[a]!) d j i) j
   rw [Sort.partLoop]
   generalize Sort.scanUp (fun x=>lt x d[a]!) d j i=i2 at *
   generalize Sort.scanDown (fun x=>!lt x d[a]!) d i2 j=j2 at *
   split
   ·exact ⟨h2,rfl⟩
   ·split
    ·cases n with
     | zero=>omega
     | succ n =>
       have h3:=Fz a n (i2 + 1) (j2 - 1) (Sort.swp d i2 j2) (by omega)
       rw [bS] at h3
       exact ⟨by omega,h3.2⟩
    ·exact ⟨h2,rfl⟩
theorem Il (d:Array α) (a e pv:Nat) (h:a<e) : (Sort.partitionEqual lt d a e pv).2.size=d.size∧a<(Sort.partitionEqual lt d a e pv).1∧(Sort.partitionEqual lt d a e pv).1≤e:=by
 unfold Sort.partitionEqual
 have:=Cz lt a _ (a + 1) (e - 1) (Sort.swp d a pv) (Nat.le_refl _)
 rw [bS] at this
 omega
def pI (d2:Array α) (a e:Nat) : Nat:=Sort.scanUp (fun x=>lt x d2[a]!) d2 (e - 1) (a + 1)
def pJ (d2:Array α) (a e:Nat) : Nat:=Sort.scanDown (fun x=>!lt x d2[a]!) d2 (pI lt d2 a e) (e - 1)
def pL (d2:Array α) (a e:Nat) : Nat × Array α:=Sort.partLoop lt a (pI lt d2 a e + 1) (pJ lt d2 a e - 1) (Sort.swp d2 (pI lt d2 a e) (pJ lt d2 a e))
theorem sM (d:Array α) (a e pv:Nat) : Sort.partition lt d a e pv =
  if pI lt (Sort.swp d a pv) a e > pJ lt (Sort.swp d a pv) a e then (pJ lt (Sort.swp d a pv) a e,true,Sort.swp (Sort.swp d a pv) (pJ lt (Sort.swp d a pv) a e) a)
  else ((pL lt (Sort.swp d a pv) a e).1,false,Sort.swp (pL lt (Sort.swp d a pv) a e).2 (pL lt (Sort.swp d a pv) a e).1 a):=rfl
theorem KY (d:Array α) (a e pv:Nat) : (Sort.partition lt d a e pv).2.2.size=d.size:=by
 rw [sM]
 split
 ·show (Sort.swp _ _ _).size=_
  rw [bS,bS]
 ·show (Sort.swp _ _ _).size=_
  rw [bS,pL,(Fz lt a _ _ _ _ (Nat.le_refl _)).2,bS,bS]
def gC (d3:Array α) (a e pv limit:Nat) (wb wp:Bool) : Array α :=
 if a > 0 && !lt d3[a - 1]! d3[pv]! then
  match Sort.partitionEqual lt d3 a e pv with
  | (mid,d4)=>if _h:a<mid∧mid≤e then Sort.pdq lt d4 mid e limit wb wp else d4
 else
  match Sort.partition lt d3 a e pv with
  | (mid,ap,d4) =>
    if _h:a≤mid∧mid<e then
     if mid - a<e - mid then Sort.pdq lt (Sort.pdq lt d4 a mid limit true true) (mid + 1) e limit (decide (mid - a ≥ (e - a) / 8)) ap
     else Sort.pdq lt (Sort.pdq lt d4 (mid + 1) e limit true true) a mid limit (decide (e - mid ≥ (e - a) / 8)) ap
    else d4
def gP (pi:Array α × Bool) (a e pv limit:Nat) (wb wp:Bool) : Array α:=if pi.2 then pi.1 else gC lt pi.1 a e pv limit wb wp
def gB (d2:Array α) (a e pv:Nat) (hint:Sort.Hint) (limit:Nat) (wb wp:Bool) : Array α :=
 gP lt (if wb && wp && hint=.increasing then Sort.partialInsertionSort lt d2 a e else (d2,false)) a e pv limit wb wp
def gA (d1:Array α) (a e limit:Nat) (wb wp:Bool) : Array α :=
 gB lt (if (Sort.choosePivot lt d1 a e).2=.decreasing then Sort.reverseRange d1 a e else d1) a e (if (Sort.choosePivot lt d1 a e).2=.decreasing then (e - 1) - ((Sort.choosePivot lt d1 a e).1 - a) else (Sort.choosePivot lt d1 a e).1)
  (if (Sort.choosePivot lt d1 a e).2=.decreasing then .increasing else (Sort.choosePivot lt d1 a e).2) limit wb wp
theorem vJ (d:Array α) (a e limit:Nat) (wb wp:Bool) : Sort.pdq lt d a e limit wb wp =
  if e - a≤12 then Sort.insertionSort lt d a e else if limit=0 then Sort.heapSort lt d a e else gA lt (if !wb then Sort.breakPatterns d a e else d) a e (if !wb then limit - 1 else limit) wb wp:=by
 rw [Sort.pdq]; rfl
theorem uQ:∀ (n:Nat) (d:Array α) (a e limit:Nat) (wb wp:Bool),e - a≤n→(Sort.pdq lt d a e limit wb wp).size=d.size
 | n,d,a,e,limit,wb,wp,hn=>by
   rw [vJ]
   split
   ·exact Yb lt d a e
   split
   ·exact Xq lt d a e
   have h1:(if !wb then Sort.breakPatterns d a e else d).size=d.size:=by split; exact Jd d a e; rfl
   rw [← h1]
   generalize (if !wb then Sort.breakPatterns d a e else d)=d1
   unfold gA
   have h2:(if (Sort.choosePivot lt d1 a e).2=.decreasing then Sort.reverseRange d1 a e else d1).size=d1.size:=by split; exact Qy d1 a e; rfl
   rw [← h2]
   generalize (if (Sort.choosePivot lt d1 a e).2=.decreasing then Sort.reverseRange d1 a e else d1)=d2
   generalize (if (Sort.choosePivot lt d1 a e).2=.decreasing then (e - 1) - ((Sort.choosePivot lt d1 a e).1 - a) else (Sort.choosePivot lt d1 a e).1)=pv
   generalize (if (Sort.choosePivot lt d1 a e).2=.decreasing then Sort.Hint.increasing else (Sort.choosePivot lt d1 a e).2)=hint
   unfold gB
   have h3:(if wb && wp && hint=.increasing then Sort.partialInsertionSort lt d2 a e else (d2,false)).1.size=d2.size:=by
    split
    ·exact xD lt a e _ _ _
    ·rfl
   rw [← h3]
   generalize (if wb && wp && hint=.increasing then Sort.partialInsertionSort lt d2 a e else (d2,false))=pi
   unfold gP
   split
   ·rfl
   unfold gC
   have hE:=Il lt pi.1 a e pv
   have hP:=KY lt pi.1 a e pv
   generalize Sort.partitionEqual lt pi.1 a e pv=pe at *
   generalize Sort.partition lt pi.1 a e pv=pp at *
   obtain ⟨mid,d4⟩:=pe
   obtain ⟨mid2,ap,d5⟩:=pp
   cases n with
   | zero=>omega
   | succ n =>
     split
     ·dsimp only
      split
      ·rw [uQ n _ _ _ _ _ _ (by omega)]
       exact (hE (by omega)).1
      ·exact (hE (by omega)).1
     ·dsimp only at hP ⊢
      split
      ·split
       ·rw [uQ n _ _ _ _ _ _ (by omega),uQ n _ _ _ _ _ _ (by omega)]; exact hP
       ·rw [uQ n _ _ _ _ _ _ (by omega),uQ n _ _ _ _ _ _ (by omega)]; exact hP
      ·exact hP
theorem pM (d:Array α) (i j k:Nat) : (((Sort.order2 lt d i j k).1=i∧(Sort.order2 lt d i j k).2.1=j)∨((Sort.order2 lt d i j k).1=j∧(Sort.order2 lt d i j k).2.1=i))∧k≤(Sort.order2 lt d i j k).2.2∧(Sort.order2 lt d i j k).2.2≤k + 1:=by
 unfold Sort.order2
 split <;> simp
theorem rU (d:Array α) {i j h k n:Nat} (hi:i<n) (hj:j<n) (hh:h<n) : (Sort.median lt d i j h k).1<n∧(Sort.median lt d i j h k).2≤k + 3:=by
 unfold Sort.median
 dsimp only
 have o1:=pM lt d i j k
 generalize Sort.order2 lt d i j k=r1 at *
 have o2:=pM lt d r1.2.1 h r1.2.2
 generalize Sort.order2 lt d r1.2.1 h r1.2.2=r2 at *
 have o3:=pM lt d r1.1 r2.1 r2.2.2
 omega
end
end Go.Ab.Crw
set_option maxRecDepth 10000
set_option linter.unusedVariables false
set_option linter.unusedSimpArgs false
namespace Go.Ab.Crw
open Go Go.Ab Go.Ab.ak
section
variable {α:Type} [Inhabited α] {E:Enc α} {M M' : RM} {T b z n i j:Nat} {d:Array α} {ks:List Nat}
theorem At.keep' {α:Type} {E:Enc α} {d:Array α} (h:At E T b d M) (k:ag ks M M') (hb:b ∉ ks) : At E T b d M':=⟨k.aK h.heap h.lt hb,Nat.lt_of_lt_of_le h.lt k.next⟩
theorem lu {c p:Bool} {f:KR→Prop} {P:RM→Prop} {G:AV→RM→Prop} (h0:P M) (hf:c=true→∀ k:KR,(∀ M',P M'→k (Bo p) M' none)→f k) (hG:∀ M',P M'→G (Bo (c && p)) M') :
  ae (Bo c) true f (fun k=>k .undef M none) (fun t M' b=>aM (Bo c) t (Bo false) fun u=>G u M'):=by
 cases c with
 | false=>rw [ny]; dsimp only; rw [dz]; exact hG M h0
 | true=>rw [jN]; exact hf rfl _ fun M' h=>by rw [dO]; exact hG M' h
variable {body:(List AV→RM→Prop)→List AV→RM→Prop} {p:α→Bool} {P:RM→Prop}
theorem vF {J i0:Nat} (hP:P M) (h:∀ (next:List AV→RM→Prop) (i:Nat) (M' : RM),P M'→i0≤i→i≤max (J + 1) i0→((decide (i≤J) && p d[i]!)=true→∀ M'',P M''→next [N .i64 ((i + 1:Nat) : Int)] M'')→((decide (i≤J) && p d[i]!)=false→i=Sort.scanUp p d J i0)→body next [N .i64 (i:Int)] M') :
  aU body [N .i64 (i0:Int)] M:=by
 obtain ⟨R,hR⟩ : ∃ R,R=Sort.scanUp p d J i0:=⟨_,rfl⟩
 refine aG (fun m ys M3=>∃ (i:Nat),m=J + 1 - i∧ys=[N .i64 (i:Int)]∧i0≤i∧i≤max (J + 1) i0∧P M3∧R=Sort.scanUp p d J i) _ ⟨i0,rfl,rfl,Nat.le_refl _,by omega,hP,hR⟩ ?_
 rintro next m ys M3 hnext ⟨i,rfl,rfl,h0,hi,h3,hm⟩
 rw [Sort.scanUp] at hm
 refine h next i M3 h3 h0 hi (fun hc M4 h4=>?_) (fun hc=>?_)
 ·rw [if_pos hc] at hm
  have hij:i≤J:=by
   rw [Bool.and_eq_true] at hc
   exact of_decide_eq_true hc.1
  exact hnext _ _ _ (by omega) ⟨i + 1,rfl,rfl,by omega,by omega,h4,hm⟩
 ·rw [if_neg (by rw [hc]; decide)] at hm
  rw [← hR]; exact hm.symm
theorem qa {i j0:Nat} (hP:P M) (h1:1≤i) (h:∀ (next:List AV→RM→Prop) (j:Nat) (M' : RM),P M'→j≤j0→(j=j0∨i≤j + 1)→((decide (i≤j) && p d[j]!)=true→∀ M'',P M''→next [N .i64 ((j - 1:Nat) : Int)] M'')→((decide (i≤j) && p d[j]!)=false→j=Sort.scanDown p d i j0)→body next [N .i64 (j:Int)] M') :
  aU body [N .i64 (j0:Int)] M:=by
 obtain ⟨R,hR⟩ : ∃ R,R=Sort.scanDown p d i j0:=⟨_,rfl⟩
 refine aG (fun m ys M3=>∃ (j:Nat),m=j + 1∧ys=[N .i64 (j:Int)]∧j≤j0∧(j=j0∨i≤j + 1)∧P M3∧R=Sort.scanDown p d i j) _ ⟨j0,rfl,rfl,Nat.le_refl _,.inl rfl,hP,hR⟩ ?_
 rintro next m ys M3 hnext ⟨j,rfl,rfl,h0,hi,h3,hm⟩
 refine h next j M3 h3 h0 hi (fun hc M4 h4=>?_) (fun hc=>?_)
 ·have hij:i≤j:=by
   rw [Bool.and_eq_true] at hc
   exact of_decide_eq_true hc.1
  obtain ⟨k,rfl⟩ : ∃ k,j=k + 1:=⟨j - 1,by omega⟩
  rw [Sort.scanDown,if_pos hc] at hm
  exact hnext _ _ _ (by omega) ⟨k,rfl,rfl,by omega,by omega,h4,hm⟩
 ·rw [← hR]
  cases j with
  | zero=>exact hm.symm
  | succ k=>rw [Sort.scanDown,if_neg (by rw [hc]; decide)] at hm; exact hm.symm
end
def QJ (TX:Nat) (c:aj) : Prop:=∀ {M:RM} {s:Nat} {r:UInt64} {Q:ah},M.heap s=some (.row [N .u64 (r.toNat:Int)] false TX 0)→s<M.next→(∀ M',M'.heap s=some (.row [N .u64 ((Sort.xorNext r).toNat:Int)] false TX 0)→ag [s] M M'→M'.next=M.next→Q (N .u64 ((Sort.xorNext r).toNat:Int)) M')→c [.ptr s 0] M Q
theorem Sg {TX:Nat} : QJ TX fun args M Q=>∃ a0,args=[a0]∧kQ a0 M Q:=by
 intro M s r Q hh hlt hQ
 refine ⟨_,rfl, ?_⟩
 unfold kQ
 have st:∀ (M:RM) (r r' : UInt64) (K:RM→Prop),M.heap s=some (.row [N .u64 (r.toNat:Int)] false TX 0)→(∀ M',M'.heap s=some (.row [N .u64 (r'.toNat:Int)] false TX 0)→ag [s] M M'→M'.next=M.next→K M')→aD M (.ptr s 0) (N .u64 (r'.toNat:Int)) 1 K:=fun M r r' K h hK=>by
  rw [eB h (by simp) rfl rfl]
  exact hK _ (aP _) ((ag.refl _ _).put _ (.inr (by simp))) rfl
 rw [aJ,az hh rfl,aJ,az hh rfl,yO]
 refine ⟨by decide, ?_⟩
 rw [show (13:Int)=((13:Nat) : Int) from rfl,Df (k:=13) (n:=13) rfl (by decide),sW,u64_xor,aJ]
 refine st _ _ _ _ hh fun M1 h1 k1 n1=>?_
 rw [aJ,az h1 rfl,aJ,az h1 rfl,ze]
 refine ⟨by decide, ?_⟩
 rw [show (7:Int)=((7:Nat) : Int) from rfl,Ol (k:=7) (n:=7) rfl (by decide),sW,u64_xor,aJ]
 refine st _ _ _ _ h1 fun M2 h2 k2 n2=>?_
 rw [aJ,az h2 rfl,aJ,az h2 rfl,yO]
 refine ⟨by decide, ?_⟩
 rw [show (17:Int)=((17:Nat) : Int) from rfl,Df (k:=17) (n:=17) rfl (by decide),sW,u64_xor,aJ]
 refine st _ _ _ _ h2 fun M3 h3 k3 n3=>?_
 rw [aJ,az h3 rfl]
 exact hQ M3 h3 ((k1.trans k2).trans k3) (by omega)
def oL {α:Type} [Inhabited α] (a l m i0:Nat) (d:Array α) : Nat→UInt64 × Array α
 | 0=>(UInt64.ofNat l,d)
 | k + 1=>Sort.breakStep a l m (oL a l m i0 d k) (i0 + k)
theorem KS {α:Type} [Inhabited α] (a l m i0:Nat) (d:Array α) : ∀ k,(oL a l m i0 d k).2.size=d.size
 | 0=>rfl
 | k + 1=>by
   rw [oL,tO,KS a l m i0 d k]
abbrev aL:=ak × (List UInt8 × List UInt8 × List UInt8)
def aC:Enc aL:=⟨5,fun x=>aO x.1++[St x.2.1,St x.2.2.1,St x.2.2.2],fun _=>rfl,fun _=>rfl⟩
end Go.Ab.Crw
set_option maxRecDepth 10000
set_option linter.unusedVariables false
set_option linter.unusedSimpArgs false
namespace Go.Ab.Crw
open Go Go.Ab Go.Ab.ak
theorem Ue {T:Nat} {fv:AV} {lt:aL→aL→Bool} {cv:FuncId→aj} (hl:lM aC lt (bN cv fv)) : SortG aC T 5 fv (Sort.insertionSort lt) (fun _ _ _=>True) fun args M Q=>∃ a0 a1 a2 a3,args=[a0,a1,a2,a3]∧eH cv a0 a1 a2 a3 M Q:=by
 intro M b a e d Q hat hsz hae he _ hQ
 refine ⟨_,_,_,_,rfl, ?_⟩
 unfold eH
 simp only [eD,dN,dQ]
 rw [add1 (by omega)]
 rw [Sort.insertionSort] at hQ
 obtain ⟨R,hR⟩ : ∃ R,R=Sort.insOuter lt a e (a + 1) d:=⟨_,rfl⟩
 rw [← hR] at hQ
 refine aG (fun m ys M3=>∃ (i:Nat) (d3:Array aL),m=d.size - i∧ys=[N .i64 (i:Int)]∧i≤d.size + 1∧At aC T b d3 M3∧ag [b] M M3∧d3.size=d.size∧R=Sort.insOuter lt a e i d3) _ ⟨a + 1,d,rfl,rfl,by omega,hat,ag.refl _ _,rfl,hR⟩ ?_
 rintro next m ys M3 hnext ⟨i,d3,rfl,rfl,hi,h3,k3,hs3,hm⟩
 dsimp only [aa]
 rw [dS]
 refine aF (fun hlt=>?_) (fun hge=>?_)
 ·have hlt:i<e:=of_decide_eq_true hlt
  rw [Sort.insOuter,if_pos hlt] at hm
  obtain ⟨R5,hR5⟩ : ∃ R5,R5=Sort.insInner lt a i d3:=⟨_,rfl⟩
  rw [← hR5] at hm
  refine aG (fun m ys M5=>∃ (j:Nat) (d5:Array aL),m=j + 1∧ys=[N .i64 (j:Int)]∧j≤i∧At aC T b d5 M5∧ag [b] M M5∧d5.size=d.size∧R5=Sort.insInner lt a j d5) _ ⟨i,d3,rfl,rfl,Nat.le_refl _,h3,k3,hs3,hR5⟩ ?_
  rintro next2 m ys M5 hnext2 ⟨j,d5,rfl,rfl,hj,h5,k5,hs5,hm5⟩
  dsimp only [aa]
  rw [nz]
  have out:∀ M6,At aC T b d5 M6→ag [b] M M6→Sort.insInner lt a j d5=d5→af .add (N .i64 (i:Int)) (N .i64 1) (fun t14=>next [t14] M6):=fun M6 h6 k6 h=>by
   rw [add1 (by omega)]
   refine hnext _ _ _ (by omega) ⟨i + 1,d5,rfl,rfl,by omega,h6,k6,hs5, ?_⟩
   rw [hm,hm5,h]
  by_cases hg:j > a
  ·obtain ⟨k,rfl⟩ : ∃ k,j=k + 1:=⟨j - 1,by omega⟩
   rw [decide_eq_true hg,jN]
   dsimp only
   rw [h5.rd (z:=5) rfl hs5.symm (by omega),bD (by omega) (by omega),Nat.add_sub_cancel,h5.rd (z:=5) rfl hs5.symm (by omega)]
   refine hl.use fun M6 k6=>?_
   have h6:=h5.keep k6
   have k6':=k5.trans (k6.mono (cs:=[b]) (by simp))
   rw [dO]
   rw [Sort.insInner] at hm5 out
   refine aF (fun h=>?_) (fun h=>?_)
   ·rw [if_pos (by simp [hg,h])] at hm5
    rw [bD (by omega) (by omega),bD (by omega) (by omega),Nat.add_sub_cancel,h6.rd (z:=5) rfl hs5.symm (by omega),h6.rd (z:=5) rfl hs5.symm (by omega)]
    refine h6.swap (z:=5) rfl hs5.symm (by omega) (by omega) fun M7 h7 k7=>?_
    rw [bD (by omega) (by omega),Nat.add_sub_cancel]
    exact hnext2 _ _ _ (by omega) ⟨k,_,rfl,rfl,by omega,h7,k6'.trans k7,by rw [bS]; exact hs5,hm5⟩
   ·exact out M6 h6 k6' (by rw [if_neg (by simp [h])])
  ·rw [decide_eq_false hg,ny]
   dsimp only
   rw [dz,bF]
   refine out M5 h5 k5 ?_
   cases j with
   | zero=>rfl
   | succ k=>rw [Sort.insInner,if_neg (by simp [hg])]
 ·have hge:¬ i<e:=of_decide_eq_false hge
  rw [Sort.insOuter,if_neg hge] at hm
  subst hm
  exact hQ M3 h3 k3
theorem UX {T:Nat} {fv:AV} : SortG aC T 5 fv Sort.reverseRange (fun _ a e=>a<e) fun args M Q=>∃ a0 a1 a2 a3,args=[a0,a1,a2,a3]∧iZ a0 a1 a2 a3 M Q:=by
 intro M b a e d Q hat hsz hae he hP hQ
 refine ⟨_,_,_,_,rfl, ?_⟩
 unfold iZ
 rw [bD (by omega) (by omega)]
 rw [Sort.reverseRange] at hQ
 obtain ⟨R,hR⟩ : ∃ R,R=Sort.reverseLoop a (e - 1) d:=⟨_,rfl⟩
 rw [← hR] at hQ
 refine aG (fun m ys M3=>∃ (i j:Nat) (d3:Array aL),m=j - i∧ys=[N .i64 (i:Int),N .i64 (j:Int)]∧j<d.size∧i≤d.size∧At aC T b d3 M3∧ag [b] M M3∧d3.size=d.size∧R=Sort.reverseLoop i j d3) _ ⟨a,e - 1,d,rfl,rfl,by omega,by omega,hat,ag.refl _ _,rfl,hR⟩ ?_
 rintro next m ys M3 hnext ⟨i,j,d3,rfl,rfl,hj,hi,h3,k3,hs3,hm⟩
 dsimp only [aa]
 rw [dS]
 rw [Sort.reverseLoop] at hm
 refine aF (fun hlt=>?_) (fun hge=>?_)
 ·have hlt:i<j:=of_decide_eq_true hlt
  rw [if_pos hlt] at hm
  rw [h3.rd (z:=5) rfl hs3.symm (by omega),h3.rd (z:=5) rfl hs3.symm (by omega)]
  refine h3.swap (z:=5) rfl hs3.symm (by omega) (by omega) fun M4 h4 k4=>?_
  rw [add1 (by omega),bD (by omega) (by omega)]
  exact hnext _ _ _ (by omega) ⟨i + 1,j - 1,_,rfl,rfl,by omega,by omega,h4,k3.trans k4,by rw [bS]; exact hs3,hm⟩
 ·have hge:¬ i<j:=of_decide_eq_false hge
  rw [if_neg hge] at hm
  subst hm
  exact hQ M3 h3 k3
def Ql (T:Nat) (fv:AV) (lt:aL→aL→Bool) (c:aj) : Prop:=∀ {M:RM} {b lo hi first:Nat} {d:Array aL} {Q:ah},At aC T b d M→d.size≤60000→first + hi≤d.size→lo≤1000000→(∀ M',At aC T b (Sort.siftDown lt hi first lo d) M'→ag [b] M M'→Q (.tup []) M') →
 c [sv b d.size 5,N .i64 (lo:Int),N .i64 (hi:Int),N .i64 (first:Int),fv] M Q
theorem QA {T:Nat} {fv:AV} {lt:aL→aL→Bool} {cv:FuncId→aj} (hl:lM aC lt (bN cv fv)) : Ql T fv lt fun args M Q=>∃ a0 a1 a2 a3 a4,args=[a0,a1,a2,a3,a4]∧kC cv a0 a1 a2 a3 a4 M Q:=by
 intro M b lo hi first d Q hat hsz hfe hlo hQ
 refine ⟨_,_,_,_,_,rfl, ?_⟩
 unfold kC
 simp only [eD,dN,dQ,bT]
 obtain ⟨R,hR⟩ : ∃ R,R=Sort.siftDown lt hi first lo d:=⟨_,rfl⟩
 rw [← hR] at hQ
 refine aG (fun m ys M3=>∃ (r:Nat) (d3:Array aL),m=1000000 + hi - r∧ys=[N .i64 (r:Int)]∧(r≤1000000)∧At aC T b d3 M3∧ag [b] M M3∧d3.size=d.size∧R=Sort.siftDown lt hi first r d3) _ ⟨lo,d,rfl,rfl,hlo,hat,ag.refl _ _,rfl,hR⟩ ?_
 rintro next m ys M3 hnext ⟨r,d3,rfl,rfl,hr,h3,k3,hs3,hm⟩
 dsimp only [aa]
 rw [UO (by omega),add1 (by omega),gQ]
 rw [Sort.siftDown] at hm
 refine aF (fun hg=>?_) (fun hg=>?_)
 ·rw [dif_pos (of_decide_eq_true hg)] at hm
  subst hm
  exact hQ M3 h3 k3
 have hg:¬ 2 * r + 1 ≥ hi:=of_decide_eq_false hg
 rw [dif_neg hg] at hm
 refine aZ (fun zs M'=>∃ c:Nat,zs=[N .i64 (c:Int)]∧At aC T b d3 M'∧ag [b] M M'∧r<c∧c<hi∧R=if !lt d3[first + r]! d3[first + c]! then d3 else Sort.siftDown lt hi first c (Sort.swp d3 (first + r) (first + c))) ?_ ?_
 ·rintro zs M' ⟨c,rfl,h4,k4,hrc,hchi,hm2⟩
  dsimp only [aa]
  rw [addN (by omega),h4.rd (z:=5) rfl hs3.symm (by omega),addN (by omega),h4.rd (z:=5) rfl hs3.symm (by omega)]
  refine hl.use fun M5 k5=>?_
  have h5:=h4.keep k5
  have k5':=k4.trans (k5.mono (cs:=[b]) (by simp))
  rw [bB]
  refine aF (fun h=>?_) (fun h=>?_)
  ·rw [if_pos h] at hm2
   subst hm2
   exact hQ M5 h5 k5'
  ·rw [if_neg (by rw [h]; decide)] at hm2
   rw [addN (by omega),addN (by omega),addN (by omega),h5.rd (z:=5) rfl hs3.symm (by omega),addN (by omega),h5.rd (z:=5) rfl hs3.symm (by omega)]
   refine h5.swap (z:=5) rfl hs3.symm (by omega) (by omega) fun M6 h6 k6=>?_
   exact hnext _ _ _ (by omega) ⟨c,_,rfl,rfl,by omega,h6,k5'.trans k6,by rw [bS]; exact hs3,hm2⟩
 intro J hJ
 rw [add1 (by omega),dS]
 refine lu (P:=fun M'=>At aC T b d3 M'∧ag [b] M M') (p:=lt d3[first + (2 * r + 1)]! d3[first + (2 * r + 1) + 1]!) ⟨h3,k3⟩ (fun hc k hk=>?_) fun M4 ⟨h4,k4⟩=>?_
 ·have hc:2 * r + 1 + 1<hi:=of_decide_eq_true hc
  rw [addN (by omega),h3.rd (z:=5) rfl hs3.symm (by omega),addN (by omega),add1 (by omega),h3.rd (z:=5) rfl hs3.symm (by omega)]
  exact hl.use fun M5 k5=>hk M5 ⟨h3.keep k5,k3.trans (k5.mono (cs:=[b]) (by simp))⟩
 refine aF (fun h=>?_) (fun h=>?_)
 ·have hc:2 * r + 1 + 1<hi:=by
   rw [Bool.and_eq_true] at h
   exact of_decide_eq_true h.1
  rw [add1 (by omega)]
  refine hJ _ _ ⟨2 * r + 2,rfl,h4,k4,by omega,by omega, ?_⟩
  rw [if_pos h,dif_pos (by omega)] at hm
  exact hm
 ·refine hJ _ _ ⟨2 * r + 1,rfl,h4,k4,by omega,by omega, ?_⟩
  rw [if_neg (by rw [h]; decide)] at hm
  exact hm
theorem PV {T:Nat} {fv:AV} {lt:aL→aL→Bool} {cs:aj} (hs:Ql T fv lt cs) : SortG aC T 5 fv (Sort.heapSort lt) (fun _ a e=>a<e) fun args M Q=>∃ a0 a1 a2 a3,args=[a0,a1,a2,a3]∧kF cs a0 a1 a2 a3 M Q:=by
 intro M b a e d Q hat hsz hae he hP hQ
 refine ⟨_,_,_,_,rfl, ?_⟩
 unfold kF
 rw [Sort.heapSort] at hQ
 rw [dK hae (by omega),bD (by omega) (by omega),jo]
 refine ⟨by decide, ?_⟩
 rw [show (2:Int)=((2:Nat) : Int) from rfl,l8,aW (by omega) (by omega)]
 obtain ⟨R,hR⟩ : ∃ R,R=Sort.heapBuild lt (e - a) a ((e - a - 1) / 2 + 1) d:=⟨_,rfl⟩
 rw [← hR] at hQ
 refine aG (fun m ys M3=>∃ (k:Nat) (d3:Array aL),m=k + 1∧ys=[N .i64 ((k:Int) - 1)]∧k≤(e - a - 1) / 2 + 1∧At aC T b d3 M3∧ag [b] M M3∧d3.size=d.size∧R=Sort.heapBuild lt (e - a) a k d3) _ ⟨(e - a - 1) / 2 + 1,d,rfl,by congr 3; omega,Nat.le_refl _,hat,ag.refl _ _,rfl,hR⟩ ?_
 rintro next m ys M3 hnext ⟨k,d3,rfl,rfl,hk,h3,k3,hs3,hm⟩
 dsimp only [aa]
 rw [fw]
 refine aF (fun hg=>?_) (fun hg=>?_)
 ·have hg:1≤k:=by
   have:(k:Int) - 1 ≥ 0:=of_decide_eq_true hg
   omega
  obtain ⟨k',rfl⟩ : ∃ k',k=k' + 1:=⟨k - 1,by omega⟩
  rw [Sort.heapBuild] at hm
  rw [show ((k' + 1:Nat) : Int) - 1=(k' : Int) by omega,← hs3]
  refine hs h3 (by omega) (by omega) (by omega) fun M4 h4 k4=>?_
  rw [fJ,aW (by omega) (by omega)]
  exact hnext _ _ _ (by omega) ⟨k',_,rfl,rfl,by omega,h4,k3.trans k4,by rw [uk lt _ _ (e - a) _ _ (by omega)]; exact hs3,hm⟩
 ·have hk0:k=0:=by
   have:¬ (k:Int) - 1 ≥ 0:=of_decide_eq_false hg
   omega
  subst hk0
  rw [Sort.heapBuild] at hm
  rw [hm] at hQ
  rw [bD (by omega) (by omega)]
  obtain ⟨R4,hR4⟩ : ∃ R4,R4=Sort.heapPop lt a (e - a) d3:=⟨_,rfl⟩
  rw [← hR4] at hQ
  refine aG (fun m ys M4=>∃ (k:Nat) (d4:Array aL),m=k + 1∧ys=[N .i64 ((k:Int) - 1)]∧k≤e - a∧At aC T b d4 M4∧ag [b] M M4∧d4.size=d.size∧R4=Sort.heapPop lt a k d4) _ ⟨e - a,d3,rfl,by congr 3; omega,Nat.le_refl _,h3,k3,hs3,hR4⟩ ?_
  rintro next2 m ys M4 hnext2 ⟨k,d4,rfl,rfl,hk,h4,k4,hs4,hm4⟩
  dsimp only [aa]
  rw [fw]
  refine aF (fun hg=>?_) (fun hg=>?_)
  ·have hg:1≤k:=by
    have:(k:Int) - 1 ≥ 0:=of_decide_eq_true hg
    omega
   obtain ⟨k',rfl⟩ : ∃ k',k=k' + 1:=⟨k - 1,by omega⟩
   rw [Sort.heapPop] at hm4
   rw [show ((k' + 1:Nat) : Int) - 1=(k' : Int) by omega,addN (by omega),addN (by omega),h4.rd (z:=5) rfl hs4.symm (by omega),h4.rd (z:=5) rfl hs4.symm (by omega)]
   refine h4.swap (z:=5) rfl hs4.symm (by omega) (by omega) fun M5 h5 k5=>?_
   rw [show d.size=(Sort.swp d4 a (a + k')).size by rw [bS]; exact hs4.symm]
   refine hs (lo:=0) h5 (by rw [bS]; omega) (by rw [bS]; omega) (by decide) fun M6 h6 k6=>?_
   rw [fJ,aW (by omega) (by omega)]
   exact hnext2 _ _ _ (by omega) ⟨k',_,rfl,rfl,by omega,h6,(k4.trans k5).trans k6,by rw [uk lt _ _ k' _ _ (by omega),bS]; exact hs4,hm4⟩
  ·have hk0:k=0:=by
    have:¬ (k:Int) - 1 ≥ 0:=of_decide_eq_false hg
    omega
   subst hk0
   rw [Sort.heapPop] at hm4
   subst hm4
   exact hQ M4 h4 k4
def I4 (T:Nat) (fv:AV) (lt:aL→aL→Bool) (c:aj) : Prop:=∀ {M:RM} {b a e pv:Nat} {d:Array aL} {Q:ah},At aC T b d M→d.size≤60000→a≤pv→pv<e→e≤d.size→(∀ M',At aC T b (Sort.partitionEqual lt d a e pv).2 M'→ag [b] M M'→Q (N .i64 (((Sort.partitionEqual lt d a e pv).1:Nat) : Int)) M') →
 c [sv b d.size 5,N .i64 (a:Int),N .i64 (e:Int),N .i64 (pv:Int),fv] M Q
theorem I9 {T:Nat} {fv:AV} {lt:aL→aL→Bool} {cv:FuncId→aj} (hl:lM aC lt (bN cv fv)) : I4 T fv lt fun args M Q=>∃ a0 a1 a2 a3 a4,args=[a0,a1,a2,a3,a4]∧iw cv a0 a1 a2 a3 a4 M Q:=by
 intro M b a e pv d Q hat hsz hap hpe he hQ
 refine ⟨_,_,_,_,_,rfl, ?_⟩
 unfold iw
 simp only [eD,dN,dQ]
 rw [Sort.partitionEqual] at hQ
 rw [hat.rd (z:=5) rfl rfl (by omega),hat.rd (z:=5) rfl rfl (by omega)]
 refine hat.swap (z:=5) rfl rfl (by omega) (by omega) fun M2 h2 k2=>?_
 rw [add1 (by omega),bD (by omega) (by omega)]
 obtain ⟨R,hR⟩ : ∃ R,R=Sort.partEqLoop lt a (a + 1) (e - 1) (Sort.swp d a pv):=⟨_,rfl⟩
 rw [← hR] at hQ
 refine aG (fun m ys M3=>∃ (i j:Nat) (d3:Array aL),m=j + 1 - i∧ys=[N .i64 (i:Int),N .i64 (j:Int)]∧a + 1≤i∧i≤e + 1∧j<e∧At aC T b d3 M3∧ag [b] M M3∧d3.size=d.size∧R=Sort.partEqLoop lt a i j d3) _ ⟨a + 1,e - 1,_,rfl,rfl,Nat.le_refl _,by omega,by omega,h2,k2,bS _ _ _,hR⟩ ?_
 rintro next m ys M3 hnext ⟨i,j,d3,rfl,rfl,hai,hie,hje,h3,k3,hs3,hm⟩
 dsimp only [aa]
 rw [Sort.partEqLoop] at hm
 refine vF (P:=fun M'=>At aC T b d3 M'∧ag [b] M M') (p:=fun x=>!lt d3[a]! x) (d:=d3) (J:=j) ⟨h3,k3⟩ fun next2 i2 M4 ⟨h4,k4⟩ h0 h1 hgo hstop=>?_
 dsimp only [aa]
 rw [jG]
 refine lu (P:=fun M'=>At aC T b d3 M'∧ag [b] M M') (p:=!lt d3[a]! d3[i2]!) ⟨h4,k4⟩ (fun hc k hk=>?_) fun M5 h5=>?_
 ·have hc:i2≤j:=of_decide_eq_true hc
  rw [h4.rd (z:=5) rfl hs3.symm (by omega),h4.rd (z:=5) rfl hs3.symm (by omega)]
  refine hl.use fun M5 k5=>?_
  rw [bB]
  exact hk M5 ⟨h4.keep k5,k4.trans (k5.mono (cs:=[b]) (by simp))⟩
 refine aF (fun h=>?_) (fun h=>?_)
 ·rw [add1 (by omega)]
  exact hgo h M5 h5
 have hi2:=hstop h
 rw [← hi2] at hm
 refine qa (P:=fun M'=>At aC T b d3 M'∧ag [b] M M') (p:=fun x=>lt d3[a]! x) (d:=d3) (i:=i2) h5 (by omega) fun next3 j2 M6 ⟨h6,k6⟩ q0 q1 hgo3 hstop3=>?_
 dsimp only [aa]
 rw [jG]
 refine lu (P:=fun M'=>At aC T b d3 M'∧ag [b] M M') (p:=lt d3[a]! d3[j2]!) ⟨h6,k6⟩ (fun hc k hk=>?_) fun M7 ⟨h7,k7⟩=>?_
 ·have hc:i2≤j2:=of_decide_eq_true hc
  rw [h6.rd (z:=5) rfl hs3.symm (by omega),h6.rd (z:=5) rfl hs3.symm (by omega)]
  exact hl.use fun M5 k5=>hk M5 ⟨h6.keep k5,k6.trans (k5.mono (cs:=[b]) (by simp))⟩
 refine aF (fun h=>?_) (fun h=>?_)
 ·have hc:i2≤j2:=by
   rw [Bool.and_eq_true] at h
   exact of_decide_eq_true h.1
  rw [bD (by omega) (by omega)]
  exact hgo3 h M7 ⟨h7,k7⟩
 have hj2:=hstop3 h
 simp only [← hj2] at hm
 rw [nz]
 refine aF (fun hg=>?_) (fun hg=>?_)
 ·rw [if_pos (of_decide_eq_true hg)] at hm
  rw [hm] at hQ
  exact hQ M7 h7 k7
 ·have hg:¬ i2 > j2:=of_decide_eq_false hg
  rw [if_neg hg,dif_pos (by omega)] at hm
  rw [h7.rd (z:=5) rfl hs3.symm (by omega),h7.rd (z:=5) rfl hs3.symm (by omega)]
  refine h7.swap (z:=5) rfl hs3.symm (by omega) (by omega) fun M8 h8 k8=>?_
  rw [add1 (by omega),bD (by omega) (by omega)]
  exact hnext _ _ _ (by omega) ⟨i2 + 1,j2 - 1,_,rfl,rfl,by omega,by omega,by omega,h8,k7.trans k8,by rw [bS,hs3],hm⟩
def QN (T:Nat) (fv:AV) (lt:aL→aL→Bool) (c:aj) : Prop:=∀ {M:RM} {b a e pv:Nat} {d:Array aL} {Q:ah},At aC T b d M→d.size≤60000→a≤pv→pv<e→e≤d.size→(∀ M',At aC T b (Sort.partition lt d a e pv).2.2 M'→ag [b] M M'→Q (.tup [N .i64 (((Sort.partition lt d a e pv).1:Nat) : Int),Bo (Sort.partition lt d a e pv).2.1]) M') →
 c [sv b d.size 5,N .i64 (a:Int),N .i64 (e:Int),N .i64 (pv:Int),fv] M Q
theorem Pj {T:Nat} {fv:AV} {lt:aL→aL→Bool} {cv:FuncId→aj} (hl:lM aC lt (bN cv fv)) : QN T fv lt fun args M Q=>∃ a0 a1 a2 a3 a4,args=[a0,a1,a2,a3,a4]∧jQ cv a0 a1 a2 a3 a4 M Q:=by
 intro M b a e pv d Q hat hsz hap hpe he hQ
 refine ⟨_,_,_,_,_,rfl, ?_⟩
 unfold jQ
 simp only [eD,dN,dQ]
 have hs2:=bS d a pv
 rw [sM] at hQ
 rw [hat.rd (z:=5) rfl rfl (by omega),hat.rd (z:=5) rfl rfl (by omega)]
 refine hat.swap (z:=5) rfl rfl (by omega) (by omega) fun M2 h2 k2=>?_
 rw [add1 (by omega),bD (by omega) (by omega)]
 generalize Sort.swp d a pv=d2 at *
 refine vF (P:=fun M'=>At aC T b d2 M'∧ag [b] M M') (p:=fun x=>lt x d2[a]!) (d:=d2) (J:=e - 1) ⟨h2,k2⟩ fun next2 i M3 ⟨h3,k3⟩ h0 h1 hgo hstop=>?_
 dsimp only [aa]
 rw [jG]
 refine lu (P:=fun M'=>At aC T b d2 M'∧ag [b] M M') (p:=lt d2[i]! d2[a]!) ⟨h3,k3⟩ (fun hc k hk=>?_) fun M4 h4=>?_
 ·have hc:i≤e - 1:=of_decide_eq_true hc
  rw [h3.rd (z:=5) rfl hs2.symm (by omega),h3.rd (z:=5) rfl hs2.symm (by omega)]
  exact hl.use fun M5 k5=>hk M5 ⟨h3.keep k5,k3.trans (k5.mono (cs:=[b]) (by simp))⟩
 refine aF (fun h=>?_) (fun h=>?_)
 ·rw [add1 (by omega)]
  exact hgo h M4 h4
 have hi2:i=pI lt d2 a e:=hstop h
 have hjdef:pJ lt d2 a e=Sort.scanDown (fun x=>!lt x d2[a]!) d2 (pI lt d2 a e) (e - 1):=rfl
 have hldef:pL lt d2 a e=Sort.partLoop lt a (pI lt d2 a e + 1) (pJ lt d2 a e - 1) (Sort.swp d2 (pI lt d2 a e) (pJ lt d2 a e)):=rfl
 rw [← hi2] at hjdef hldef hQ
 refine qa (P:=fun M'=>At aC T b d2 M'∧ag [b] M M') (p:=fun x=>!lt x d2[a]!) (d:=d2) (i:=i) h4 (by omega) fun next3 j M5 ⟨h5,k5⟩ q0 q1 hgo3 hstop3=>?_
 dsimp only [aa]
 rw [jG]
 refine lu (P:=fun M'=>At aC T b d2 M'∧ag [b] M M') (p:=!lt d2[j]! d2[a]!) ⟨h5,k5⟩ (fun hc k hk=>?_) fun M6 ⟨h6,k6⟩=>?_
 ·have hc:i≤j:=of_decide_eq_true hc
  rw [h5.rd (z:=5) rfl hs2.symm (by omega),h5.rd (z:=5) rfl hs2.symm (by omega)]
  refine hl.use fun M7 k7=>?_
  rw [bB]
  exact hk M7 ⟨h5.keep k7,k5.trans (k7.mono (cs:=[b]) (by simp))⟩
 refine aF (fun h=>?_) (fun h=>?_)
 ·have hc:i≤j:=by
   rw [Bool.and_eq_true] at h
   exact of_decide_eq_true h.1
  rw [bD (by omega) (by omega)]
  exact hgo3 h M6 ⟨h6,k6⟩
 have hj2:=hstop3 h
 rw [← hj2] at hjdef
 rw [hjdef] at hldef hQ
 rw [nz]
 refine aF (fun hg=>?_) (fun hg=>?_)
 ·rw [if_pos (of_decide_eq_true hg)] at hQ
  rw [h6.rd (z:=5) rfl hs2.symm (by omega),h6.rd (z:=5) rfl hs2.symm (by omega)]
  exact h6.swap (z:=5) rfl hs2.symm (by omega) (by omega) fun M7 h7 k7=>hQ M7 h7 (k6.trans k7)
 have hg:¬ i > j:=of_decide_eq_false hg
 rw [if_neg hg] at hQ
 rw [h6.rd (z:=5) rfl hs2.symm (by omega),h6.rd (z:=5) rfl hs2.symm (by omega)]
 refine h6.swap (z:=5) rfl hs2.symm (by omega) (by omega) fun M7 h7 k7=>?_
 rw [add1 (by omega),bD (by omega) (by omega)]
 generalize pL lt d2 a e=R at *
 refine aG (fun m ys M3=>∃ (i j:Nat) (d3:Array aL),m=j + 1 - i∧ys=[N .i64 (i:Int),N .i64 (j:Int)]∧a + 1≤i∧i≤e + 1∧j<e∧At aC T b d3 M3∧ag [b] M M3∧d3.size=d.size∧R=Sort.partLoop lt a i j d3) _ ⟨i + 1,j - 1,_,rfl,rfl,by omega,by omega,by omega,h7,k6.trans k7,by rw [bS,hs2],hldef⟩ ?_
 rintro next m ys M3 hnext ⟨i,j,d3,rfl,rfl,hai,hie,hje,h3,k3,hs3,hm⟩
 dsimp only [aa]
 rw [Sort.partLoop] at hm
 refine vF (P:=fun M'=>At aC T b d3 M'∧ag [b] M M') (p:=fun x=>lt x d3[a]!) (d:=d3) (J:=j) ⟨h3,k3⟩ fun next2 i2 M4 ⟨h4,k4⟩ h0 h1 hgo hstop=>?_
 dsimp only [aa]
 rw [jG]
 refine lu (P:=fun M'=>At aC T b d3 M'∧ag [b] M M') (p:=lt d3[i2]! d3[a]!) ⟨h4,k4⟩ (fun hc k hk=>?_) fun M5 h5=>?_
 ·have hc:i2≤j:=of_decide_eq_true hc
  rw [h4.rd (z:=5) rfl hs3.symm (by omega),h4.rd (z:=5) rfl hs3.symm (by omega)]
  exact hl.use fun M5 k5=>hk M5 ⟨h4.keep k5,k4.trans (k5.mono (cs:=[b]) (by simp))⟩
 refine aF (fun h=>?_) (fun h=>?_)
 ·rw [add1 (by omega)]
  exact hgo h M5 h5
 have hi2:=hstop h
 rw [← hi2] at hm
 refine qa (P:=fun M'=>At aC T b d3 M'∧ag [b] M M') (p:=fun x=>!lt x d3[a]!) (d:=d3) (i:=i2) h5 (by omega) fun next3 j2 M6 ⟨h6,k6⟩ q0 q1 hgo3 hstop3=>?_
 dsimp only [aa]
 rw [jG]
 refine lu (P:=fun M'=>At aC T b d3 M'∧ag [b] M M') (p:=!lt d3[j2]! d3[a]!) ⟨h6,k6⟩ (fun hc k hk=>?_) fun M7 ⟨h7,k7⟩=>?_
 ·have hc:i2≤j2:=of_decide_eq_true hc
  rw [h6.rd (z:=5) rfl hs3.symm (by omega),h6.rd (z:=5) rfl hs3.symm (by omega)]
  refine hl.use fun M8 k8=>?_
  rw [bB]
  exact hk M8 ⟨h6.keep k8,k6.trans (k8.mono (cs:=[b]) (by simp))⟩
 refine aF (fun h=>?_) (fun h=>?_)
 ·have hc:i2≤j2:=by
   rw [Bool.and_eq_true] at h
   exact of_decide_eq_true h.1
  rw [bD (by omega) (by omega)]
  exact hgo3 h M7 ⟨h7,k7⟩
 have hj2:=hstop3 h
 simp only [← hj2] at hm
 rw [nz]
 refine aF (fun hg=>?_) (fun hg=>?_)
 ·rw [if_pos (of_decide_eq_true hg)] at hm
  rw [hm] at hQ
  rw [h7.rd (z:=5) rfl hs3.symm (by omega),h7.rd (z:=5) rfl hs3.symm (by omega)]
  exact h7.swap (z:=5) rfl hs3.symm (by omega) (by omega) fun M8 h8 k8=>hQ M8 h8 (k7.trans k8)
 ·have hg:¬ i2 > j2:=of_decide_eq_false hg
  rw [if_neg hg,dif_pos (by omega)] at hm
  rw [h7.rd (z:=5) rfl hs3.symm (by omega),h7.rd (z:=5) rfl hs3.symm (by omega)]
  refine h7.swap (z:=5) rfl hs3.symm (by omega) (by omega) fun M8 h8 k8=>?_
  rw [add1 (by omega),bD (by omega) (by omega)]
  exact hnext _ _ _ (by omega) ⟨i2 + 1,j2 - 1,_,rfl,rfl,by omega,by omega,by omega,h8,k7.trans k8,by rw [bS,hs3],hm⟩
end Go.Ab.Crw
set_option maxRecDepth 10000
set_option linter.unusedVariables false
set_option linter.unusedSimpArgs false
namespace Go.Ab.Crw
open Go Go.Ab Go.Ab.ak
def GU (T TI b s:Nat) (d:Array aL) (k:Nat) (M:RM) : Prop:=At aC T b d M∧M.heap s=some (.row [N .i64 (k:Int)] false TI 0)∧s<M.next
def IC (T TI:Nat) (fv:AV) (lt:aL→aL→Bool) (c:aj) : Prop:=∀ {M:RM} {b s k i j:Nat} {d:Array aL} {Q:ah},GU T TI b s d k M→s≠b→i<d.size→j<d.size→k≤1000 →
 (∀ M',GU T TI b s d (Sort.order2 lt d i j k).2.2 M'→ag [s] M M'→Q (.tup [N .i64 (((Sort.order2 lt d i j k).1:Nat) : Int),N .i64 (((Sort.order2 lt d i j k).2.1:Nat) : Int)]) M')→c [sv b d.size 5,N .i64 (i:Int),N .i64 (j:Int),.ptr s 0,fv] M Q
theorem Hl {T TI:Nat} {fv:AV} {lt:aL→aL→Bool} {cv:FuncId→aj} (hl:lM aC lt (bN cv fv)) : IC T TI fv lt fun args M Q=>∃ a0 a1 a2 a3 a4,args=[a0,a1,a2,a3,a4]∧lX cv a0 a1 a2 a3 a4 M Q:=by
 intro M b s k i j d Q ⟨hat,hh,hlt⟩ hsb hi hj hk hQ
 refine ⟨_,_,_,_,_,rfl, ?_⟩
 unfold lX
 rw [hat.rd (z:=5) rfl rfl (by omega),hat.rd (z:=5) rfl rfl (by omega)]
 refine hl.use fun M1 k1=>?_
 have h1:=hat.keep k1
 have hh1:=k1.aK hh hlt (by simp)
 have n1:=k1.next
 unfold Sort.order2 at hQ
 refine aF (fun h=>?_) (fun h=>?_)
 ·rw [if_pos h] at hQ
  rw [aJ,az hh1 rfl,add1 (by omega),aJ,eB hh1 (by simp) rfl rfl]
  have kk:ag [s] M1 (M1.put s (.row ([N .i64 (k:Int)].set 0 (N .i64 ((k + 1:Nat) : Int))) false TI 0)):=(ag.refl _ _).put _ (.inr (by simp))
  refine hQ _ ⟨h1.keep' kk (by simp; omega),aP _,by rw [iF]; omega⟩ ((k1.mono (by simp)).trans kk)
 ·rw [if_neg (by rw [h]; decide)] at hQ
  exact hQ M1 ⟨h1,hh1,by omega⟩ (k1.mono (by simp))
def Di (T TI:Nat) (fv:AV) (lt:aL→aL→Bool) (c:aj) : Prop:=∀ {M:RM} {b s k i j h:Nat} {d:Array aL} {Q:ah},GU T TI b s d k M→s≠b→i<d.size→j<d.size→h<d.size→k≤900 →
 (∀ M',GU T TI b s d (Sort.median lt d i j h k).2 M'→ag [s] M M'→Q (N .i64 (((Sort.median lt d i j h k).1:Nat) : Int)) M')→c [sv b d.size 5,N .i64 (i:Int),N .i64 (j:Int),N .i64 (h:Int),.ptr s 0,fv] M Q
theorem CU {T TI:Nat} {fv:AV} {lt:aL→aL→Bool} {c2:aj} (h2:IC T TI fv lt c2) : Di T TI fv lt fun args M Q=>∃ a0 a1 a2 a3 a4 a5,args=[a0,a1,a2,a3,a4,a5]∧l6 c2 a0 a1 a2 a3 a4 a5 M Q:=by
 intro M b s k i j h d Q hsw hsb hi hj hh hk hQ
 refine ⟨_,_,_,_,_,_,rfl, ?_⟩
 unfold l6
 unfold Sort.median at hQ
 have o1:=pM lt d i j k
 refine h2 hsw hsb hi hj (by omega) fun M1 s1 k1=>?_
 rw [ic,il]
 dsimp only at hQ
 generalize Sort.order2 lt d i j k=r1 at *
 have o2:=pM lt d r1.2.1 h r1.2.2
 refine h2 s1 hsb (by omega) hh (by omega) fun M2 s2 k2=>?_
 rw [ic,il]
 generalize Sort.order2 lt d r1.2.1 h r1.2.2=r2 at *
 refine h2 s2 hsb (by omega) (by omega) (by omega) fun M3 s3 k3=>?_
 rw [ic,il]
 exact hQ M3 s3 ((k1.trans k2).trans k3)
def I5 (T TI:Nat) (fv:AV) (lt:aL→aL→Bool) (c:aj) : Prop:=∀ {M:RM} {b s k i:Nat} {d:Array aL} {Q:ah},GU T TI b s d k M→s≠b→d.size≤60000→1≤i→i + 1<d.size→k≤900 →
 (∀ M',GU T TI b s d (Sort.medianAdjacent lt d i k).2 M'→ag [s] M M'→Q (N .i64 (((Sort.medianAdjacent lt d i k).1:Nat) : Int)) M')→c [sv b d.size 5,N .i64 (i:Int),.ptr s 0,fv] M Q
theorem Ja {T TI:Nat} {fv:AV} {lt:aL→aL→Bool} {cm:aj} (hm:Di T TI fv lt cm) : I5 T TI fv lt fun args M Q=>∃ a0 a1 a2 a3,args=[a0,a1,a2,a3]∧iy cm a0 a1 a2 a3 M Q:=by
 intro M b s k i d Q hsw hsb hsz h1 h2 hk hQ
 refine ⟨_,_,_,_,rfl, ?_⟩
 unfold iy
 rw [bD (by omega) (by omega),add1 (by omega)]
 exact hm hsw hsb (by omega) (by omega) (by omega) hk fun M1 s1 k1=>hQ M1 s1 k1
def Az (lt:aL→aL→Bool) (d:Array aL) (a e:Nat) : Nat × Nat :=
 if e - a ≥ 8 then (if e - a ≥ 50 then Sort.median lt d (Sort.medianAdjacent lt d (a + (e - a) / 4 * 1) 0).1 (Sort.medianAdjacent lt d (a + (e - a) / 4 * 2) (Sort.medianAdjacent lt d (a + (e - a) / 4 * 1) 0).2).1 (Sort.medianAdjacent lt d (a + (e - a) / 4 * 3) (Sort.medianAdjacent lt d (a + (e - a) / 4 * 2) (Sort.medianAdjacent lt d (a + (e - a) / 4 * 1) 0).2).2).1 (Sort.medianAdjacent lt d (a + (e - a) / 4 * 3) (Sort.medianAdjacent lt d (a + (e - a) / 4 * 2) (Sort.medianAdjacent lt d (a + (e - a) / 4 * 1) 0).2).2).2
  else Sort.median lt d (a + (e - a) / 4 * 1) (a + (e - a) / 4 * 2) (a + (e - a) / 4 * 3) 0) else (a + (e - a) / 4 * 2,0)
theorem U4 (lt:aL→aL→Bool) (d:Array aL) (a e:Nat) : Sort.choosePivot lt d a e=((Az lt d a e).1,if (Az lt d a e).2=0 then .increasing else if (Az lt d a e).2=12 then .decreasing else .unknown):=rfl
def IL (T:Nat) (fv:AV) (lt:aL→aL→Bool) (c:aj) : Prop:=∀ {M:RM} {b a e:Nat} {d:Array aL} {Q:ah},At aC T b d M→d.size≤60000→a<e→e≤d.size →
 (∀ M',At aC T b d M'→ag [] M M'→Q (.tup [N .i64 (((Sort.choosePivot lt d a e).1:Nat) : Int),N .i64 (kg (Sort.choosePivot lt d a e).2)]) M')→c [sv b d.size 5,N .i64 (a:Int),N .i64 (e:Int),fv] M Q
theorem Ic {T TI:Nat} {fv:AV} {lt:aL→aL→Bool} {ca cm:aj} (ha:I5 T TI fv lt ca) (hm:Di T TI fv lt cm) : IL T fv lt fun args M Q=>∃ a0 a1 a2 a3,args=[a0,a1,a2,a3]∧jr TI ca cm a0 a1 a2 a3 M Q:=by
 intro M b a e d Q hat hsz hae he hQ
 refine ⟨_,_,_,_,rfl, ?_⟩
 unfold jr
 simp only [bT]
 rw [dK (by omega) (by omega),bi]
 have kk:ag [] M (M.push (.row [N .i64 0] false TI 0)):=(ag.refl _ _).push _
 have sw0:GU T TI b M.next d 0 (M.push (.row [N .i64 0] false TI 0)):=⟨hat.keep kk,RM.aQ _,by simp [RM.push]⟩
 have hsb:M.next≠b:=by have:=hat.lt; omega
 have back:∀ M',ag [M.next] (M.push (.row [N .i64 0] false TI 0)) M'→ag [] M M':=fun M' k=>kk.dB k fun c hc=>.inl (by simp at hc; omega)
 generalize M.push (.row [N .i64 0] false TI 0)=M1 at *
 generalize M.next=s at *
 have hq:∀ (k:Nat) (c:Int),c=(k:Int)→k≤3→∀ (K:AV→Prop),(af .quo (N .i64 ((e - a:Nat) : Int)) (N .i64 4) fun t18=>af .mul t18 (N .i64 c) fun t19=>af .add (N .i64 (a:Int)) t19 K)=K (N .i64 ((a + (e - a) / 4 * k:Nat) : Int)):=fun k c hc hk K=>by
  subst hc
  have hb:(e - a) / 4 * k≤(e - a) * 3:=Nat.mul_le_mul (Nat.div_le_self _ _) hk
  rw [jo,show (4:Int)=((4:Nat) : Int) from rfl,l8,aW (by omega) (by omega),pO,← Int.natCast_mul,aW (by omega) (by omega),addN (by omega)]
  exact propext ⟨fun h=>h.2,fun h=>⟨by decide,h⟩⟩
 rw [hq 1 1 rfl (by omega),hq 2 2 rfl (by omega),hq 3 3 rfl (by omega)]
 rw [U4] at hQ
 have hr:Az lt d a e=Az lt d a e:=rfl
 conv at hr=>rhs; unfold Az
 generalize Az lt d a e=r at *
 refine aZ (fun zs M'=>zs=[N .i64 ((r.1:Nat) : Int)]∧GU T TI b s d r.2 M'∧ag [s] M1 M') ?_ ?_
 ·rintro zs M' ⟨rfl,⟨h3,hh,_⟩,k3⟩
  dsimp only [aa]
  have:=hQ M' h3 (back M' k3)
  rw [az hh rfl,df]
  by_cases h0:r.2=0
  ·rw [show ((r.2:Int) == 0)=true by rw [h0]; rfl,dC]
   rw [if_pos h0] at this
   exact this
  ·rw [show ((r.2:Int) == 0)=false by rw [beq_eq_false_iff_ne]; omega,bF,df]
   rw [if_neg h0] at this
   by_cases h12:r.2=12
   ·rw [show ((r.2:Int) == 12)=true by rw [h12]; rfl,dC]
    rw [if_pos h12] at this
    exact this
   ·rw [show ((r.2:Int) == 12)=false by rw [beq_eq_false_iff_ne]; omega,bF]
    rw [if_neg h12] at this
    exact this
 intro J hJ
 rw [show (8:Int)=((8:Nat) : Int) from rfl,gQ]
 refine aF (fun h8=>?_) (fun h8=>?_)
 ·have h8:e - a ≥ 8:=of_decide_eq_true h8
  rw [if_pos h8] at hr
  refine aZ (fun zs M'=>∃ x y z k:Nat,zs=[N .i64 (x:Int),N .i64 (y:Int),N .i64 (z:Int)]∧GU T TI b s d k M'∧ag [s] M1 M'∧x<d.size∧y<d.size∧z<d.size∧k≤900∧r=Sort.median lt d x y z k) ?_ ?_
  ·rintro zs M' ⟨x,y,z,k,rfl,s3,k3,hx,hy,hz,hk,rfl⟩
   dsimp only [aa]
   exact hm s3 hsb hx hy hz hk fun M4 s4 k4=>hJ _ _ ⟨rfl,s4,k3.trans k4⟩
  intro J0 hJ0
  rw [show (50:Int)=((50:Nat) : Int) from rfl,gQ]
  refine aF (fun h50=>?_) (fun h50=>?_)
  ·have h50:e - a ≥ 50:=of_decide_eq_true h50
   rw [if_pos h50] at hr
   have m1:=rU lt d (i:=a + (e - a) / 4 * 1 - 1) (j:=a + (e - a) / 4 * 1) (h:=a + (e - a) / 4 * 1 + 1) (k:=0) (n:=d.size) (by omega) (by omega) (by omega)
   have r1:(Sort.medianAdjacent lt d (a + (e - a) / 4 * 1) 0).1<d.size∧(Sort.medianAdjacent lt d (a + (e - a) / 4 * 1) 0).2≤0 + 3:=m1
   refine ha sw0 hsb hsz (by omega) (by omega) (by omega) fun M2 s2 k2=>?_
   generalize Sort.medianAdjacent lt d (a + (e - a) / 4 * 1) 0=q1 at *
   have m2:=rU lt d (i:=a + (e - a) / 4 * 2 - 1) (j:=a + (e - a) / 4 * 2) (h:=a + (e - a) / 4 * 2 + 1) (k:=q1.2) (n:=d.size) (by omega) (by omega) (by omega)
   have r2:(Sort.medianAdjacent lt d (a + (e - a) / 4 * 2) q1.2).1<d.size∧(Sort.medianAdjacent lt d (a + (e - a) / 4 * 2) q1.2).2≤q1.2 + 3:=m2
   refine ha s2 hsb hsz (by omega) (by omega) (by omega) fun M3 s3 k3=>?_
   generalize Sort.medianAdjacent lt d (a + (e - a) / 4 * 2) q1.2=q2 at *
   have m3:=rU lt d (i:=a + (e - a) / 4 * 3 - 1) (j:=a + (e - a) / 4 * 3) (h:=a + (e - a) / 4 * 3 + 1) (k:=q2.2) (n:=d.size) (by omega) (by omega) (by omega)
   have r3:(Sort.medianAdjacent lt d (a + (e - a) / 4 * 3) q2.2).1<d.size∧(Sort.medianAdjacent lt d (a + (e - a) / 4 * 3) q2.2).2≤q2.2 + 3:=m3
   refine ha s3 hsb hsz (by omega) (by omega) (by omega) fun M4 s4 k4=>?_
   generalize Sort.medianAdjacent lt d (a + (e - a) / 4 * 3) q2.2=q3 at *
   exact hJ0 _ _ ⟨q1.1,q2.1,q3.1,q3.2,rfl,s4,(k2.trans k3).trans k4,r1.1,r2.1,r3.1,by omega,hr⟩
  ·have h50:¬ e - a ≥ 50:=of_decide_eq_false h50
   rw [if_neg h50] at hr
   exact hJ0 _ _ ⟨_,_,_,0,rfl,sw0,ag.refl _ _,by omega,by omega,by omega,by omega,hr⟩
 ·have h8:¬ e - a ≥ 8:=of_decide_eq_false h8
  rw [if_neg h8] at hr
  subst hr
  exact hJ _ _ ⟨rfl,sw0,ag.refl _ _⟩
def E9 (T:Nat) (fv:AV) (lt:aL→aL→Bool) (c:aj) : Prop:=∀ {M:RM} {b a e:Nat} {d:Array aL} {Q:ah},At aC T b d M→d.size≤60000→a<e→e≤d.size→(∀ M',At aC T b (Sort.partialInsertionSort lt d a e).1 M'→ag [b] M M'→Q (Bo (Sort.partialInsertionSort lt d a e).2) M') →
 c [sv b d.size 5,N .i64 (a:Int),N .i64 (e:Int),fv] M Q
theorem EX {T:Nat} {fv:AV} {lt:aL→aL→Bool} {cv:FuncId→aj} (hl:lM aC lt (bN cv fv)) : E9 T fv lt fun args M Q=>∃ a0 a1 a2 a3,args=[a0,a1,a2,a3]∧fF cv a0 a1 a2 a3 M Q:=by
 intro M b a e d Q hat hsz hae he hQ
 refine ⟨_,_,_,_,rfl, ?_⟩
 unfold fF
 simp only [eD,dN,dQ,bT]
 rw [add1 (by omega)]
 unfold Sort.partialInsertionSort at hQ
 obtain ⟨R,hR⟩ : ∃ R,R=Sort.partialIns lt a e 5 (a + 1) d:=⟨_,rfl⟩
 rw [← hR] at hQ
 refine aG (fun m ys M3=>∃ (i s:Nat) (d3:Array aL),m=s∧s≤5∧ys=[N .i64 (i:Int),N .i64 ((5 - s:Nat) : Int)]∧a + 1≤i∧i≤e∧At aC T b d3 M3∧ag [b] M M3∧d3.size=d.size∧R=Sort.partialIns lt a e s i d3) _ ⟨a + 1,5,d,rfl,by omega,rfl,by omega,by omega,hat,ag.refl _ _,rfl,hR⟩ ?_
 rintro next m ys M3 hnext ⟨i,s,d3,hms,hs5,rfl,hai,hie,h3,k3,hs3,hm⟩
 dsimp only [aa]
 rw [show (5:Int)=((5:Nat) : Int) from rfl,dS]
 refine aF (fun hg=>?_) (fun hg=>?_)
 ·have hg:5 - s<5:=of_decide_eq_true hg
  obtain ⟨s',rfl⟩ : ∃ s',s=s' + 1:=⟨s - 1,by omega⟩
  rw [qV] at hm
  refine aZ (fun zs M'=>∃ (i' : Nat) (d4:Array aL),zs=[N .i64 (i' : Int)]∧a + 1≤i'∧i'≤e∧At aC T b d4 M'∧ag [b] M M'∧d4.size=d.size∧R=Sort.partialIns lt a e s' i' d4) ?_ ?_
  ·rintro zs M' ⟨i',d4,rfl,h1,h2,h4,k4,h5,h6⟩
   dsimp only [aa]
   rw [add1 (by omega)]
   exact hnext _ _ _ (by omega) ⟨i',s',d4,rfl,by omega,by congr 4; omega,h1,h2,h4,k4,h5,h6⟩
  intro J hJ
  obtain ⟨R5,hR5⟩ : ∃ R5,R5=Sort.scanSorted lt d3 e i:=⟨_,rfl⟩
  rw [← hR5] at hm
  refine aG (fun m ys M5=>∃ (j:Nat),m=e - j∧ys=[N .i64 (j:Int)]∧i≤j∧j≤e∧At aC T b d3 M5∧ag [b] M M5∧R5=Sort.scanSorted lt d3 e j) _ ⟨i,rfl,rfl,Nat.le_refl _,hie,h3,k3,hR5⟩ ?_
  rintro next2 m ys M5 hnext2 ⟨j,rfl,rfl,hij,hje,h5,k5,hm5⟩
  dsimp only [aa]
  rw [Sort.scanSorted] at hm5
  rw [dS]
  refine lu (P:=fun M'=>At aC T b d3 M'∧ag [b] M M') (p:=!lt d3[j]! d3[j - 1]!) ⟨h5,k5⟩ (fun hc k hk=>?_) fun M6 ⟨h6,k6⟩=>?_
  ·have hc:j<e:=of_decide_eq_true hc
   rw [h5.rd (z:=5) rfl hs3.symm (by omega),bD (by omega) (by omega),h5.rd (z:=5) rfl hs3.symm (by omega)]
   refine hl.use fun M7 k7=>?_
   rw [bB]
   exact hk M7 ⟨h5.keep k7,k5.trans (k7.mono (cs:=[b]) (by simp))⟩
  refine aF (fun h=>?_) (fun h=>?_)
  ·have hc:j<e:=by
    rw [Bool.and_eq_true] at h
    exact of_decide_eq_true h.1
   rw [if_pos h] at hm5
   rw [add1 (by omega)]
   exact hnext2 _ _ _ (by omega) ⟨j + 1,rfl,rfl,by omega,by omega,h6,k6,hm5⟩
  rw [if_neg (by rw [h]; decide)] at hm5
  subst hm5
  rw [HV]
  refine aF (fun hje2=>?_) (fun hje2=>?_)
  ·rw [if_pos (of_decide_eq_true hje2)] at hm
   rw [hm] at hQ
   exact hQ M6 h6 k6
  have hje2:¬ R5=e:=of_decide_eq_false hje2
  rw [if_neg hje2] at hm
  rw [dK (by omega) (by omega),show (50:Int)=((50:Nat) : Int) from rfl,dS]
  refine aF (fun h50=>?_) (fun h50=>?_)
  ·rw [if_pos (of_decide_eq_true h50)] at hm
   rw [hm] at hQ
   exact hQ M6 h6 k6
  rw [if_neg (of_decide_eq_false h50)] at hm
  rw [bD (by omega) (by omega),bD (by omega) (by omega),h6.rd (z:=5) rfl hs3.symm (by omega),h6.rd (z:=5) rfl hs3.symm (by omega)]
  refine h6.swap (z:=5) rfl hs3.symm (by omega) (by omega) fun M7 h7 k7'=>?_
  have k7:=k6.trans k7'
  have hs6:(Sort.swp d3 R5 (R5 - 1)).size=d.size:=by rw [bS,hs3]
  generalize Sort.swp d3 R5 (R5 - 1)=d6 at *
  refine aZ (fun zs M'=>zs=[]∧At aC T b (if R5 - a ≥ 2 then Sort.shiftDown lt (R5 - 1) d6 else d6) M'∧ag [b] M M') ?_ ?_
  ·rintro zs M8 ⟨rfl,h8,k8⟩
   have hs7:(if R5 - a ≥ 2 then Sort.shiftDown lt (R5 - 1) d6 else d6).size=d.size:=by
    split
    ·rw [tL,hs6]
    ·exact hs6
   generalize (if R5 - a ≥ 2 then Sort.shiftDown lt (R5 - 1) d6 else d6)=d7 at *
   rw [dK (by omega) (by omega),show (2:Int)=((2:Nat) : Int) from rfl,gQ]
   refine aF (fun h2=>?_) (fun h2=>?_)
   ·rw [if_pos (of_decide_eq_true h2)] at hm
    rw [add1 (by omega)]
    obtain ⟨R8,hR8⟩ : ∃ R8,R8=Sort.shiftUp lt e (R5 + 1) d7:=⟨_,rfl⟩
    rw [← hR8] at hm
    refine aG (fun m ys M8=>∃ (j:Nat) (d8:Array aL),m=e - j∧ys=[N .i64 (j:Int)]∧R5 + 1≤j∧j≤e∧At aC T b d8 M8∧ag [b] M M8∧d8.size=d.size∧R8=Sort.shiftUp lt e j d8) _ ⟨R5 + 1,d7,rfl,rfl,Nat.le_refl _,by omega,h8,k8,hs7,hR8⟩ ?_
    rintro next3 m ys M9 hnext3 ⟨j,d8,rfl,rfl,hj1,hj2,h9,k9,hs8',hm8⟩
    dsimp only [aa]
    rw [Sort.shiftUp] at hm8
    rw [dS]
    refine aF (fun hl1=>?_) (fun hl1=>?_)
    ·have hl1:j<e:=of_decide_eq_true hl1
     rw [if_pos hl1] at hm8
     rw [h9.rd (z:=5) rfl hs8'.symm (by omega),bD (by omega) (by omega),h9.rd (z:=5) rfl hs8'.symm (by omega)]
     refine hl.use fun M10 k10'=>?_
     have h10:=h9.keep k10'
     have k10:=k9.trans (k10'.mono (cs:=[b]) (by simp))
     rw [bB]
     refine aF (fun hn=>?_) (fun hn=>?_)
     ·rw [if_pos hn] at hm8
      subst hm8
      exact hJ _ _ ⟨R5,R8,rfl,by omega,by omega,h10,k10,hs8',hm⟩
     ·rw [if_neg (by rw [hn]; decide)] at hm8
      rw [bD (by omega) (by omega),bD (by omega) (by omega),h10.rd (z:=5) rfl hs8'.symm (by omega),h10.rd (z:=5) rfl hs8'.symm (by omega)]
      refine h10.swap (z:=5) rfl hs8'.symm (by omega) (by omega) fun M11 h11 k11=>?_
      rw [add1 (by omega)]
      exact hnext3 _ _ _ (by omega) ⟨j + 1,_,rfl,rfl,by omega,by omega,h11,k10.trans k11,by rw [bS,hs8'],hm8⟩
    ·rw [if_neg (of_decide_eq_false hl1)] at hm8
     subst hm8
     exact hJ _ _ ⟨R5,R8,rfl,by omega,by omega,h9,k9,hs8',hm⟩
   ·rw [if_neg (of_decide_eq_false h2)] at hm
    exact hJ _ _ ⟨R5,d7,rfl,by omega,by omega,h8,k8,hs7,hm⟩
  intro J2 hJ2
  rw [dK (by omega) (by omega),show (2:Int)=((2:Nat) : Int) from rfl,gQ]
  refine aF (fun h2=>?_) (fun h2=>?_)
  ·rw [if_pos (of_decide_eq_true h2)] at hJ2
   rw [bD (by omega) (by omega)]
   obtain ⟨R8,hR8⟩ : ∃ R8,R8=Sort.shiftDown lt (R5 - 1) d6:=⟨_,rfl⟩
   rw [← hR8] at hJ2
   refine aG (fun m ys M8=>∃ (j:Nat) (d8:Array aL),m=j + 1∧ys=[N .i64 (j:Int)]∧j<R5∧At aC T b d8 M8∧ag [b] M M8∧d8.size=d.size∧R8=Sort.shiftDown lt j d8) _ ⟨R5 - 1,d6,rfl,rfl,by omega,h7,k7,hs6,hR8⟩ ?_
   rintro next3 m ys M8 hnext3 ⟨j,d8,rfl,rfl,hj1,h8,k8,hs8',hm8⟩
   dsimp only [aa]
   rw [show (1:Int)=((1:Nat) : Int) from rfl,gQ]
   refine aF (fun hl1=>?_) (fun hl1=>?_)
   ·have hl1:j ≥ 1:=of_decide_eq_true hl1
    obtain ⟨j',rfl⟩ : ∃ j',j=j' + 1:=⟨j - 1,by omega⟩
    rw [Sort.shiftDown] at hm8
    rw [h8.rd (z:=5) rfl hs8'.symm (by omega),dK (by omega) (by omega),Nat.add_sub_cancel,h8.rd (z:=5) rfl hs8'.symm (by omega)]
    refine hl.use fun M10 k10'=>?_
    have h10:=h8.keep k10'
    have k10:=k8.trans (k10'.mono (cs:=[b]) (by simp))
    rw [bB]
    refine aF (fun hn=>?_) (fun hn=>?_)
    ·rw [if_pos hn] at hm8
     subst hm8
     exact hJ2 _ _ ⟨rfl,h10,k10⟩
    ·rw [if_neg (by rw [hn]; decide)] at hm8
     rw [dK (by omega) (by omega),dK (by omega) (by omega),Nat.add_sub_cancel,h10.rd (z:=5) rfl hs8'.symm (by omega),h10.rd (z:=5) rfl hs8'.symm (by omega)]
     refine h10.swap (z:=5) rfl hs8'.symm (by omega) (by omega) fun M11 h11 k11=>?_
     rw [dK (by omega) (by omega),Nat.add_sub_cancel]
     exact hnext3 _ _ _ (by omega) ⟨j',_,rfl,rfl,by omega,h11,k10.trans k11,by rw [bS,hs8'],hm8⟩
   ·have hl1:¬ j ≥ 1:=of_decide_eq_false hl1
    have h0:j=0:=by omega
    subst h0
    rw [Sort.shiftDown] at hm8
    subst hm8
    exact hJ2 _ _ ⟨rfl,h8,k8⟩
  ·rw [if_neg (of_decide_eq_false h2)] at hJ2
   exact hJ2 _ _ ⟨rfl,h7,k7⟩
 ·have hg:¬ 5 - s<5:=of_decide_eq_false hg
  have h0:s=0:=by omega
  subst h0
  rw [Sort.partialIns] at hm
  rw [hm] at hQ
  exact hQ M3 h3 k3
theorem K6 {T TX:Nat} {fv:AV} {cp cx:aj} (hp:LP cp) (hx:QJ TX cx) : SortG aC T 5 fv Sort.breakPatterns (fun _ _ _=>True) fun args M Q=>∃ a0 a1 a2 a3,args=[a0,a1,a2,a3]∧iK TX cp cx a0 a1 a2 a3 M Q:=by
 intro M b a e d Q hat hsz hae he _ hQ
 refine ⟨_,_,_,_,rfl, ?_⟩
 unfold iK
 simp only [bT]
 rw [dK hae (by omega),show (8:Int)=((8:Nat) : Int) from rfl,gQ]
 unfold Sort.breakPatterns at hQ
 refine aF (fun h8=>?_) (fun h8=>?_)
 ·have h8:e - a ≥ 8:=of_decide_eq_true h8
  rw [if_pos h8] at hQ
  have hbl:=sG (x:=e - a) (by omega) (by omega)
  rw [jB,gV (by omega) (by omega),bi]
  have kk:ag [] M (M.push (.row [(N .u64 0)] false TX 0)):=(ag.refl _ _).push _
  have hsb:M.next≠b:=by have:=hat.lt; omega
  have hh0:(M.push (.row [(N .u64 0)] false TX 0)).heap M.next=some (.row [N .u64 0] false TX 0):=RM.aQ _
  have hl64:(UInt64.ofNat (e - a)).toNat=e - a:=by rw [UInt64.toNat_ofNat']; omega
  have hn0:M.next<(M.push (.row [(N .u64 0)] false TX 0)).next:=by simp [RM.push]
  rw [eB hh0 (by simp) rfl rfl]
  have kS:ag [] M ((M.push (.row [(N .u64 0)] false TX 0)).put M.next (.row (([N .u64 0] : List AV).set 0 (N .u64 ((e - a:Nat) : Int))) false TX 0)):=kk.new _ (Nat.le_refl _)
  have hs1:((M.push (.row [(N .u64 0)] false TX 0)).put M.next (.row (([N .u64 0] : List AV).set 0 (N .u64 ((e - a:Nat) : Int))) false TX 0)).heap M.next=some (.row [N .u64 ((UInt64.ofNat (e - a)).toNat:Int)] false TX 0):=by
   rw [aP,hl64]; rfl
  have hn1:M.next<((M.push (.row [(N .u64 0)] false TX 0)).put M.next (.row (([N .u64 0] : List AV).set 0 (N .u64 ((e - a:Nat) : Int))) false TX 0)).next:=hn0
  generalize (M.push (.row [(N .u64 0)] false TX 0)).put M.next (.row (([N .u64 0] : List AV).set 0 (N .u64 ((e - a:Nat) : Int))) false TX 0)=M1 at *
  have hat1:=hat.keep kS
  have back:∀ M',ag [b,M.next] M1 M'→ag [b] M M':=fun M' k=>(kS.mono (cs:=[b]) (by simp)).dB k fun c hc=>by simp at hc; rcases hc with h | h <;> simp [h]
  generalize M.next=s at *
  refine hp (by omega) (by omega) ?_
  have hq:∀ (c:Int),c=((2:Nat) : Int)→∀ (K:AV→Prop),(af .quo (N .i64 ((e - a:Nat) : Int)) (N .i64 4) fun t18=>af .mul t18 (N .i64 c) fun t19=>af .add (N .i64 (a:Int)) t19 K)=K (N .i64 ((a + (e - a) / 4 * 2:Nat) : Int)):=fun c hc K=>by
   subst hc
   rw [jo,show (4:Int)=((4:Nat) : Int) from rfl,l8,aW (by omega) (by omega),pO,← Int.natCast_mul,aW (by omega) (by omega),addN (by omega)]
   exact propext ⟨fun h=>h.2,fun h=>⟨by decide,h⟩⟩
  rw [hq 2 rfl,bD (by omega) (by omega)]
  have hst3:(Sort.breakStep a (e - a) (1 <<< Sort.bitsLen (e - a)) (Sort.breakStep a (e - a) (1 <<< Sort.bitsLen (e - a)) (Sort.breakStep a (e - a) (1 <<< Sort.bitsLen (e - a)) (UInt64.ofNat (e - a),d) (a + (e - a) / 4 * 2 - 1)) (a + (e - a) / 4 * 2 - 1 + 1)) (a + (e - a) / 4 * 2 - 1 + 2)).2=(oL a (e - a) (2 ^ Sort.bitsLen (e - a)) (a + (e - a) / 4 * 2 - 1) d 3).2:=by
   rw [Nat.shiftLeft_eq,Nat.one_mul]; rfl
  have hQ:∀ M',At aC T b (oL a (e - a) (2 ^ Sort.bitsLen (e - a)) (a + (e - a) / 4 * 2 - 1) d 3).2 M'→ag [b] M M'→Q (.tup []) M':=fun M' h k=>hQ M' (by rw [hst3]; exact h) k
  generalize hmd:2 ^ Sort.bitsLen (e - a)=md at *
  generalize hi0:a + (e - a) / 4 * 2 - 1=i0 at *
  refine aG (fun m ys M3=>∃ (k:Nat),m=3 - k∧k≤3∧ys=[N .i64 ((i0 + k:Nat) : Int)]∧At aC T b (oL a (e - a) md i0 d k).2 M3∧M3.heap s=some (.row [N .u64 ((oL a (e - a) md i0 d k).1.toNat:Int)] false TX 0)∧s<M3.next∧ag [b,s] M1 M3) _ ⟨0,rfl,by omega,rfl,hat1,hs1,hn1,ag.refl _ _⟩ ?_
  rintro next m ys M3 hnext ⟨k,rfl,hk,rfl,h3,hh3,hn3,k3⟩
  dsimp only [aa]
  have hsk:=KS a (e - a) md i0 d k
  have hnx' : oL a (e - a) md i0 d (k + 1)=Sort.breakStep a (e - a) md (oL a (e - a) md i0 d k) (i0 + k):=rfl
  generalize hstk:oL a (e - a) md i0 d k=st at *
  rw [hq 2 rfl,add1 (by omega),jG]
  refine aF (fun hg=>?_) (fun hg=>?_)
  ·have hg:i0 + k≤a + (e - a) / 4 * 2 + 1:=of_decide_eq_true hg
   refine aZ (fun zs M'=>At aC T b (oL a (e - a) md i0 d (k + 1)).2 M'∧M'.heap s=some (.row [N .u64 ((oL a (e - a) md i0 d (k + 1)).1.toNat:Int)] false TX 0)∧s<M'.next∧ag [b,s] M1 M') ?_ ?_
   ·rintro zs M' ⟨c1,c2,c3,c4⟩
    rw [add1 (by omega)]
    exact hnext _ _ _ (by omega) ⟨k + 1,rfl,by omega,rfl,c1,c2,c3,c4⟩
   intro J hJ
   refine hx hh3 hn3 fun M4 hh4 k4 n4=>?_
   have h4:=h3.keep' k4 (by simp; omega)
   rw [hnx'] at hJ
   unfold Sort.breakStep at hJ
   dsimp only at hJ
   generalize Sort.xorNext st.1=r at *
   rw [fJ,gV (by omega) (by omega),show (md:Int) - 1=((md - 1:Nat) : Int) by omega,Aj,EL rfl]
   have hlt:r.toNat &&& (md - 1)<md:=by
    rw [← hmd,Nat.and_two_pow_sub_one_eq_mod]
    exact Nat.mod_lt _ (by rw [hmd]; omega)
   rw [Nat.mod_eq_of_lt (show r.toNat &&& (md - 1)<2 ^ uX .u64 by show _<2 ^ 64; omega)]
   generalize r.toNat &&& (md - 1)=o at *
   rw [jB,aW (by omega) (by omega)]
   refine aZ (fun zs M'=>zs=[N .i64 (((if o ≥ e - a then o - (e - a) else o) : Nat) : Int)]∧M'=M4) ?_ ?_
   ·rintro zs M' ⟨rfl,rfl⟩
    dsimp only [aa]
    have ho:(if o ≥ e - a then o - (e - a) else o)<e - a:=by split <;> omega
    generalize (if o ≥ e - a then o - (e - a) else o)=o2 at *
    rw [addN (by omega),addN (by omega),h4.rd (z:=5) rfl hsk.symm (by omega),h4.rd (z:=5) rfl hsk.symm (by omega)]
    refine h4.swap (z:=5) rfl hsk.symm (by omega) (by omega) fun M5 h5 k5=>?_
    exact hJ _ _ ⟨h5,k5.aK hh4 (by omega) (by simp; omega),by have:=k5.next; omega,(k3.trans (k4.mono (cs:=[b,s]) (by simp))).trans (k5.mono (cs:=[b,s]) (by simp))⟩
   intro J4 hJ4
   rw [gQ]
   refine aF (fun hg2=>?_) (fun hg2=>?_)
   ·have hg2:o ≥ e - a:=of_decide_eq_true hg2
    rw [dK (by omega) (by omega)]
    exact hJ4 _ _ ⟨by rw [if_pos hg2],rfl⟩
   ·exact hJ4 _ _ ⟨by rw [if_neg (of_decide_eq_false hg2)],rfl⟩
  ·have hg:¬ i0 + k≤a + (e - a) / 4 * 2 + 1:=of_decide_eq_false hg
   have hk3:k=3:=by omega
   subst hk3
   rw [hstk] at hQ
   exact hQ M3 h3 (back M3 k3)
 ·rw [if_neg (of_decide_eq_false h8)] at hQ
  exact hQ M hat (ag.refl _ _)
def Qr (T m:Nat) (fv:AV) (lt:aL→aL→Bool) (c:aj) : Prop:=∀ {M:RM} {b a e limit:Nat} {d:Array aL} {Q:ah},At aC T b d M→d.size≤60000→a≤e→e≤d.size→e - a<m→limit≤1000000→(∀ M',At aC T b (Sort.pdq lt d a e limit true true) M'→ag [b] M M'→Q (.tup []) M') →
 c [sv b d.size 5,N .i64 (a:Int),N .i64 (e:Int),N .i64 (limit:Int),fv] M Q
theorem O0 {T m:Nat} {fv:AV} {lt:aL→aL→Bool} {cv:FuncId→aj} {ci ch cb cc cr cp ce ct cq:aj} (hlt:Sort.SWO lt) (hi:SortG aC T 5 fv (Sort.insertionSort lt) (fun _ _ _=>True) ci) (hh:SortG aC T 5 fv (Sort.heapSort lt) (fun _ a e=>a<e) ch) (hb:SortG aC T 5 fv Sort.breakPatterns (fun _ _ _=>True) cb) (hc:IL T fv lt cc) (hr:SortG aC T 5 fv Sort.reverseRange (fun _ a e=>a<e) cr)
  (hp:E9 T fv lt cp) (hl:lM aC lt (bN cv fv)) (he:I4 T fv lt ce) (ht:QN T fv lt ct) (hq:Qr T m fv lt cq) : Qr T (m + 1) fv lt fun args M Q=>∃ a0 a1 a2 a3 a4,args=[a0,a1,a2,a3,a4]∧fU ci ch cb cc cr cp cv ce ct cq a0 a1 a2 a3 a4 M Q:=by
 intro M b a e limit d Q hat hsz hae hed hm hlim hQ
 refine ⟨_,_,_,_,_,rfl, ?_⟩
 unfold fU
 simp only [eD,dN,dQ,bT]
 obtain ⟨R,hR⟩ : ∃ R,R=Sort.pdq lt d a e limit true true:=⟨_,rfl⟩
 rw [← hR] at hQ
 refine aG (fun m' ys M3=>∃ (a e limit:Nat) (wb wp:Bool) (d3:Array aL),m'=e - a∧ys=[N .i64 (a:Int),N .i64 (e:Int),N .i64 (limit:Int),Bo wb,Bo wp]∧a≤e∧e≤d.size∧e - a<m + 1∧limit≤1000000∧At aC T b d3 M3∧ag [b] M M3∧d3.size=d.size∧R=Sort.pdq lt d3 a e limit wb wp) _
  ⟨a,e,limit,true,true,d,rfl,rfl,hae,hed,hm,hlim,hat,ag.refl _ _,rfl,hR⟩ ?_
 clear hR hae hed hm hlim
 rintro next m' ys M4 hnext ⟨a,e,limit,wb,wp,d3,rfl,rfl,hae,hed,hm,hlim,h4,k4,hs3,hR⟩
 dsimp only [aa]
 rw [vJ] at hR
 rw [dK hae (by omega),show (12:Int)=((12:Nat) : Int) from rfl,jG]
 refine aF (fun hg=>?_) (fun hg=>?_)
 ·rw [if_pos (of_decide_eq_true hg)] at hR
  rw [← hs3]
  refine hi h4 (by omega) hae (by omega) trivial fun M5 h5 k5=>?_
  rw [← hR] at h5
  exact hQ M5 h5 (k4.trans k5)
 have hg:¬ e - a≤12:=of_decide_eq_false hg
 rw [if_neg hg] at hR
 rw [show (0:Int)=((0:Nat) : Int) from rfl,HV]
 refine aF (fun hg0=>?_) (fun hg0=>?_)
 ·rw [if_pos (of_decide_eq_true hg0)] at hR
  rw [← hs3]
  refine hh h4 (by omega) hae (by omega) (by omega) fun M5 h5 k5=>?_
  rw [← hR] at h5
  exact hQ M5 h5 (k4.trans k5)
 have hg0:¬ limit=0:=of_decide_eq_false hg0
 rw [if_neg hg0] at hR
 refine aZ (fun zs M'=>zs=[N .i64 (((if !wb then limit - 1 else limit) : Nat) : Int)]∧At aC T b (if !wb then Sort.breakPatterns d3 a e else d3) M'∧ag [b] M M') ?_ ?_
 ·rintro zs M5 ⟨rfl,h5,k5⟩
  dsimp only [aa]
  have hs5:(if !wb then Sort.breakPatterns d3 a e else d3).size=d.size:=by
   split
   ·rw [Jd,hs3]
   ·exact hs3
  have hl5:(if !wb then limit - 1 else limit)≤1000000:=by split <;> omega
  generalize (if !wb then Sort.breakPatterns d3 a e else d3)=d5 at *
  generalize (if !wb then limit - 1 else limit)=lim at *
  rw [← hs5]
  refine hc h5 (by omega) (by omega) (by omega) fun M6 h6 k6=>?_
  rw [hs5]
  have hcr:=Sort.choosePivot_holds lt d5 a e (by omega)
  unfold gA at hR
  generalize Sort.choosePivot lt d5 a e=cpv at *
  have k6':=k5.trans (k6.mono (cs:=[b]) (by simp))
  rw [ic,il]
  refine aZ (fun zs M'=>zs=[N .i64 (((if cpv.2=.decreasing then (e - 1) - (cpv.1 - a) else cpv.1) : Nat) : Int),N .i64 (kg (if cpv.2=.decreasing then .increasing else cpv.2))]∧At aC T b (if cpv.2=.decreasing then Sort.reverseRange d5 a e else d5) M'∧ag [b] M M') ?_ ?_
  ·rintro zs M7 ⟨rfl,h7,k7⟩
   dsimp only [aa]
   have hs7:(if cpv.2=.decreasing then Sort.reverseRange d5 a e else d5).size=d.size:=by
    split
    ·rw [Qy,hs5]
    ·exact hs5
   have hpv:a≤(if cpv.2=.decreasing then (e - 1) - (cpv.1 - a) else cpv.1)∧(if cpv.2=.decreasing then (e - 1) - (cpv.1 - a) else cpv.1)<e:=by
    split <;> omega
   generalize (if cpv.2=.decreasing then Sort.reverseRange d5 a e else d5)=d7 at *
   generalize (if cpv.2=.decreasing then (e - 1) - (cpv.1 - a) else cpv.1)=pv at *
   generalize (if cpv.2=.decreasing then Sort.Hint.increasing else cpv.2)=hint at *
   unfold gB gP at hR
   refine aZ (fun zs M'=>∃ d8:Array aL,At aC T b d8 M'∧ag [b] M M'∧d8.size=d.size∧R=gC lt d8 a e pv lim wb wp) ?_ ?_
   ·rintro zs M8 ⟨d8,h8,k8,hs8,hR8⟩
    unfold gC at hR8
    rw [nz]
    refine lu (P:=fun M'=>At aC T b d8 M'∧ag [b] M M') (p:=!lt d8[a - 1]! d8[pv]!) ⟨h8,k8⟩ (fun hc k hk=>?_) fun M9 ⟨h9,k9⟩=>?_
    ·have hc:a > 0:=of_decide_eq_true hc
     rw [bD (by omega) (by omega),h8.rd (z:=5) rfl hs8.symm (by omega),h8.rd (z:=5) rfl hs8.symm (by omega)]
     refine hl.use fun M10 k10=>?_
     rw [bB]
     exact hk M10 ⟨h8.keep k10,k8.trans (k10.mono (cs:=[b]) (by simp))⟩
    refine aF (fun h=>?_) (fun h=>?_)
    ·rw [if_pos h] at hR8
     rw [← hs8]
     have hE:=Il lt d8 a e pv (by omega)
     refine he h9 (by omega) hpv.1 hpv.2 (by omega) fun M10 h10 k10=>?_
     generalize Sort.partitionEqual lt d8 a e pv=pe at *
     dsimp only at hR8
     rw [dif_pos ⟨hE.2.1,hE.2.2⟩] at hR8
     exact hnext _ _ _ (by omega) ⟨pe.1,e,lim,wb,wp,pe.2,rfl,rfl,hE.2.2,hed,by omega,hl5,h10,k9.trans k10,by rw [hE.1,hs8],hR8⟩
    ·rw [if_neg (by rw [h]; decide)] at hR8
     rw [← hs8]
     have hT:=Sort.partition_holds lt hlt d8 a e pv hpv.1 hpv.2 (by omega)
     have hTs:=KY lt d8 a e pv
     refine ht h9 (by omega) hpv.1 hpv.2 (by omega) fun M10 h10 k10=>?_
     have k10':=k9.trans k10
     generalize Sort.partition lt d8 a e pv=pp at *
     obtain ⟨mid,ap,d9⟩:=pp
     dsimp only at hR8 hT hTs h10 ⊢
     rw [dif_pos ⟨hT.1,hT.2.1⟩] at hR8
     have hT1:=hT.1
     have hT2:=hT.2.1
     rw [ic,il,dK hT1 (by omega),dK (by omega) (by omega),jo]
     refine ⟨by decide, ?_⟩
     rw [show (8:Int)=((8:Nat) : Int) from rfl,l8,aW (by omega) (by omega),dS]
     refine aF (fun hc1=>?_) (fun hc1=>?_)
     ·have hc1:mid - a<e - mid:=of_decide_eq_true hc1
      rw [if_pos hc1] at hR8
      rw [gQ,← hTs]
      refine hq h10 (by omega) hT1 (by omega) (by omega) hl5 fun M11 h11 k11=>?_
      rw [add1 (by omega)]
      exact hnext _ _ _ (by omega) ⟨mid + 1,e,lim,_,ap,_,rfl,rfl,by omega,hed,by omega,hl5,h11,k10'.trans k11,by rw [uQ lt _ _ _ _ _ _ _ (Nat.le_refl _),hTs,hs8],hR8⟩
     ·have hc1:¬ mid - a<e - mid:=of_decide_eq_false hc1
      rw [if_neg hc1] at hR8
      rw [gQ,add1 (by omega),← hTs]
      refine hq h10 (by omega) (by omega) (by omega) (by omega) hl5 fun M11 h11 k11=>?_
      exact hnext _ _ _ (by omega) ⟨a,mid,lim,_,ap,_,rfl,rfl,hT1,by omega,by omega,hl5,h11,k10'.trans k11,by rw [uQ lt _ _ _ _ _ _ _ (Nat.le_refl _),hTs,hs8],hR8⟩
   intro J10 hJ10
   have no:¬ (wb && wp && decide (hint=.increasing))=true→J10 [] M7:=fun hn=>by
    have hpi:(if (wb && wp && decide (hint=.increasing))=true then Sort.partialInsertionSort lt d7 a e else (d7,false))=(d7,false):=if_neg hn
    rw [hpi] at hR
    exact hJ10 _ _ ⟨d7,h7,k7,hs7,hR⟩
   cases wb with
   | false =>
     rw [bL]
     dsimp only
     rw [dz,bL]
     dsimp only
     rw [bL]
     dsimp only
     rw [dz,bF]
     exact no (by simp)
   | true =>
     rw [cz]
     dsimp only
     rw [dO]
     cases wp with
     | false =>
       rw [bL]
       dsimp only
       rw [bL]
       dsimp only
       rw [dz,bF]
       exact no (by simp)
     | true =>
       rw [cz]
       dsimp only
       rw [cz]
       dsimp only
       rw [df,dO]
       by_cases hin:hint=.increasing
       ·rw [show (kg hint == 1)=true by rw [hin]; rfl,dC]
        have hpi:(if (true && true && decide (hint=.increasing))=true then Sort.partialInsertionSort lt d7 a e else (d7,false))=Sort.partialInsertionSort lt d7 a e:=if_pos (by simp [hin])
        rw [hpi] at hR
        rw [← hs7]
        have hs8:(Sort.partialInsertionSort lt d7 a e).1.size=d.size:=by
         rw [Sort.partialInsertionSort,xD,hs7]
        refine hp h7 (by omega) (by omega) (by omega) fun M8 h8 k8=>?_
        generalize Sort.partialInsertionSort lt d7 a e=pi at *
        refine aF (fun h=>?_) (fun h=>?_)
        ·rw [if_pos h] at hR
         rw [← hR] at h8
         exact hQ M8 h8 (k7.trans k8)
        ·rw [if_neg (by rw [h]; decide)] at hR
         exact hJ10 _ _ ⟨pi.1,h8,k7.trans k8,hs8,hR⟩
       ·rw [show (kg hint == 1)=false by cases hint <;> first | rfl | exact absurd rfl hin,bF]
        exact no (by simp [hin])
  intro J6 hJ6
  rw [df]
  by_cases hdec:cpv.2=.decreasing
  ·rw [show (kg cpv.2 == 2)=true by rw [hdec]; rfl,dC,← hs5]
   refine hr h6 (by omega) hae (by omega) (by omega) fun M7 h7 k7=>?_
   rw [bD (by omega) (by omega),dK (by omega) (by omega),dK (by omega) (by omega)]
   exact hJ6 _ _ ⟨by rw [if_pos hdec,if_pos hdec]; rfl,by rw [if_pos hdec]; exact h7,k6'.trans k7⟩
  ·rw [show (kg cpv.2 == 2)=false by cases h:cpv.2 <;> first | rfl | exact absurd h hdec,bF]
   exact hJ6 _ _ ⟨by rw [if_neg hdec,if_neg hdec],by rw [if_neg hdec]; exact h6,k6'⟩
 intro J hJ
 rw [bB]
 cases wb with
 | true =>
   rw [Bool.not_true,bF]
   exact hJ _ _ ⟨rfl,h4,k4⟩
 | false =>
   rw [Bool.not_false,dC,← hs3]
   refine hb h4 (by omega) hae (by omega) trivial fun M5 h5 k5=>?_
   rw [bD (by omega) (by omega)]
   exact hJ _ _ ⟨rfl,h5,k4.trans k5⟩
def IB (c:aj) : Prop:=∀ {M:RM} {v fv:AV} {Q:ah},Q (.tup []) M→c [v,N .i64 0,N .i64 ((0:Nat) : Int),fv] M Q
theorem Jh {cv:FuncId→aj} : IB fun args M Q=>∃ a0 a1 a2 a3,args=[a0,a1,a2,a3]∧eH cv a0 a1 a2 a3 M Q:=by
 intro M v fv Q hQ
 refine ⟨_,_,_,_,rfl, ?_⟩
 unfold eH
 rw [dm,show IntKind.i64.wrap ((0:Int) + 1)=1 from rfl]
 refine aG (fun m ys M3=>m=0∧ys=[N .i64 1]∧M3=M) 0 ⟨rfl,rfl,rfl⟩ ?_
 rintro next m ys M3 hnext ⟨rfl,rfl,rfl⟩
 dsimp only [aa]
 rw [dF,show decide ((1:Int)<((0:Nat) : Int))=false from rfl,bF]
 exact hQ
def IV (c:aj) : Prop:=∀ {M:RM} {v fv:AV} {Q:ah},Q (.tup []) M→c [v,N .i64 0,N .i64 ((0:Nat) : Int),N .i64 ((0:Nat) : Int),fv] M Q
theorem Hf {cv:FuncId→aj} {ci c2 c3 cc c4 cp c6 c7 c8:aj} (hi:IB ci) : IV fun args M Q=>∃ a0 a1 a2 a3 a4,args=[a0,a1,a2,a3,a4]∧fU ci c2 c3 cc c4 cp cv c6 c7 c8 a0 a1 a2 a3 a4 M Q:=by
 intro M v fv Q hQ
 refine ⟨_,_,_,_,_,rfl, ?_⟩
 unfold fU
 refine aG (fun m ys M3=>m=0∧ys=[N .i64 0,N .i64 ((0:Nat) : Int),N .i64 ((0:Nat) : Int),Bo true,Bo true]∧M3=M) 0 ⟨rfl,rfl,rfl⟩ ?_
 rintro next m ys M3 hnext ⟨rfl,rfl,rfl⟩
 dsimp only [aa]
 rw [fJ,show IntKind.i64.wrap (((0:Nat) : Int) - 0)=0 from rfl,jT,show decide ((0:Int)≤12)=true from rfl,dC]
 exact hi hQ
def mD (lt:aL→aL→Bool) (xs:List aL) : List aL:=(Sort.sort lt xs.toArray).toList
theorem Rh (lt:aL→aL→Bool) : mD lt []=[]:=by
 unfold mD Sort.sort
 rw [vJ,if_pos (by simp),Sort.insertionSort,Sort.insOuter,if_neg (by simp)]
theorem kZ {lt:aL→aL→Bool} (hlt:Sort.SWO lt) (xs:List aL) : (mD lt xs).Perm xs:=by
 have h:=(Sort.sort_sorts lt hlt xs.toArray).1
 have h2:=h.2.2
 rw [Array.extract_eq_self_of_le (by rw [h.1]; exact Nat.le_refl _),Array.extract_eq_self_of_le (Nat.le_refl _)] at h2
 exact h2
theorem LM {lt:aL→aL→Bool} (hlt:Sort.SWO lt) (xs:List aL) : (mD lt xs).Pairwise fun x y=>lt y x=false:=by
 rw [List.pairwise_iff_getElem]
 intro i j hi hj hij
 have h:=(Sort.sort_sorts lt hlt xs.toArray)
 have hs:(Sort.sort lt xs.toArray).size=xs.toArray.size:=h.1.1
 unfold mD at hi hj ⊢
 rw [Array.length_toList] at hi hj
 have:=h.2 i j (Nat.zero_le _) hij (by omega)
 rw [Cj hj,Cj hi] at this
 rw [Array.getElem_toList,Array.getElem_toList]
 exact this
def Du (fv:AV) (lt:aL→aL→Bool) (T:Nat) (c:aj) : Prop:=∀ {M:RM} {base:Nat} {v:AV} {xs:List aL} {Q:ah},Ow aC M base T v xs→xs.length≤60000→(∀ M',Ow aC M' base T v (mD lt xs)→ag (aH v) M M'→Q (.tup []) M')→c [v,fv] M Q
theorem VS {T:Nat} {fv:AV} {lt:aL→aL→Bool} {cl cp:aj} (hlt:Sort.SWO lt) (hl:Aw cl) (hp:∀ m,Qr T m fv lt cp) (h0:IV cp) : Du fv lt T fun args M Q=>∃ a0 a1,args=[a0,a1]∧pW cl cp a0 a1 M Q:=by
 intro M base v xs Q ho hx hQ
 have hs:Sl aC M v xs:=ho.lG
 refine ⟨_,_,rfl, ?_⟩
 unfold pW
 rw [aN.len hs,jB,gV (by omega) (by omega)]
 refine hl (by omega) ?_
 rcases Nat.eq_zero_or_pos xs.length with hn | hn
 ·rw [hn,show Sort.bitsLen 0=0 from rfl]
  refine h0 ?_
  have:=List.length_eq_zero_iff.1 hn
  subst this
  exact hQ M (by rw [Rh]; exact ho) (ag.refl _ _)
 ·obtain ⟨b,rfl,h1,h2,h3,h4⟩:=Own.vO ho hn
  have hb:=sG hn (by omega)
  have hsz:xs.toArray.size=xs.length:=by simp
  have hat:At aC T b xs.toArray M:=⟨by rw [h3],h2⟩
  have hsl:(mD lt xs).length=xs.length:=(kZ hlt xs).length_eq
  have:=hp (xs.length + 1) (M:=M) (b:=b) (a:=0) (e:=xs.toArray.size) (limit:=Sort.bitsLen xs.length) (d:=xs.toArray) (Q:=fun bV M_0=>Q (.tup []) M_0) hat (by omega) (by omega) (Nat.le_refl _) (by omega) (by omega) fun M' h' k'=>?_
  ·have e5:aC.size=5:=rfl
   rw [e5]
   simpa using this
  ·have e:(Sort.pdq lt xs.toArray 0 xs.toArray.size (Sort.bitsLen xs.length) true true)=Sort.sort lt xs.toArray:=by rw [Sort.sort]; simp
   rw [e] at h'
   refine hQ _ ?_ (by simpa [aH] using k')
   have hlast:Own M' base T 5 (.slc b 0 xs.length (.op 5)) (aC.row (mD lt xs)) xs.length:=.op _ _ _ h1 h'.lt h'.heap (by rw [Enc.eG,hsl]; rfl)
   show Own M' base T 5 (.slc b 0 xs.length (.op 5)) (aC.row (mD lt xs)) (mD lt xs).length
   rw [hsl]; exact hlast
end Go.Ab.Crw
set_option maxRecDepth 10000
set_option linter.unusedVariables false
set_option linter.unusedSimpArgs false
namespace Go.Ab.Crw
open Go Go.Ab Go.Ab.ak
theorem UT {T:Nat} {fv:AV} {lt:Go.Ab.ak.ak→Go.Ab.ak.ak→Bool} {cv:FuncId→aj} (hl:lM aR lt (bN cv fv)) : SortG aR T 2 fv (Sort.insertionSort lt) (fun _ _ _=>True) fun args M Q=>∃ a0 a1 a2 a3,args=[a0,a1,a2,a3]∧eX cv a0 a1 a2 a3 M Q:=by
 intro M b a e d Q hat hsz hae he _ hQ
 refine ⟨_,_,_,_,rfl, ?_⟩
 unfold eX
 simp only [eD,dN,dQ]
 rw [add1 (by omega)]
 rw [Sort.insertionSort] at hQ
 obtain ⟨R,hR⟩ : ∃ R,R=Sort.insOuter lt a e (a + 1) d:=⟨_,rfl⟩
 rw [← hR] at hQ
 refine aG (fun m ys M3=>∃ (i:Nat) (d3:Array Go.Ab.ak.ak),m=d.size - i∧ys=[N .i64 (i:Int)]∧i≤d.size + 1∧At aR T b d3 M3∧ag [b] M M3∧d3.size=d.size∧R=Sort.insOuter lt a e i d3) _ ⟨a + 1,d,rfl,rfl,by omega,hat,ag.refl _ _,rfl,hR⟩ ?_
 rintro next m ys M3 hnext ⟨i,d3,rfl,rfl,hi,h3,k3,hs3,hm⟩
 dsimp only [aa]
 rw [dS]
 refine aF (fun hlt=>?_) (fun hge=>?_)
 ·have hlt:i<e:=of_decide_eq_true hlt
  rw [Sort.insOuter,if_pos hlt] at hm
  obtain ⟨R5,hR5⟩ : ∃ R5,R5=Sort.insInner lt a i d3:=⟨_,rfl⟩
  rw [← hR5] at hm
  refine aG (fun m ys M5=>∃ (j:Nat) (d5:Array Go.Ab.ak.ak),m=j + 1∧ys=[N .i64 (j:Int)]∧j≤i∧At aR T b d5 M5∧ag [b] M M5∧d5.size=d.size∧R5=Sort.insInner lt a j d5) _ ⟨i,d3,rfl,rfl,Nat.le_refl _,h3,k3,hs3,hR5⟩ ?_
  rintro next2 m ys M5 hnext2 ⟨j,d5,rfl,rfl,hj,h5,k5,hs5,hm5⟩
  dsimp only [aa]
  rw [nz]
  have out:∀ M6,At aR T b d5 M6→ag [b] M M6→Sort.insInner lt a j d5=d5→af .add (N .i64 (i:Int)) (N .i64 1) (fun t14=>next [t14] M6):=fun M6 h6 k6 h=>by
   rw [add1 (by omega)]
   refine hnext _ _ _ (by omega) ⟨i + 1,d5,rfl,rfl,by omega,h6,k6,hs5, ?_⟩
   rw [hm,hm5,h]
  by_cases hg:j > a
  ·obtain ⟨k,rfl⟩ : ∃ k,j=k + 1:=⟨j - 1,by omega⟩
   rw [decide_eq_true hg,jN]
   dsimp only
   rw [h5.rd (z:=2) rfl hs5.symm (by omega),bD (by omega) (by omega),Nat.add_sub_cancel,h5.rd (z:=2) rfl hs5.symm (by omega)]
   refine hl.use fun M6 k6=>?_
   have h6:=h5.keep k6
   have k6':=k5.trans (k6.mono (cs:=[b]) (by simp))
   rw [dO]
   rw [Sort.insInner] at hm5 out
   refine aF (fun h=>?_) (fun h=>?_)
   ·rw [if_pos (by simp [hg,h])] at hm5
    rw [bD (by omega) (by omega),bD (by omega) (by omega),Nat.add_sub_cancel,h6.rd (z:=2) rfl hs5.symm (by omega),h6.rd (z:=2) rfl hs5.symm (by omega)]
    refine h6.swap (z:=2) rfl hs5.symm (by omega) (by omega) fun M7 h7 k7=>?_
    rw [bD (by omega) (by omega),Nat.add_sub_cancel]
    exact hnext2 _ _ _ (by omega) ⟨k,_,rfl,rfl,by omega,h7,k6'.trans k7,by rw [bS]; exact hs5,hm5⟩
   ·exact out M6 h6 k6' (by rw [if_neg (by simp [h])])
  ·rw [decide_eq_false hg,ny]
   dsimp only
   rw [dz,bF]
   refine out M5 h5 k5 ?_
   cases j with
   | zero=>rfl
   | succ k=>rw [Sort.insInner,if_neg (by simp [hg])]
 ·have hge:¬ i<e:=of_decide_eq_false hge
  rw [Sort.insOuter,if_neg hge] at hm
  subst hm
  exact hQ M3 h3 k3
theorem Vi {T:Nat} {fv:AV} : SortG aR T 2 fv Sort.reverseRange (fun _ a e=>a<e) fun args M Q=>∃ a0 a1 a2 a3,args=[a0,a1,a2,a3]∧jJ a0 a1 a2 a3 M Q:=by
 intro M b a e d Q hat hsz hae he hP hQ
 refine ⟨_,_,_,_,rfl, ?_⟩
 unfold jJ
 rw [bD (by omega) (by omega)]
 rw [Sort.reverseRange] at hQ
 obtain ⟨R,hR⟩ : ∃ R,R=Sort.reverseLoop a (e - 1) d:=⟨_,rfl⟩
 rw [← hR] at hQ
 refine aG (fun m ys M3=>∃ (i j:Nat) (d3:Array Go.Ab.ak.ak),m=j - i∧ys=[N .i64 (i:Int),N .i64 (j:Int)]∧j<d.size∧i≤d.size∧At aR T b d3 M3∧ag [b] M M3∧d3.size=d.size∧R=Sort.reverseLoop i j d3) _ ⟨a,e - 1,d,rfl,rfl,by omega,by omega,hat,ag.refl _ _,rfl,hR⟩ ?_
 rintro next m ys M3 hnext ⟨i,j,d3,rfl,rfl,hj,hi,h3,k3,hs3,hm⟩
 dsimp only [aa]
 rw [dS]
 rw [Sort.reverseLoop] at hm
 refine aF (fun hlt=>?_) (fun hge=>?_)
 ·have hlt:i<j:=of_decide_eq_true hlt
  rw [if_pos hlt] at hm
  rw [h3.rd (z:=2) rfl hs3.symm (by omega),h3.rd (z:=2) rfl hs3.symm (by omega)]
  refine h3.swap (z:=2) rfl hs3.symm (by omega) (by omega) fun M4 h4 k4=>?_
  rw [add1 (by omega),bD (by omega) (by omega)]
  exact hnext _ _ _ (by omega) ⟨i + 1,j - 1,_,rfl,rfl,by omega,by omega,h4,k3.trans k4,by rw [bS]; exact hs3,hm⟩
 ·have hge:¬ i<j:=of_decide_eq_false hge
  rw [if_neg hge] at hm
  subst hm
  exact hQ M3 h3 k3
def Qm (T:Nat) (fv:AV) (lt:Go.Ab.ak.ak→Go.Ab.ak.ak→Bool) (c:aj) : Prop:=∀ {M:RM} {b lo hi first:Nat} {d:Array Go.Ab.ak.ak} {Q:ah},At aR T b d M→d.size≤60000→first + hi≤d.size→lo≤1000000→(∀ M',At aR T b (Sort.siftDown lt hi first lo d) M'→ag [b] M M'→Q (.tup []) M') →
 c [sv b d.size 2,N .i64 (lo:Int),N .i64 (hi:Int),N .i64 (first:Int),fv] M Q
theorem PG {T:Nat} {fv:AV} {lt:Go.Ab.ak.ak→Go.Ab.ak.ak→Bool} {cv:FuncId→aj} (hl:lM aR lt (bN cv fv)) : Qm T fv lt fun args M Q=>∃ a0 a1 a2 a3 a4,args=[a0,a1,a2,a3,a4]∧lK cv a0 a1 a2 a3 a4 M Q:=by
 intro M b lo hi first d Q hat hsz hfe hlo hQ
 refine ⟨_,_,_,_,_,rfl, ?_⟩
 unfold lK
 simp only [eD,dN,dQ,bT]
 obtain ⟨R,hR⟩ : ∃ R,R=Sort.siftDown lt hi first lo d:=⟨_,rfl⟩
 rw [← hR] at hQ
 refine aG (fun m ys M3=>∃ (r:Nat) (d3:Array Go.Ab.ak.ak),m=1000000 + hi - r∧ys=[N .i64 (r:Int)]∧(r≤1000000)∧At aR T b d3 M3∧ag [b] M M3∧d3.size=d.size∧R=Sort.siftDown lt hi first r d3) _ ⟨lo,d,rfl,rfl,hlo,hat,ag.refl _ _,rfl,hR⟩ ?_
 rintro next m ys M3 hnext ⟨r,d3,rfl,rfl,hr,h3,k3,hs3,hm⟩
 dsimp only [aa]
 rw [UO (by omega),add1 (by omega),gQ]
 rw [Sort.siftDown] at hm
 refine aF (fun hg=>?_) (fun hg=>?_)
 ·rw [dif_pos (of_decide_eq_true hg)] at hm
  subst hm
  exact hQ M3 h3 k3
 have hg:¬ 2 * r + 1 ≥ hi:=of_decide_eq_false hg
 rw [dif_neg hg] at hm
 refine aZ (fun zs M'=>∃ c:Nat,zs=[N .i64 (c:Int)]∧At aR T b d3 M'∧ag [b] M M'∧r<c∧c<hi∧R=if !lt d3[first + r]! d3[first + c]! then d3 else Sort.siftDown lt hi first c (Sort.swp d3 (first + r) (first + c))) ?_ ?_
 ·rintro zs M' ⟨c,rfl,h4,k4,hrc,hchi,hm2⟩
  dsimp only [aa]
  rw [addN (by omega),h4.rd (z:=2) rfl hs3.symm (by omega),addN (by omega),h4.rd (z:=2) rfl hs3.symm (by omega)]
  refine hl.use fun M5 k5=>?_
  have h5:=h4.keep k5
  have k5':=k4.trans (k5.mono (cs:=[b]) (by simp))
  rw [bB]
  refine aF (fun h=>?_) (fun h=>?_)
  ·rw [if_pos h] at hm2
   subst hm2
   exact hQ M5 h5 k5'
  ·rw [if_neg (by rw [h]; decide)] at hm2
   rw [addN (by omega),addN (by omega),addN (by omega),h5.rd (z:=2) rfl hs3.symm (by omega),addN (by omega),h5.rd (z:=2) rfl hs3.symm (by omega)]
   refine h5.swap (z:=2) rfl hs3.symm (by omega) (by omega) fun M6 h6 k6=>?_
   exact hnext _ _ _ (by omega) ⟨c,_,rfl,rfl,by omega,h6,k5'.trans k6,by rw [bS]; exact hs3,hm2⟩
 intro J hJ
 rw [add1 (by omega),dS]
 refine lu (P:=fun M'=>At aR T b d3 M'∧ag [b] M M') (p:=lt d3[first + (2 * r + 1)]! d3[first + (2 * r + 1) + 1]!) ⟨h3,k3⟩ (fun hc k hk=>?_) fun M4 ⟨h4,k4⟩=>?_
 ·have hc:2 * r + 1 + 1<hi:=of_decide_eq_true hc
  rw [addN (by omega),h3.rd (z:=2) rfl hs3.symm (by omega),addN (by omega),add1 (by omega),h3.rd (z:=2) rfl hs3.symm (by omega)]
  exact hl.use fun M5 k5=>hk M5 ⟨h3.keep k5,k3.trans (k5.mono (cs:=[b]) (by simp))⟩
 refine aF (fun h=>?_) (fun h=>?_)
 ·have hc:2 * r + 1 + 1<hi:=by
   rw [Bool.and_eq_true] at h
   exact of_decide_eq_true h.1
  rw [add1 (by omega)]
  refine hJ _ _ ⟨2 * r + 2,rfl,h4,k4,by omega,by omega, ?_⟩
  rw [if_pos h,dif_pos (by omega)] at hm
  exact hm
 ·refine hJ _ _ ⟨2 * r + 1,rfl,h4,k4,by omega,by omega, ?_⟩
  rw [if_neg (by rw [h]; decide)] at hm
  exact hm
theorem Qu {T:Nat} {fv:AV} {lt:Go.Ab.ak.ak→Go.Ab.ak.ak→Bool} {cs:aj} (hs:Qm T fv lt cs) : SortG aR T 2 fv (Sort.heapSort lt) (fun _ a e=>a<e) fun args M Q=>∃ a0 a1 a2 a3,args=[a0,a1,a2,a3]∧lU cs a0 a1 a2 a3 M Q:=by
 intro M b a e d Q hat hsz hae he hP hQ
 refine ⟨_,_,_,_,rfl, ?_⟩
 unfold lU
 rw [Sort.heapSort] at hQ
 rw [dK hae (by omega),bD (by omega) (by omega),jo]
 refine ⟨by decide, ?_⟩
 rw [show (2:Int)=((2:Nat) : Int) from rfl,l8,aW (by omega) (by omega)]
 obtain ⟨R,hR⟩ : ∃ R,R=Sort.heapBuild lt (e - a) a ((e - a - 1) / 2 + 1) d:=⟨_,rfl⟩
 rw [← hR] at hQ
 refine aG (fun m ys M3=>∃ (k:Nat) (d3:Array Go.Ab.ak.ak),m=k + 1∧ys=[N .i64 ((k:Int) - 1)]∧k≤(e - a - 1) / 2 + 1∧At aR T b d3 M3∧ag [b] M M3∧d3.size=d.size∧R=Sort.heapBuild lt (e - a) a k d3) _ ⟨(e - a - 1) / 2 + 1,d,rfl,by congr 3; omega,Nat.le_refl _,hat,ag.refl _ _,rfl,hR⟩ ?_
 rintro next m ys M3 hnext ⟨k,d3,rfl,rfl,hk,h3,k3,hs3,hm⟩
 dsimp only [aa]
 rw [fw]
 refine aF (fun hg=>?_) (fun hg=>?_)
 ·have hg:1≤k:=by
   have:(k:Int) - 1 ≥ 0:=of_decide_eq_true hg
   omega
  obtain ⟨k',rfl⟩ : ∃ k',k=k' + 1:=⟨k - 1,by omega⟩
  rw [Sort.heapBuild] at hm
  rw [show ((k' + 1:Nat) : Int) - 1=(k' : Int) by omega,← hs3]
  refine hs h3 (by omega) (by omega) (by omega) fun M4 h4 k4=>?_
  rw [fJ,aW (by omega) (by omega)]
  exact hnext _ _ _ (by omega) ⟨k',_,rfl,rfl,by omega,h4,k3.trans k4,by rw [uk lt _ _ (e - a) _ _ (by omega)]; exact hs3,hm⟩
 ·have hk0:k=0:=by
   have:¬ (k:Int) - 1 ≥ 0:=of_decide_eq_false hg
   omega
  subst hk0
  rw [Sort.heapBuild] at hm
  rw [hm] at hQ
  rw [bD (by omega) (by omega)]
  obtain ⟨R4,hR4⟩ : ∃ R4,R4=Sort.heapPop lt a (e - a) d3:=⟨_,rfl⟩
  rw [← hR4] at hQ
  refine aG (fun m ys M4=>∃ (k:Nat) (d4:Array Go.Ab.ak.ak),m=k + 1∧ys=[N .i64 ((k:Int) - 1)]∧k≤e - a∧At aR T b d4 M4∧ag [b] M M4∧d4.size=d.size∧R4=Sort.heapPop lt a k d4) _ ⟨e - a,d3,rfl,by congr 3; omega,Nat.le_refl _,h3,k3,hs3,hR4⟩ ?_
  rintro next2 m ys M4 hnext2 ⟨k,d4,rfl,rfl,hk,h4,k4,hs4,hm4⟩
  dsimp only [aa]
  rw [fw]
  refine aF (fun hg=>?_) (fun hg=>?_)
  ·have hg:1≤k:=by
    have:(k:Int) - 1 ≥ 0:=of_decide_eq_true hg
    omega
   obtain ⟨k',rfl⟩ : ∃ k',k=k' + 1:=⟨k - 1,by omega⟩
   rw [Sort.heapPop] at hm4
   rw [show ((k' + 1:Nat) : Int) - 1=(k' : Int) by omega,addN (by omega),addN (by omega),h4.rd (z:=2) rfl hs4.symm (by omega),h4.rd (z:=2) rfl hs4.symm (by omega)]
   refine h4.swap (z:=2) rfl hs4.symm (by omega) (by omega) fun M5 h5 k5=>?_
   rw [show d.size=(Sort.swp d4 a (a + k')).size by rw [bS]; exact hs4.symm]
   refine hs (lo:=0) h5 (by rw [bS]; omega) (by rw [bS]; omega) (by decide) fun M6 h6 k6=>?_
   rw [fJ,aW (by omega) (by omega)]
   exact hnext2 _ _ _ (by omega) ⟨k',_,rfl,rfl,by omega,h6,(k4.trans k5).trans k6,by rw [uk lt _ _ k' _ _ (by omega),bS]; exact hs4,hm4⟩
  ·have hk0:k=0:=by
    have:¬ (k:Int) - 1 ≥ 0:=of_decide_eq_false hg
    omega
   subst hk0
   rw [Sort.heapPop] at hm4
   subst hm4
   exact hQ M4 h4 k4
def G8 (T:Nat) (fv:AV) (lt:Go.Ab.ak.ak→Go.Ab.ak.ak→Bool) (c:aj) : Prop:=∀ {M:RM} {b a e pv:Nat} {d:Array Go.Ab.ak.ak} {Q:ah},At aR T b d M→d.size≤60000→a≤pv→pv<e→e≤d.size→(∀ M',At aR T b (Sort.partitionEqual lt d a e pv).2 M'→ag [b] M M'→Q (N .i64 (((Sort.partitionEqual lt d a e pv).1:Nat) : Int)) M') →
 c [sv b d.size 2,N .i64 (a:Int),N .i64 (e:Int),N .i64 (pv:Int),fv] M Q
theorem Jf {T:Nat} {fv:AV} {lt:Go.Ab.ak.ak→Go.Ab.ak.ak→Bool} {cv:FuncId→aj} (hl:lM aR lt (bN cv fv)) : G8 T fv lt fun args M Q=>∃ a0 a1 a2 a3 a4,args=[a0,a1,a2,a3,a4]∧iT cv a0 a1 a2 a3 a4 M Q:=by
 intro M b a e pv d Q hat hsz hap hpe he hQ
 refine ⟨_,_,_,_,_,rfl, ?_⟩
 unfold iT
 simp only [eD,dN,dQ]
 rw [Sort.partitionEqual] at hQ
 rw [hat.rd (z:=2) rfl rfl (by omega),hat.rd (z:=2) rfl rfl (by omega)]
 refine hat.swap (z:=2) rfl rfl (by omega) (by omega) fun M2 h2 k2=>?_
 rw [add1 (by omega),bD (by omega) (by omega)]
 obtain ⟨R,hR⟩ : ∃ R,R=Sort.partEqLoop lt a (a + 1) (e - 1) (Sort.swp d a pv):=⟨_,rfl⟩
 rw [← hR] at hQ
 refine aG (fun m ys M3=>∃ (i j:Nat) (d3:Array Go.Ab.ak.ak),m=j + 1 - i∧ys=[N .i64 (i:Int),N .i64 (j:Int)]∧a + 1≤i∧i≤e + 1∧j<e∧At aR T b d3 M3∧ag [b] M M3∧d3.size=d.size∧R=Sort.partEqLoop lt a i j d3) _ ⟨a + 1,e - 1,_,rfl,rfl,Nat.le_refl _,by omega,by omega,h2,k2,bS _ _ _,hR⟩ ?_
 rintro next m ys M3 hnext ⟨i,j,d3,rfl,rfl,hai,hie,hje,h3,k3,hs3,hm⟩
 dsimp only [aa]
 rw [Sort.partEqLoop] at hm
 refine vF (P:=fun M'=>At aR T b d3 M'∧ag [b] M M') (p:=fun x=>!lt d3[a]! x) (d:=d3) (J:=j) ⟨h3,k3⟩ fun next2 i2 M4 ⟨h4,k4⟩ h0 h1 hgo hstop=>?_
 dsimp only [aa]
 rw [jG]
 refine lu (P:=fun M'=>At aR T b d3 M'∧ag [b] M M') (p:=!lt d3[a]! d3[i2]!) ⟨h4,k4⟩ (fun hc k hk=>?_) fun M5 h5=>?_
 ·have hc:i2≤j:=of_decide_eq_true hc
  rw [h4.rd (z:=2) rfl hs3.symm (by omega),h4.rd (z:=2) rfl hs3.symm (by omega)]
  refine hl.use fun M5 k5=>?_
  rw [bB]
  exact hk M5 ⟨h4.keep k5,k4.trans (k5.mono (cs:=[b]) (by simp))⟩
 refine aF (fun h=>?_) (fun h=>?_)
 ·rw [add1 (by omega)]
  exact hgo h M5 h5
 have hi2:=hstop h
 rw [← hi2] at hm
 refine qa (P:=fun M'=>At aR T b d3 M'∧ag [b] M M') (p:=fun x=>lt d3[a]! x) (d:=d3) (i:=i2) h5 (by omega) fun next3 j2 M6 ⟨h6,k6⟩ q0 q1 hgo3 hstop3=>?_
 dsimp only [aa]
 rw [jG]
 refine lu (P:=fun M'=>At aR T b d3 M'∧ag [b] M M') (p:=lt d3[a]! d3[j2]!) ⟨h6,k6⟩ (fun hc k hk=>?_) fun M7 ⟨h7,k7⟩=>?_
 ·have hc:i2≤j2:=of_decide_eq_true hc
  rw [h6.rd (z:=2) rfl hs3.symm (by omega),h6.rd (z:=2) rfl hs3.symm (by omega)]
  exact hl.use fun M5 k5=>hk M5 ⟨h6.keep k5,k6.trans (k5.mono (cs:=[b]) (by simp))⟩
 refine aF (fun h=>?_) (fun h=>?_)
 ·have hc:i2≤j2:=by
   rw [Bool.and_eq_true] at h
   exact of_decide_eq_true h.1
  rw [bD (by omega) (by omega)]
  exact hgo3 h M7 ⟨h7,k7⟩
 have hj2:=hstop3 h
 simp only [← hj2] at hm
 rw [nz]
 refine aF (fun hg=>?_) (fun hg=>?_)
 ·rw [if_pos (of_decide_eq_true hg)] at hm
  rw [hm] at hQ
  exact hQ M7 h7 k7
 ·have hg:¬ i2 > j2:=of_decide_eq_false hg
  rw [if_neg hg,dif_pos (by omega)] at hm
  rw [h7.rd (z:=2) rfl hs3.symm (by omega),h7.rd (z:=2) rfl hs3.symm (by omega)]
  refine h7.swap (z:=2) rfl hs3.symm (by omega) (by omega) fun M8 h8 k8=>?_
  rw [add1 (by omega),bD (by omega) (by omega)]
  exact hnext _ _ _ (by omega) ⟨i2 + 1,j2 - 1,_,rfl,rfl,by omega,by omega,by omega,h8,k7.trans k8,by rw [bS,hs3],hm⟩
def P6 (T:Nat) (fv:AV) (lt:Go.Ab.ak.ak→Go.Ab.ak.ak→Bool) (c:aj) : Prop:=∀ {M:RM} {b a e pv:Nat} {d:Array Go.Ab.ak.ak} {Q:ah},At aR T b d M→d.size≤60000→a≤pv→pv<e→e≤d.size→(∀ M',At aR T b (Sort.partition lt d a e pv).2.2 M'→ag [b] M M'→Q (.tup [N .i64 (((Sort.partition lt d a e pv).1:Nat) : Int),Bo (Sort.partition lt d a e pv).2.1]) M') →
 c [sv b d.size 2,N .i64 (a:Int),N .i64 (e:Int),N .i64 (pv:Int),fv] M Q
theorem Qe {T:Nat} {fv:AV} {lt:Go.Ab.ak.ak→Go.Ab.ak.ak→Bool} {cv:FuncId→aj} (hl:lM aR lt (bN cv fv)) : P6 T fv lt fun args M Q=>∃ a0 a1 a2 a3 a4,args=[a0,a1,a2,a3,a4]∧lg cv a0 a1 a2 a3 a4 M Q:=by
 intro M b a e pv d Q hat hsz hap hpe he hQ
 refine ⟨_,_,_,_,_,rfl, ?_⟩
 unfold lg
 simp only [eD,dN,dQ]
 have hs2:=bS d a pv
 rw [sM] at hQ
 rw [hat.rd (z:=2) rfl rfl (by omega),hat.rd (z:=2) rfl rfl (by omega)]
 refine hat.swap (z:=2) rfl rfl (by omega) (by omega) fun M2 h2 k2=>?_
 rw [add1 (by omega),bD (by omega) (by omega)]
 generalize Sort.swp d a pv=d2 at *
 refine vF (P:=fun M'=>At aR T b d2 M'∧ag [b] M M') (p:=fun x=>lt x d2[a]!) (d:=d2) (J:=e - 1) ⟨h2,k2⟩ fun next2 i M3 ⟨h3,k3⟩ h0 h1 hgo hstop=>?_
 dsimp only [aa]
 rw [jG]
 refine lu (P:=fun M'=>At aR T b d2 M'∧ag [b] M M') (p:=lt d2[i]! d2[a]!) ⟨h3,k3⟩ (fun hc k hk=>?_) fun M4 h4=>?_
 ·have hc:i≤e - 1:=of_decide_eq_true hc
  rw [h3.rd (z:=2) rfl hs2.symm (by omega),h3.rd (z:=2) rfl hs2.symm (by omega)]
  exact hl.use fun M5 k5=>hk M5 ⟨h3.keep k5,k3.trans (k5.mono (cs:=[b]) (by simp))⟩
 refine aF (fun h=>?_) (fun h=>?_)
 ·rw [add1 (by omega)]
  exact hgo h M4 h4
 have hi2:i=pI lt d2 a e:=hstop h
 have hjdef:pJ lt d2 a e=Sort.scanDown (fun x=>!lt x d2[a]!) d2 (pI lt d2 a e) (e - 1):=rfl
 have hldef:pL lt d2 a e=Sort.partLoop lt a (pI lt d2 a e + 1) (pJ lt d2 a e - 1) (Sort.swp d2 (pI lt d2 a e) (pJ lt d2 a e)):=rfl
 rw [← hi2] at hjdef hldef hQ
 refine qa (P:=fun M'=>At aR T b d2 M'∧ag [b] M M') (p:=fun x=>!lt x d2[a]!) (d:=d2) (i:=i) h4 (by omega) fun next3 j M5 ⟨h5,k5⟩ q0 q1 hgo3 hstop3=>?_
 dsimp only [aa]
 rw [jG]
 refine lu (P:=fun M'=>At aR T b d2 M'∧ag [b] M M') (p:=!lt d2[j]! d2[a]!) ⟨h5,k5⟩ (fun hc k hk=>?_) fun M6 ⟨h6,k6⟩=>?_
 ·have hc:i≤j:=of_decide_eq_true hc
  rw [h5.rd (z:=2) rfl hs2.symm (by omega),h5.rd (z:=2) rfl hs2.symm (by omega)]
  refine hl.use fun M7 k7=>?_
  rw [bB]
  exact hk M7 ⟨h5.keep k7,k5.trans (k7.mono (cs:=[b]) (by simp))⟩
 refine aF (fun h=>?_) (fun h=>?_)
 ·have hc:i≤j:=by
   rw [Bool.and_eq_true] at h
   exact of_decide_eq_true h.1
  rw [bD (by omega) (by omega)]
  exact hgo3 h M6 ⟨h6,k6⟩
 have hj2:=hstop3 h
 rw [← hj2] at hjdef
 rw [hjdef] at hldef hQ
 rw [nz]
 refine aF (fun hg=>?_) (fun hg=>?_)
 ·rw [if_pos (of_decide_eq_true hg)] at hQ
  rw [h6.rd (z:=2) rfl hs2.symm (by omega),h6.rd (z:=2) rfl hs2.symm (by omega)]
  exact h6.swap (z:=2) rfl hs2.symm (by omega) (by omega) fun M7 h7 k7=>hQ M7 h7 (k6.trans k7)
 have hg:¬ i > j:=of_decide_eq_false hg
 rw [if_neg hg] at hQ
 rw [h6.rd (z:=2) rfl hs2.symm (by omega),h6.rd (z:=2) rfl hs2.symm (by omega)]
 refine h6.swap (z:=2) rfl hs2.symm (by omega) (by omega) fun M7 h7 k7=>?_
 rw [add1 (by omega),bD (by omega) (by omega)]
 generalize pL lt d2 a e=R at *
 refine aG (fun m ys M3=>∃ (i j:Nat) (d3:Array Go.Ab.ak.ak),m=j + 1 - i∧ys=[N .i64 (i:Int),N .i64 (j:Int)]∧a + 1≤i∧i≤e + 1∧j<e∧At aR T b d3 M3∧ag [b] M M3∧d3.size=d.size∧R=Sort.partLoop lt a i j d3) _ ⟨i + 1,j - 1,_,rfl,rfl,by omega,by omega,by omega,h7,k6.trans k7,by rw [bS,hs2],hldef⟩ ?_
 rintro next m ys M3 hnext ⟨i,j,d3,rfl,rfl,hai,hie,hje,h3,k3,hs3,hm⟩
 dsimp only [aa]
 rw [Sort.partLoop] at hm
 refine vF (P:=fun M'=>At aR T b d3 M'∧ag [b] M M') (p:=fun x=>lt x d3[a]!) (d:=d3) (J:=j) ⟨h3,k3⟩ fun next2 i2 M4 ⟨h4,k4⟩ h0 h1 hgo hstop=>?_
 dsimp only [aa]
 rw [jG]
 refine lu (P:=fun M'=>At aR T b d3 M'∧ag [b] M M') (p:=lt d3[i2]! d3[a]!) ⟨h4,k4⟩ (fun hc k hk=>?_) fun M5 h5=>?_
 ·have hc:i2≤j:=of_decide_eq_true hc
  rw [h4.rd (z:=2) rfl hs3.symm (by omega),h4.rd (z:=2) rfl hs3.symm (by omega)]
  exact hl.use fun M5 k5=>hk M5 ⟨h4.keep k5,k4.trans (k5.mono (cs:=[b]) (by simp))⟩
 refine aF (fun h=>?_) (fun h=>?_)
 ·rw [add1 (by omega)]
  exact hgo h M5 h5
 have hi2:=hstop h
 rw [← hi2] at hm
 refine qa (P:=fun M'=>At aR T b d3 M'∧ag [b] M M') (p:=fun x=>!lt x d3[a]!) (d:=d3) (i:=i2) h5 (by omega) fun next3 j2 M6 ⟨h6,k6⟩ q0 q1 hgo3 hstop3=>?_
 dsimp only [aa]
 rw [jG]
 refine lu (P:=fun M'=>At aR T b d3 M'∧ag [b] M M') (p:=!lt d3[j2]! d3[a]!) ⟨h6,k6⟩ (fun hc k hk=>?_) fun M7 ⟨h7,k7⟩=>?_
 ·have hc:i2≤j2:=of_decide_eq_true hc
  rw [h6.rd (z:=2) rfl hs3.symm (by omega),h6.rd (z:=2) rfl hs3.symm (by omega)]
  refine hl.use fun M8 k8=>?_
  rw [bB]
  exact hk M8 ⟨h6.keep k8,k6.trans (k8.mono (cs:=[b]) (by simp))⟩
 refine aF (fun h=>?_) (fun h=>?_)
 ·have hc:i2≤j2:=by
   rw [Bool.and_eq_true] at h
   exact of_decide_eq_true h.1
  rw [bD (by omega) (by omega)]
  exact hgo3 h M7 ⟨h7,k7⟩
 have hj2:=hstop3 h
 simp only [← hj2] at hm
 rw [nz]
 refine aF (fun hg=>?_) (fun hg=>?_)
 ·rw [if_pos (of_decide_eq_true hg)] at hm
  rw [hm] at hQ
  rw [h7.rd (z:=2) rfl hs3.symm (by omega),h7.rd (z:=2) rfl hs3.symm (by omega)]
  exact h7.swap (z:=2) rfl hs3.symm (by omega) (by omega) fun M8 h8 k8=>hQ M8 h8 (k7.trans k8)
 ·have hg:¬ i2 > j2:=of_decide_eq_false hg
  rw [if_neg hg,dif_pos (by omega)] at hm
  rw [h7.rd (z:=2) rfl hs3.symm (by omega),h7.rd (z:=2) rfl hs3.symm (by omega)]
  refine h7.swap (z:=2) rfl hs3.symm (by omega) (by omega) fun M8 h8 k8=>?_
  rw [add1 (by omega),bD (by omega) (by omega)]
  exact hnext _ _ _ (by omega) ⟨i2 + 1,j2 - 1,_,rfl,rfl,by omega,by omega,by omega,h8,k7.trans k8,by rw [bS,hs3],hm⟩
end Go.Ab.Crw
set_option maxRecDepth 10000
set_option linter.unusedVariables false
set_option linter.unusedSimpArgs false
namespace Go.Ab.Crw
open Go Go.Ab Go.Ab.ak
def FB (T TI b s:Nat) (d:Array Go.Ab.ak.ak) (k:Nat) (M:RM) : Prop:=At aR T b d M∧M.heap s=some (.row [N .i64 (k:Int)] false TI 0)∧s<M.next
def IR (T TI:Nat) (fv:AV) (lt:Go.Ab.ak.ak→Go.Ab.ak.ak→Bool) (c:aj) : Prop:=∀ {M:RM} {b s k i j:Nat} {d:Array Go.Ab.ak.ak} {Q:ah},FB T TI b s d k M→s≠b→i<d.size→j<d.size→k≤1000 →
 (∀ M',FB T TI b s d (Sort.order2 lt d i j k).2.2 M'→ag [s] M M'→Q (.tup [N .i64 (((Sort.order2 lt d i j k).1:Nat) : Int),N .i64 (((Sort.order2 lt d i j k).2.1:Nat) : Int)]) M')→c [sv b d.size 2,N .i64 (i:Int),N .i64 (j:Int),.ptr s 0,fv] M Q
theorem GY {T TI:Nat} {fv:AV} {lt:Go.Ab.ak.ak→Go.Ab.ak.ak→Bool} {cv:FuncId→aj} (hl:lM aR lt (bN cv fv)) : IR T TI fv lt fun args M Q=>∃ a0 a1 a2 a3 a4,args=[a0,a1,a2,a3,a4]∧mO cv a0 a1 a2 a3 a4 M Q:=by
 intro M b s k i j d Q ⟨hat,hh,hlt⟩ hsb hi hj hk hQ
 refine ⟨_,_,_,_,_,rfl, ?_⟩
 unfold mO
 rw [hat.rd (z:=2) rfl rfl (by omega),hat.rd (z:=2) rfl rfl (by omega)]
 refine hl.use fun M1 k1=>?_
 have h1:=hat.keep k1
 have hh1:=k1.aK hh hlt (by simp)
 have n1:=k1.next
 unfold Sort.order2 at hQ
 refine aF (fun h=>?_) (fun h=>?_)
 ·rw [if_pos h] at hQ
  rw [aJ,az hh1 rfl,add1 (by omega),aJ,eB hh1 (by simp) rfl rfl]
  have kk:ag [s] M1 (M1.put s (.row ([N .i64 (k:Int)].set 0 (N .i64 ((k + 1:Nat) : Int))) false TI 0)):=(ag.refl _ _).put _ (.inr (by simp))
  refine hQ _ ⟨h1.keep' kk (by simp; omega),aP _,by rw [iF]; omega⟩ ((k1.mono (by simp)).trans kk)
 ·rw [if_neg (by rw [h]; decide)] at hQ
  exact hQ M1 ⟨h1,hh1,by omega⟩ (k1.mono (by simp))
def Dc (T TI:Nat) (fv:AV) (lt:Go.Ab.ak.ak→Go.Ab.ak.ak→Bool) (c:aj) : Prop:=∀ {M:RM} {b s k i j h:Nat} {d:Array Go.Ab.ak.ak} {Q:ah},FB T TI b s d k M→s≠b→i<d.size→j<d.size→h<d.size→k≤900 →
 (∀ M',FB T TI b s d (Sort.median lt d i j h k).2 M'→ag [s] M M'→Q (N .i64 (((Sort.median lt d i j h k).1:Nat) : Int)) M')→c [sv b d.size 2,N .i64 (i:Int),N .i64 (j:Int),N .i64 (h:Int),.ptr s 0,fv] M Q
theorem CV {T TI:Nat} {fv:AV} {lt:Go.Ab.ak.ak→Go.Ab.ak.ak→Bool} {c2:aj} (h2:IR T TI fv lt c2) : Dc T TI fv lt fun args M Q=>∃ a0 a1 a2 a3 a4 a5,args=[a0,a1,a2,a3,a4,a5]∧mQ c2 a0 a1 a2 a3 a4 a5 M Q:=by
 intro M b s k i j h d Q hsw hsb hi hj hh hk hQ
 refine ⟨_,_,_,_,_,_,rfl, ?_⟩
 unfold mQ
 unfold Sort.median at hQ
 have o1:=pM lt d i j k
 refine h2 hsw hsb hi hj (by omega) fun M1 s1 k1=>?_
 rw [ic,il]
 dsimp only at hQ
 generalize Sort.order2 lt d i j k=r1 at *
 have o2:=pM lt d r1.2.1 h r1.2.2
 refine h2 s1 hsb (by omega) hh (by omega) fun M2 s2 k2=>?_
 rw [ic,il]
 generalize Sort.order2 lt d r1.2.1 h r1.2.2=r2 at *
 refine h2 s2 hsb (by omega) (by omega) (by omega) fun M3 s3 k3=>?_
 rw [ic,il]
 exact hQ M3 s3 ((k1.trans k2).trans k3)
def Ii (T TI:Nat) (fv:AV) (lt:Go.Ab.ak.ak→Go.Ab.ak.ak→Bool) (c:aj) : Prop:=∀ {M:RM} {b s k i:Nat} {d:Array Go.Ab.ak.ak} {Q:ah},FB T TI b s d k M→s≠b→d.size≤60000→1≤i→i + 1<d.size→k≤900 →
 (∀ M',FB T TI b s d (Sort.medianAdjacent lt d i k).2 M'→ag [s] M M'→Q (N .i64 (((Sort.medianAdjacent lt d i k).1:Nat) : Int)) M')→c [sv b d.size 2,N .i64 (i:Int),.ptr s 0,fv] M Q
theorem G7 {T TI:Nat} {fv:AV} {lt:Go.Ab.ak.ak→Go.Ab.ak.ak→Bool} {cm:aj} (hm:Dc T TI fv lt cm) : Ii T TI fv lt fun args M Q=>∃ a0 a1 a2 a3,args=[a0,a1,a2,a3]∧jc cm a0 a1 a2 a3 M Q:=by
 intro M b s k i d Q hsw hsb hsz h1 h2 hk hQ
 refine ⟨_,_,_,_,rfl, ?_⟩
 unfold jc
 rw [bD (by omega) (by omega),add1 (by omega)]
 exact hm hsw hsb (by omega) (by omega) (by omega) hk fun M1 s1 k1=>hQ M1 s1 k1
def Ai (lt:Go.Ab.ak.ak→Go.Ab.ak.ak→Bool) (d:Array Go.Ab.ak.ak) (a e:Nat) : Nat × Nat :=
 if e - a ≥ 8 then (if e - a ≥ 50 then Sort.median lt d (Sort.medianAdjacent lt d (a + (e - a) / 4 * 1) 0).1 (Sort.medianAdjacent lt d (a + (e - a) / 4 * 2) (Sort.medianAdjacent lt d (a + (e - a) / 4 * 1) 0).2).1 (Sort.medianAdjacent lt d (a + (e - a) / 4 * 3) (Sort.medianAdjacent lt d (a + (e - a) / 4 * 2) (Sort.medianAdjacent lt d (a + (e - a) / 4 * 1) 0).2).2).1 (Sort.medianAdjacent lt d (a + (e - a) / 4 * 3) (Sort.medianAdjacent lt d (a + (e - a) / 4 * 2) (Sort.medianAdjacent lt d (a + (e - a) / 4 * 1) 0).2).2).2
  else Sort.median lt d (a + (e - a) / 4 * 1) (a + (e - a) / 4 * 2) (a + (e - a) / 4 * 3) 0) else (a + (e - a) / 4 * 2,0)
theorem Tv (lt:Go.Ab.ak.ak→Go.Ab.ak.ak→Bool) (d:Array Go.Ab.ak.ak) (a e:Nat) : Sort.choosePivot lt d a e=((Ai lt d a e).1,if (Ai lt d a e).2=0 then .increasing else if (Ai lt d a e).2=12 then .decreasing else .unknown):=rfl
def H5 (T:Nat) (fv:AV) (lt:Go.Ab.ak.ak→Go.Ab.ak.ak→Bool) (c:aj) : Prop:=∀ {M:RM} {b a e:Nat} {d:Array Go.Ab.ak.ak} {Q:ah},At aR T b d M→d.size≤60000→a<e→e≤d.size →
 (∀ M',At aR T b d M'→ag [] M M'→Q (.tup [N .i64 (((Sort.choosePivot lt d a e).1:Nat) : Int),N .i64 (kg (Sort.choosePivot lt d a e).2)]) M')→c [sv b d.size 2,N .i64 (a:Int),N .i64 (e:Int),fv] M Q
theorem GZ {T TI:Nat} {fv:AV} {lt:Go.Ab.ak.ak→Go.Ab.ak.ak→Bool} {ca cm:aj} (ha:Ii T TI fv lt ca) (hm:Dc T TI fv lt cm) : H5 T fv lt fun args M Q=>∃ a0 a1 a2 a3,args=[a0,a1,a2,a3]∧jZ TI ca cm a0 a1 a2 a3 M Q:=by
 intro M b a e d Q hat hsz hae he hQ
 refine ⟨_,_,_,_,rfl, ?_⟩
 unfold jZ
 simp only [bT]
 rw [dK (by omega) (by omega),bi]
 have kk:ag [] M (M.push (.row [N .i64 0] false TI 0)):=(ag.refl _ _).push _
 have sw0:FB T TI b M.next d 0 (M.push (.row [N .i64 0] false TI 0)):=⟨hat.keep kk,RM.aQ _,by simp [RM.push]⟩
 have hsb:M.next≠b:=by have:=hat.lt; omega
 have back:∀ M',ag [M.next] (M.push (.row [N .i64 0] false TI 0)) M'→ag [] M M':=fun M' k=>kk.dB k fun c hc=>.inl (by simp at hc; omega)
 generalize M.push (.row [N .i64 0] false TI 0)=M1 at *
 generalize M.next=s at *
 have hq:∀ (k:Nat) (c:Int),c=(k:Int)→k≤3→∀ (K:AV→Prop),(af .quo (N .i64 ((e - a:Nat) : Int)) (N .i64 4) fun t18=>af .mul t18 (N .i64 c) fun t19=>af .add (N .i64 (a:Int)) t19 K)=K (N .i64 ((a + (e - a) / 4 * k:Nat) : Int)):=fun k c hc hk K=>by
  subst hc
  have hb:(e - a) / 4 * k≤(e - a) * 3:=Nat.mul_le_mul (Nat.div_le_self _ _) hk
  rw [jo,show (4:Int)=((4:Nat) : Int) from rfl,l8,aW (by omega) (by omega),pO,← Int.natCast_mul,aW (by omega) (by omega),addN (by omega)]
  exact propext ⟨fun h=>h.2,fun h=>⟨by decide,h⟩⟩
 rw [hq 1 1 rfl (by omega),hq 2 2 rfl (by omega),hq 3 3 rfl (by omega)]
 rw [Tv] at hQ
 have hr:Ai lt d a e=Ai lt d a e:=rfl
 conv at hr=>rhs; unfold Ai
 generalize Ai lt d a e=r at *
 refine aZ (fun zs M'=>zs=[N .i64 ((r.1:Nat) : Int)]∧FB T TI b s d r.2 M'∧ag [s] M1 M') ?_ ?_
 ·rintro zs M' ⟨rfl,⟨h3,hh,_⟩,k3⟩
  dsimp only [aa]
  have:=hQ M' h3 (back M' k3)
  rw [az hh rfl,df]
  by_cases h0:r.2=0
  ·rw [show ((r.2:Int) == 0)=true by rw [h0]; rfl,dC]
   rw [if_pos h0] at this
   exact this
  ·rw [show ((r.2:Int) == 0)=false by rw [beq_eq_false_iff_ne]; omega,bF,df]
   rw [if_neg h0] at this
   by_cases h12:r.2=12
   ·rw [show ((r.2:Int) == 12)=true by rw [h12]; rfl,dC]
    rw [if_pos h12] at this
    exact this
   ·rw [show ((r.2:Int) == 12)=false by rw [beq_eq_false_iff_ne]; omega,bF]
    rw [if_neg h12] at this
    exact this
 intro J hJ
 rw [show (8:Int)=((8:Nat) : Int) from rfl,gQ]
 refine aF (fun h8=>?_) (fun h8=>?_)
 ·have h8:e - a ≥ 8:=of_decide_eq_true h8
  rw [if_pos h8] at hr
  refine aZ (fun zs M'=>∃ x y z k:Nat,zs=[N .i64 (x:Int),N .i64 (y:Int),N .i64 (z:Int)]∧FB T TI b s d k M'∧ag [s] M1 M'∧x<d.size∧y<d.size∧z<d.size∧k≤900∧r=Sort.median lt d x y z k) ?_ ?_
  ·rintro zs M' ⟨x,y,z,k,rfl,s3,k3,hx,hy,hz,hk,rfl⟩
   dsimp only [aa]
   exact hm s3 hsb hx hy hz hk fun M4 s4 k4=>hJ _ _ ⟨rfl,s4,k3.trans k4⟩
  intro J0 hJ0
  rw [show (50:Int)=((50:Nat) : Int) from rfl,gQ]
  refine aF (fun h50=>?_) (fun h50=>?_)
  ·have h50:e - a ≥ 50:=of_decide_eq_true h50
   rw [if_pos h50] at hr
   have m1:=rU lt d (i:=a + (e - a) / 4 * 1 - 1) (j:=a + (e - a) / 4 * 1) (h:=a + (e - a) / 4 * 1 + 1) (k:=0) (n:=d.size) (by omega) (by omega) (by omega)
   have r1:(Sort.medianAdjacent lt d (a + (e - a) / 4 * 1) 0).1<d.size∧(Sort.medianAdjacent lt d (a + (e - a) / 4 * 1) 0).2≤0 + 3:=m1
   refine ha sw0 hsb hsz (by omega) (by omega) (by omega) fun M2 s2 k2=>?_
   generalize Sort.medianAdjacent lt d (a + (e - a) / 4 * 1) 0=q1 at *
   have m2:=rU lt d (i:=a + (e - a) / 4 * 2 - 1) (j:=a + (e - a) / 4 * 2) (h:=a + (e - a) / 4 * 2 + 1) (k:=q1.2) (n:=d.size) (by omega) (by omega) (by omega)
   have r2:(Sort.medianAdjacent lt d (a + (e - a) / 4 * 2) q1.2).1<d.size∧(Sort.medianAdjacent lt d (a + (e - a) / 4 * 2) q1.2).2≤q1.2 + 3:=m2
   refine ha s2 hsb hsz (by omega) (by omega) (by omega) fun M3 s3 k3=>?_
   generalize Sort.medianAdjacent lt d (a + (e - a) / 4 * 2) q1.2=q2 at *
   have m3:=rU lt d (i:=a + (e - a) / 4 * 3 - 1) (j:=a + (e - a) / 4 * 3) (h:=a + (e - a) / 4 * 3 + 1) (k:=q2.2) (n:=d.size) (by omega) (by omega) (by omega)
   have r3:(Sort.medianAdjacent lt d (a + (e - a) / 4 * 3) q2.2).1<d.size∧(Sort.medianAdjacent lt d (a + (e - a) / 4 * 3) q2.2).2≤q2.2 + 3:=m3
   refine ha s3 hsb hsz (by omega) (by omega) (by omega) fun M4 s4 k4=>?_
   generalize Sort.medianAdjacent lt d (a + (e - a) / 4 * 3) q2.2=q3 at *
   exact hJ0 _ _ ⟨q1.1,q2.1,q3.1,q3.2,rfl,s4,(k2.trans k3).trans k4,r1.1,r2.1,r3.1,by omega,hr⟩
  ·have h50:¬ e - a ≥ 50:=of_decide_eq_false h50
   rw [if_neg h50] at hr
   exact hJ0 _ _ ⟨_,_,_,0,rfl,sw0,ag.refl _ _,by omega,by omega,by omega,by omega,hr⟩
 ·have h8:¬ e - a ≥ 8:=of_decide_eq_false h8
  rw [if_neg h8] at hr
  subst hr
  exact hJ _ _ ⟨rfl,sw0,ag.refl _ _⟩
def Ep (T:Nat) (fv:AV) (lt:Go.Ab.ak.ak→Go.Ab.ak.ak→Bool) (c:aj) : Prop:=∀ {M:RM} {b a e:Nat} {d:Array Go.Ab.ak.ak} {Q:ah},At aR T b d M→d.size≤60000→a<e→e≤d.size→(∀ M',At aR T b (Sort.partialInsertionSort lt d a e).1 M'→ag [b] M M'→Q (Bo (Sort.partialInsertionSort lt d a e).2) M') →
 c [sv b d.size 2,N .i64 (a:Int),N .i64 (e:Int),fv] M Q
theorem Ew {T:Nat} {fv:AV} {lt:Go.Ab.ak.ak→Go.Ab.ak.ak→Bool} {cv:FuncId→aj} (hl:lM aR lt (bN cv fv)) : Ep T fv lt fun args M Q=>∃ a0 a1 a2 a3,args=[a0,a1,a2,a3]∧fV cv a0 a1 a2 a3 M Q:=by
 intro M b a e d Q hat hsz hae he hQ
 refine ⟨_,_,_,_,rfl, ?_⟩
 unfold fV
 simp only [eD,dN,dQ,bT]
 rw [add1 (by omega)]
 unfold Sort.partialInsertionSort at hQ
 obtain ⟨R,hR⟩ : ∃ R,R=Sort.partialIns lt a e 5 (a + 1) d:=⟨_,rfl⟩
 rw [← hR] at hQ
 refine aG (fun m ys M3=>∃ (i s:Nat) (d3:Array Go.Ab.ak.ak),m=s∧s≤5∧ys=[N .i64 (i:Int),N .i64 ((5 - s:Nat) : Int)]∧a + 1≤i∧i≤e∧At aR T b d3 M3∧ag [b] M M3∧d3.size=d.size∧R=Sort.partialIns lt a e s i d3) _ ⟨a + 1,5,d,rfl,by omega,rfl,by omega,by omega,hat,ag.refl _ _,rfl,hR⟩ ?_
 rintro next m ys M3 hnext ⟨i,s,d3,hms,hs5,rfl,hai,hie,h3,k3,hs3,hm⟩
 dsimp only [aa]
 rw [show (5:Int)=((5:Nat) : Int) from rfl,dS]
 refine aF (fun hg=>?_) (fun hg=>?_)
 ·have hg:5 - s<5:=of_decide_eq_true hg
  obtain ⟨s',rfl⟩ : ∃ s',s=s' + 1:=⟨s - 1,by omega⟩
  rw [qV] at hm
  refine aZ (fun zs M'=>∃ (i' : Nat) (d4:Array Go.Ab.ak.ak),zs=[N .i64 (i' : Int)]∧a + 1≤i'∧i'≤e∧At aR T b d4 M'∧ag [b] M M'∧d4.size=d.size∧R=Sort.partialIns lt a e s' i' d4) ?_ ?_
  ·rintro zs M' ⟨i',d4,rfl,h1,h2,h4,k4,h5,h6⟩
   dsimp only [aa]
   rw [add1 (by omega)]
   exact hnext _ _ _ (by omega) ⟨i',s',d4,rfl,by omega,by congr 4; omega,h1,h2,h4,k4,h5,h6⟩
  intro J hJ
  obtain ⟨R5,hR5⟩ : ∃ R5,R5=Sort.scanSorted lt d3 e i:=⟨_,rfl⟩
  rw [← hR5] at hm
  refine aG (fun m ys M5=>∃ (j:Nat),m=e - j∧ys=[N .i64 (j:Int)]∧i≤j∧j≤e∧At aR T b d3 M5∧ag [b] M M5∧R5=Sort.scanSorted lt d3 e j) _ ⟨i,rfl,rfl,Nat.le_refl _,hie,h3,k3,hR5⟩ ?_
  rintro next2 m ys M5 hnext2 ⟨j,rfl,rfl,hij,hje,h5,k5,hm5⟩
  dsimp only [aa]
  rw [Sort.scanSorted] at hm5
  rw [dS]
  refine lu (P:=fun M'=>At aR T b d3 M'∧ag [b] M M') (p:=!lt d3[j]! d3[j - 1]!) ⟨h5,k5⟩ (fun hc k hk=>?_) fun M6 ⟨h6,k6⟩=>?_
  ·have hc:j<e:=of_decide_eq_true hc
   rw [h5.rd (z:=2) rfl hs3.symm (by omega),bD (by omega) (by omega),h5.rd (z:=2) rfl hs3.symm (by omega)]
   refine hl.use fun M7 k7=>?_
   rw [bB]
   exact hk M7 ⟨h5.keep k7,k5.trans (k7.mono (cs:=[b]) (by simp))⟩
  refine aF (fun h=>?_) (fun h=>?_)
  ·have hc:j<e:=by
    rw [Bool.and_eq_true] at h
    exact of_decide_eq_true h.1
   rw [if_pos h] at hm5
   rw [add1 (by omega)]
   exact hnext2 _ _ _ (by omega) ⟨j + 1,rfl,rfl,by omega,by omega,h6,k6,hm5⟩
  rw [if_neg (by rw [h]; decide)] at hm5
  subst hm5
  rw [HV]
  refine aF (fun hje2=>?_) (fun hje2=>?_)
  ·rw [if_pos (of_decide_eq_true hje2)] at hm
   rw [hm] at hQ
   exact hQ M6 h6 k6
  have hje2:¬ R5=e:=of_decide_eq_false hje2
  rw [if_neg hje2] at hm
  rw [dK (by omega) (by omega),show (50:Int)=((50:Nat) : Int) from rfl,dS]
  refine aF (fun h50=>?_) (fun h50=>?_)
  ·rw [if_pos (of_decide_eq_true h50)] at hm
   rw [hm] at hQ
   exact hQ M6 h6 k6
  rw [if_neg (of_decide_eq_false h50)] at hm
  rw [bD (by omega) (by omega),bD (by omega) (by omega),h6.rd (z:=2) rfl hs3.symm (by omega),h6.rd (z:=2) rfl hs3.symm (by omega)]
  refine h6.swap (z:=2) rfl hs3.symm (by omega) (by omega) fun M7 h7 k7'=>?_
  have k7:=k6.trans k7'
  have hs6:(Sort.swp d3 R5 (R5 - 1)).size=d.size:=by rw [bS,hs3]
  generalize Sort.swp d3 R5 (R5 - 1)=d6 at *
  refine aZ (fun zs M'=>zs=[]∧At aR T b (if R5 - a ≥ 2 then Sort.shiftDown lt (R5 - 1) d6 else d6) M'∧ag [b] M M') ?_ ?_
  ·rintro zs M8 ⟨rfl,h8,k8⟩
   have hs7:(if R5 - a ≥ 2 then Sort.shiftDown lt (R5 - 1) d6 else d6).size=d.size:=by
    split
    ·rw [tL,hs6]
    ·exact hs6
   generalize (if R5 - a ≥ 2 then Sort.shiftDown lt (R5 - 1) d6 else d6)=d7 at *
   rw [dK (by omega) (by omega),show (2:Int)=((2:Nat) : Int) from rfl,gQ]
   refine aF (fun h2=>?_) (fun h2=>?_)
   ·rw [if_pos (of_decide_eq_true h2)] at hm
    rw [add1 (by omega)]
    obtain ⟨R8,hR8⟩ : ∃ R8,R8=Sort.shiftUp lt e (R5 + 1) d7:=⟨_,rfl⟩
    rw [← hR8] at hm
    refine aG (fun m ys M8=>∃ (j:Nat) (d8:Array Go.Ab.ak.ak),m=e - j∧ys=[N .i64 (j:Int)]∧R5 + 1≤j∧j≤e∧At aR T b d8 M8∧ag [b] M M8∧d8.size=d.size∧R8=Sort.shiftUp lt e j d8) _ ⟨R5 + 1,d7,rfl,rfl,Nat.le_refl _,by omega,h8,k8,hs7,hR8⟩ ?_
    rintro next3 m ys M9 hnext3 ⟨j,d8,rfl,rfl,hj1,hj2,h9,k9,hs8',hm8⟩
    dsimp only [aa]
    rw [Sort.shiftUp] at hm8
    rw [dS]
    refine aF (fun hl1=>?_) (fun hl1=>?_)
    ·have hl1:j<e:=of_decide_eq_true hl1
     rw [if_pos hl1] at hm8
     rw [h9.rd (z:=2) rfl hs8'.symm (by omega),bD (by omega) (by omega),h9.rd (z:=2) rfl hs8'.symm (by omega)]
     refine hl.use fun M10 k10'=>?_
     have h10:=h9.keep k10'
     have k10:=k9.trans (k10'.mono (cs:=[b]) (by simp))
     rw [bB]
     refine aF (fun hn=>?_) (fun hn=>?_)
     ·rw [if_pos hn] at hm8
      subst hm8
      exact hJ _ _ ⟨R5,R8,rfl,by omega,by omega,h10,k10,hs8',hm⟩
     ·rw [if_neg (by rw [hn]; decide)] at hm8
      rw [bD (by omega) (by omega),bD (by omega) (by omega),h10.rd (z:=2) rfl hs8'.symm (by omega),h10.rd (z:=2) rfl hs8'.symm (by omega)]
      refine h10.swap (z:=2) rfl hs8'.symm (by omega) (by omega) fun M11 h11 k11=>?_
      rw [add1 (by omega)]
      exact hnext3 _ _ _ (by omega) ⟨j + 1,_,rfl,rfl,by omega,by omega,h11,k10.trans k11,by rw [bS,hs8'],hm8⟩
    ·rw [if_neg (of_decide_eq_false hl1)] at hm8
     subst hm8
     exact hJ _ _ ⟨R5,R8,rfl,by omega,by omega,h9,k9,hs8',hm⟩
   ·rw [if_neg (of_decide_eq_false h2)] at hm
    exact hJ _ _ ⟨R5,d7,rfl,by omega,by omega,h8,k8,hs7,hm⟩
  intro J2 hJ2
  rw [dK (by omega) (by omega),show (2:Int)=((2:Nat) : Int) from rfl,gQ]
  refine aF (fun h2=>?_) (fun h2=>?_)
  ·rw [if_pos (of_decide_eq_true h2)] at hJ2
   rw [bD (by omega) (by omega)]
   obtain ⟨R8,hR8⟩ : ∃ R8,R8=Sort.shiftDown lt (R5 - 1) d6:=⟨_,rfl⟩
   rw [← hR8] at hJ2
   refine aG (fun m ys M8=>∃ (j:Nat) (d8:Array Go.Ab.ak.ak),m=j + 1∧ys=[N .i64 (j:Int)]∧j<R5∧At aR T b d8 M8∧ag [b] M M8∧d8.size=d.size∧R8=Sort.shiftDown lt j d8) _ ⟨R5 - 1,d6,rfl,rfl,by omega,h7,k7,hs6,hR8⟩ ?_
   rintro next3 m ys M8 hnext3 ⟨j,d8,rfl,rfl,hj1,h8,k8,hs8',hm8⟩
   dsimp only [aa]
   rw [show (1:Int)=((1:Nat) : Int) from rfl,gQ]
   refine aF (fun hl1=>?_) (fun hl1=>?_)
   ·have hl1:j ≥ 1:=of_decide_eq_true hl1
    obtain ⟨j',rfl⟩ : ∃ j',j=j' + 1:=⟨j - 1,by omega⟩
    rw [Sort.shiftDown] at hm8
    rw [h8.rd (z:=2) rfl hs8'.symm (by omega),dK (by omega) (by omega),Nat.add_sub_cancel,h8.rd (z:=2) rfl hs8'.symm (by omega)]
    refine hl.use fun M10 k10'=>?_
    have h10:=h8.keep k10'
    have k10:=k8.trans (k10'.mono (cs:=[b]) (by simp))
    rw [bB]
    refine aF (fun hn=>?_) (fun hn=>?_)
    ·rw [if_pos hn] at hm8
     subst hm8
     exact hJ2 _ _ ⟨rfl,h10,k10⟩
    ·rw [if_neg (by rw [hn]; decide)] at hm8
     rw [dK (by omega) (by omega),dK (by omega) (by omega),Nat.add_sub_cancel,h10.rd (z:=2) rfl hs8'.symm (by omega),h10.rd (z:=2) rfl hs8'.symm (by omega)]
     refine h10.swap (z:=2) rfl hs8'.symm (by omega) (by omega) fun M11 h11 k11=>?_
     rw [dK (by omega) (by omega),Nat.add_sub_cancel]
     exact hnext3 _ _ _ (by omega) ⟨j',_,rfl,rfl,by omega,h11,k10.trans k11,by rw [bS,hs8'],hm8⟩
   ·have hl1:¬ j ≥ 1:=of_decide_eq_false hl1
    have h0:j=0:=by omega
    subst h0
    rw [Sort.shiftDown] at hm8
    subst hm8
    exact hJ2 _ _ ⟨rfl,h8,k8⟩
  ·rw [if_neg (of_decide_eq_false h2)] at hJ2
   exact hJ2 _ _ ⟨rfl,h7,k7⟩
 ·have hg:¬ 5 - s<5:=of_decide_eq_false hg
  have h0:s=0:=by omega
  subst h0
  rw [Sort.partialIns] at hm
  rw [hm] at hQ
  exact hQ M3 h3 k3
theorem KN {T TX:Nat} {fv:AV} {cp cx:aj} (hp:LP cp) (hx:QJ TX cx) : SortG aR T 2 fv Sort.breakPatterns (fun _ _ _=>True) fun args M Q=>∃ a0 a1 a2 a3,args=[a0,a1,a2,a3]∧jq TX cp cx a0 a1 a2 a3 M Q:=by
 intro M b a e d Q hat hsz hae he _ hQ
 refine ⟨_,_,_,_,rfl, ?_⟩
 unfold jq
 simp only [bT]
 rw [dK hae (by omega),show (8:Int)=((8:Nat) : Int) from rfl,gQ]
 unfold Sort.breakPatterns at hQ
 refine aF (fun h8=>?_) (fun h8=>?_)
 ·have h8:e - a ≥ 8:=of_decide_eq_true h8
  rw [if_pos h8] at hQ
  have hbl:=sG (x:=e - a) (by omega) (by omega)
  rw [jB,gV (by omega) (by omega),bi]
  have kk:ag [] M (M.push (.row [(N .u64 0)] false TX 0)):=(ag.refl _ _).push _
  have hsb:M.next≠b:=by have:=hat.lt; omega
  have hh0:(M.push (.row [(N .u64 0)] false TX 0)).heap M.next=some (.row [N .u64 0] false TX 0):=RM.aQ _
  have hl64:(UInt64.ofNat (e - a)).toNat=e - a:=by rw [UInt64.toNat_ofNat']; omega
  have hn0:M.next<(M.push (.row [(N .u64 0)] false TX 0)).next:=by simp [RM.push]
  rw [eB hh0 (by simp) rfl rfl]
  have kS:ag [] M ((M.push (.row [(N .u64 0)] false TX 0)).put M.next (.row (([N .u64 0] : List AV).set 0 (N .u64 ((e - a:Nat) : Int))) false TX 0)):=kk.new _ (Nat.le_refl _)
  have hs1:((M.push (.row [(N .u64 0)] false TX 0)).put M.next (.row (([N .u64 0] : List AV).set 0 (N .u64 ((e - a:Nat) : Int))) false TX 0)).heap M.next=some (.row [N .u64 ((UInt64.ofNat (e - a)).toNat:Int)] false TX 0):=by
   rw [aP,hl64]; rfl
  have hn1:M.next<((M.push (.row [(N .u64 0)] false TX 0)).put M.next (.row (([N .u64 0] : List AV).set 0 (N .u64 ((e - a:Nat) : Int))) false TX 0)).next:=hn0
  generalize (M.push (.row [(N .u64 0)] false TX 0)).put M.next (.row (([N .u64 0] : List AV).set 0 (N .u64 ((e - a:Nat) : Int))) false TX 0)=M1 at *
  have hat1:=hat.keep kS
  have back:∀ M',ag [b,M.next] M1 M'→ag [b] M M':=fun M' k=>(kS.mono (cs:=[b]) (by simp)).dB k fun c hc=>by simp at hc; rcases hc with h | h <;> simp [h]
  generalize M.next=s at *
  refine hp (by omega) (by omega) ?_
  have hq:∀ (c:Int),c=((2:Nat) : Int)→∀ (K:AV→Prop),(af .quo (N .i64 ((e - a:Nat) : Int)) (N .i64 4) fun t18=>af .mul t18 (N .i64 c) fun t19=>af .add (N .i64 (a:Int)) t19 K)=K (N .i64 ((a + (e - a) / 4 * 2:Nat) : Int)):=fun c hc K=>by
   subst hc
   rw [jo,show (4:Int)=((4:Nat) : Int) from rfl,l8,aW (by omega) (by omega),pO,← Int.natCast_mul,aW (by omega) (by omega),addN (by omega)]
   exact propext ⟨fun h=>h.2,fun h=>⟨by decide,h⟩⟩
  rw [hq 2 rfl,bD (by omega) (by omega)]
  have hst3:(Sort.breakStep a (e - a) (1 <<< Sort.bitsLen (e - a)) (Sort.breakStep a (e - a) (1 <<< Sort.bitsLen (e - a)) (Sort.breakStep a (e - a) (1 <<< Sort.bitsLen (e - a)) (UInt64.ofNat (e - a),d) (a + (e - a) / 4 * 2 - 1)) (a + (e - a) / 4 * 2 - 1 + 1)) (a + (e - a) / 4 * 2 - 1 + 2)).2=(oL a (e - a) (2 ^ Sort.bitsLen (e - a)) (a + (e - a) / 4 * 2 - 1) d 3).2:=by
   rw [Nat.shiftLeft_eq,Nat.one_mul]; rfl
  have hQ:∀ M',At aR T b (oL a (e - a) (2 ^ Sort.bitsLen (e - a)) (a + (e - a) / 4 * 2 - 1) d 3).2 M'→ag [b] M M'→Q (.tup []) M':=fun M' h k=>hQ M' (by rw [hst3]; exact h) k
  generalize hmd:2 ^ Sort.bitsLen (e - a)=md at *
  generalize hi0:a + (e - a) / 4 * 2 - 1=i0 at *
  refine aG (fun m ys M3=>∃ (k:Nat),m=3 - k∧k≤3∧ys=[N .i64 ((i0 + k:Nat) : Int)]∧At aR T b (oL a (e - a) md i0 d k).2 M3∧M3.heap s=some (.row [N .u64 ((oL a (e - a) md i0 d k).1.toNat:Int)] false TX 0)∧s<M3.next∧ag [b,s] M1 M3) _ ⟨0,rfl,by omega,rfl,hat1,hs1,hn1,ag.refl _ _⟩ ?_
  rintro next m ys M3 hnext ⟨k,rfl,hk,rfl,h3,hh3,hn3,k3⟩
  dsimp only [aa]
  have hsk:=KS a (e - a) md i0 d k
  have hnx' : oL a (e - a) md i0 d (k + 1)=Sort.breakStep a (e - a) md (oL a (e - a) md i0 d k) (i0 + k):=rfl
  generalize hstk:oL a (e - a) md i0 d k=st at *
  rw [hq 2 rfl,add1 (by omega),jG]
  refine aF (fun hg=>?_) (fun hg=>?_)
  ·have hg:i0 + k≤a + (e - a) / 4 * 2 + 1:=of_decide_eq_true hg
   refine aZ (fun zs M'=>At aR T b (oL a (e - a) md i0 d (k + 1)).2 M'∧M'.heap s=some (.row [N .u64 ((oL a (e - a) md i0 d (k + 1)).1.toNat:Int)] false TX 0)∧s<M'.next∧ag [b,s] M1 M') ?_ ?_
   ·rintro zs M' ⟨c1,c2,c3,c4⟩
    rw [add1 (by omega)]
    exact hnext _ _ _ (by omega) ⟨k + 1,rfl,by omega,rfl,c1,c2,c3,c4⟩
   intro J hJ
   refine hx hh3 hn3 fun M4 hh4 k4 n4=>?_
   have h4:=h3.keep' k4 (by simp; omega)
   rw [hnx'] at hJ
   unfold Sort.breakStep at hJ
   dsimp only at hJ
   generalize Sort.xorNext st.1=r at *
   rw [fJ,gV (by omega) (by omega),show (md:Int) - 1=((md - 1:Nat) : Int) by omega,Aj,EL rfl]
   have hlt:r.toNat &&& (md - 1)<md:=by
    rw [← hmd,Nat.and_two_pow_sub_one_eq_mod]
    exact Nat.mod_lt _ (by rw [hmd]; omega)
   rw [Nat.mod_eq_of_lt (show r.toNat &&& (md - 1)<2 ^ uX .u64 by show _<2 ^ 64; omega)]
   generalize r.toNat &&& (md - 1)=o at *
   rw [jB,aW (by omega) (by omega)]
   refine aZ (fun zs M'=>zs=[N .i64 (((if o ≥ e - a then o - (e - a) else o) : Nat) : Int)]∧M'=M4) ?_ ?_
   ·rintro zs M' ⟨rfl,rfl⟩
    dsimp only [aa]
    have ho:(if o ≥ e - a then o - (e - a) else o)<e - a:=by split <;> omega
    generalize (if o ≥ e - a then o - (e - a) else o)=o2 at *
    rw [addN (by omega),addN (by omega),h4.rd (z:=2) rfl hsk.symm (by omega),h4.rd (z:=2) rfl hsk.symm (by omega)]
    refine h4.swap (z:=2) rfl hsk.symm (by omega) (by omega) fun M5 h5 k5=>?_
    exact hJ _ _ ⟨h5,k5.aK hh4 (by omega) (by simp; omega),by have:=k5.next; omega,(k3.trans (k4.mono (cs:=[b,s]) (by simp))).trans (k5.mono (cs:=[b,s]) (by simp))⟩
   intro J4 hJ4
   rw [gQ]
   refine aF (fun hg2=>?_) (fun hg2=>?_)
   ·have hg2:o ≥ e - a:=of_decide_eq_true hg2
    rw [dK (by omega) (by omega)]
    exact hJ4 _ _ ⟨by rw [if_pos hg2],rfl⟩
   ·exact hJ4 _ _ ⟨by rw [if_neg (of_decide_eq_false hg2)],rfl⟩
  ·have hg:¬ i0 + k≤a + (e - a) / 4 * 2 + 1:=of_decide_eq_false hg
   have hk3:k=3:=by omega
   subst hk3
   rw [hstk] at hQ
   exact hQ M3 h3 (back M3 k3)
 ·rw [if_neg (of_decide_eq_false h8)] at hQ
  exact hQ M hat (ag.refl _ _)
def Pz (T m:Nat) (fv:AV) (lt:Go.Ab.ak.ak→Go.Ab.ak.ak→Bool) (c:aj) : Prop:=∀ {M:RM} {b a e limit:Nat} {d:Array Go.Ab.ak.ak} {Q:ah},At aR T b d M→d.size≤60000→a≤e→e≤d.size→e - a<m→limit≤1000000→(∀ M',At aR T b (Sort.pdq lt d a e limit true true) M'→ag [b] M M'→Q (.tup []) M') →
 c [sv b d.size 2,N .i64 (a:Int),N .i64 (e:Int),N .i64 (limit:Int),fv] M Q
theorem QI {T m:Nat} {fv:AV} {lt:Go.Ab.ak.ak→Go.Ab.ak.ak→Bool} {cv:FuncId→aj} {ci ch cb cc cr cp ce ct cq:aj} (hlt:Sort.SWO lt) (hi:SortG aR T 2 fv (Sort.insertionSort lt) (fun _ _ _=>True) ci) (hh:SortG aR T 2 fv (Sort.heapSort lt) (fun _ a e=>a<e) ch) (hb:SortG aR T 2 fv Sort.breakPatterns (fun _ _ _=>True) cb) (hc:H5 T fv lt cc) (hr:SortG aR T 2 fv Sort.reverseRange (fun _ a e=>a<e) cr)
  (hp:Ep T fv lt cp) (hl:lM aR lt (bN cv fv)) (he:G8 T fv lt ce) (ht:P6 T fv lt ct) (hq:Pz T m fv lt cq) : Pz T (m + 1) fv lt fun args M Q=>∃ a0 a1 a2 a3 a4,args=[a0,a1,a2,a3,a4]∧gZ ci ch cb cc cr cp cv ce ct cq a0 a1 a2 a3 a4 M Q:=by
 intro M b a e limit d Q hat hsz hae hed hm hlim hQ
 refine ⟨_,_,_,_,_,rfl, ?_⟩
 unfold gZ
 simp only [eD,dN,dQ,bT]
 obtain ⟨R,hR⟩ : ∃ R,R=Sort.pdq lt d a e limit true true:=⟨_,rfl⟩
 rw [← hR] at hQ
 refine aG (fun m' ys M3=>∃ (a e limit:Nat) (wb wp:Bool) (d3:Array Go.Ab.ak.ak),m'=e - a∧ys=[N .i64 (a:Int),N .i64 (e:Int),N .i64 (limit:Int),Bo wb,Bo wp]∧a≤e∧e≤d.size∧e - a<m + 1∧limit≤1000000∧At aR T b d3 M3∧ag [b] M M3∧d3.size=d.size∧R=Sort.pdq lt d3 a e limit wb wp) _
  ⟨a,e,limit,true,true,d,rfl,rfl,hae,hed,hm,hlim,hat,ag.refl _ _,rfl,hR⟩ ?_
 clear hR hae hed hm hlim
 rintro next m' ys M4 hnext ⟨a,e,limit,wb,wp,d3,rfl,rfl,hae,hed,hm,hlim,h4,k4,hs3,hR⟩
 dsimp only [aa]
 rw [vJ] at hR
 rw [dK hae (by omega),show (12:Int)=((12:Nat) : Int) from rfl,jG]
 refine aF (fun hg=>?_) (fun hg=>?_)
 ·rw [if_pos (of_decide_eq_true hg)] at hR
  rw [← hs3]
  refine hi h4 (by omega) hae (by omega) trivial fun M5 h5 k5=>?_
  rw [← hR] at h5
  exact hQ M5 h5 (k4.trans k5)
 have hg:¬ e - a≤12:=of_decide_eq_false hg
 rw [if_neg hg] at hR
 rw [show (0:Int)=((0:Nat) : Int) from rfl,HV]
 refine aF (fun hg0=>?_) (fun hg0=>?_)
 ·rw [if_pos (of_decide_eq_true hg0)] at hR
  rw [← hs3]
  refine hh h4 (by omega) hae (by omega) (by omega) fun M5 h5 k5=>?_
  rw [← hR] at h5
  exact hQ M5 h5 (k4.trans k5)
 have hg0:¬ limit=0:=of_decide_eq_false hg0
 rw [if_neg hg0] at hR
 refine aZ (fun zs M'=>zs=[N .i64 (((if !wb then limit - 1 else limit) : Nat) : Int)]∧At aR T b (if !wb then Sort.breakPatterns d3 a e else d3) M'∧ag [b] M M') ?_ ?_
 ·rintro zs M5 ⟨rfl,h5,k5⟩
  dsimp only [aa]
  have hs5:(if !wb then Sort.breakPatterns d3 a e else d3).size=d.size:=by
   split
   ·rw [Jd,hs3]
   ·exact hs3
  have hl5:(if !wb then limit - 1 else limit)≤1000000:=by split <;> omega
  generalize (if !wb then Sort.breakPatterns d3 a e else d3)=d5 at *
  generalize (if !wb then limit - 1 else limit)=lim at *
  rw [← hs5]
  refine hc h5 (by omega) (by omega) (by omega) fun M6 h6 k6=>?_
  rw [hs5]
  have hcr:=Sort.choosePivot_holds lt d5 a e (by omega)
  unfold gA at hR
  generalize Sort.choosePivot lt d5 a e=cpv at *
  have k6':=k5.trans (k6.mono (cs:=[b]) (by simp))
  rw [ic,il]
  refine aZ (fun zs M'=>zs=[N .i64 (((if cpv.2=.decreasing then (e - 1) - (cpv.1 - a) else cpv.1) : Nat) : Int),N .i64 (kg (if cpv.2=.decreasing then .increasing else cpv.2))]∧At aR T b (if cpv.2=.decreasing then Sort.reverseRange d5 a e else d5) M'∧ag [b] M M') ?_ ?_
  ·rintro zs M7 ⟨rfl,h7,k7⟩
   dsimp only [aa]
   have hs7:(if cpv.2=.decreasing then Sort.reverseRange d5 a e else d5).size=d.size:=by
    split
    ·rw [Qy,hs5]
    ·exact hs5
   have hpv:a≤(if cpv.2=.decreasing then (e - 1) - (cpv.1 - a) else cpv.1)∧(if cpv.2=.decreasing then (e - 1) - (cpv.1 - a) else cpv.1)<e:=by
    split <;> omega
   generalize (if cpv.2=.decreasing then Sort.reverseRange d5 a e else d5)=d7 at *
   generalize (if cpv.2=.decreasing then (e - 1) - (cpv.1 - a) else cpv.1)=pv at *
   generalize (if cpv.2=.decreasing then Sort.Hint.increasing else cpv.2)=hint at *
   unfold gB gP at hR
   refine aZ (fun zs M'=>∃ d8:Array Go.Ab.ak.ak,At aR T b d8 M'∧ag [b] M M'∧d8.size=d.size∧R=gC lt d8 a e pv lim wb wp) ?_ ?_
   ·rintro zs M8 ⟨d8,h8,k8,hs8,hR8⟩
    unfold gC at hR8
    rw [nz]
    refine lu (P:=fun M'=>At aR T b d8 M'∧ag [b] M M') (p:=!lt d8[a - 1]! d8[pv]!) ⟨h8,k8⟩ (fun hc k hk=>?_) fun M9 ⟨h9,k9⟩=>?_
    ·have hc:a > 0:=of_decide_eq_true hc
     rw [bD (by omega) (by omega),h8.rd (z:=2) rfl hs8.symm (by omega),h8.rd (z:=2) rfl hs8.symm (by omega)]
     refine hl.use fun M10 k10=>?_
     rw [bB]
     exact hk M10 ⟨h8.keep k10,k8.trans (k10.mono (cs:=[b]) (by simp))⟩
    refine aF (fun h=>?_) (fun h=>?_)
    ·rw [if_pos h] at hR8
     rw [← hs8]
     have hE:=Il lt d8 a e pv (by omega)
     refine he h9 (by omega) hpv.1 hpv.2 (by omega) fun M10 h10 k10=>?_
     generalize Sort.partitionEqual lt d8 a e pv=pe at *
     dsimp only at hR8
     rw [dif_pos ⟨hE.2.1,hE.2.2⟩] at hR8
     exact hnext _ _ _ (by omega) ⟨pe.1,e,lim,wb,wp,pe.2,rfl,rfl,hE.2.2,hed,by omega,hl5,h10,k9.trans k10,by rw [hE.1,hs8],hR8⟩
    ·rw [if_neg (by rw [h]; decide)] at hR8
     rw [← hs8]
     have hT:=Sort.partition_holds lt hlt d8 a e pv hpv.1 hpv.2 (by omega)
     have hTs:=KY lt d8 a e pv
     refine ht h9 (by omega) hpv.1 hpv.2 (by omega) fun M10 h10 k10=>?_
     have k10':=k9.trans k10
     generalize Sort.partition lt d8 a e pv=pp at *
     obtain ⟨mid,ap,d9⟩:=pp
     dsimp only at hR8 hT hTs h10 ⊢
     rw [dif_pos ⟨hT.1,hT.2.1⟩] at hR8
     have hT1:=hT.1
     have hT2:=hT.2.1
     rw [ic,il,dK hT1 (by omega),dK (by omega) (by omega),jo]
     refine ⟨by decide, ?_⟩
     rw [show (8:Int)=((8:Nat) : Int) from rfl,l8,aW (by omega) (by omega),dS]
     refine aF (fun hc1=>?_) (fun hc1=>?_)
     ·have hc1:mid - a<e - mid:=of_decide_eq_true hc1
      rw [if_pos hc1] at hR8
      rw [gQ,← hTs]
      refine hq h10 (by omega) hT1 (by omega) (by omega) hl5 fun M11 h11 k11=>?_
      rw [add1 (by omega)]
      exact hnext _ _ _ (by omega) ⟨mid + 1,e,lim,_,ap,_,rfl,rfl,by omega,hed,by omega,hl5,h11,k10'.trans k11,by rw [uQ lt _ _ _ _ _ _ _ (Nat.le_refl _),hTs,hs8],hR8⟩
     ·have hc1:¬ mid - a<e - mid:=of_decide_eq_false hc1
      rw [if_neg hc1] at hR8
      rw [gQ,add1 (by omega),← hTs]
      refine hq h10 (by omega) (by omega) (by omega) (by omega) hl5 fun M11 h11 k11=>?_
      exact hnext _ _ _ (by omega) ⟨a,mid,lim,_,ap,_,rfl,rfl,hT1,by omega,by omega,hl5,h11,k10'.trans k11,by rw [uQ lt _ _ _ _ _ _ _ (Nat.le_refl _),hTs,hs8],hR8⟩
   intro J10 hJ10
   have no:¬ (wb && wp && decide (hint=.increasing))=true→J10 [] M7:=fun hn=>by
    have hpi:(if (wb && wp && decide (hint=.increasing))=true then Sort.partialInsertionSort lt d7 a e else (d7,false))=(d7,false):=if_neg hn
    rw [hpi] at hR
    exact hJ10 _ _ ⟨d7,h7,k7,hs7,hR⟩
   cases wb with
   | false =>
     rw [bL]
     dsimp only
     rw [dz,bL]
     dsimp only
     rw [bL]
     dsimp only
     rw [dz,bF]
     exact no (by simp)
   | true =>
     rw [cz]
     dsimp only
     rw [dO]
     cases wp with
     | false =>
       rw [bL]
       dsimp only
       rw [bL]
       dsimp only
       rw [dz,bF]
       exact no (by simp)
     | true =>
       rw [cz]
       dsimp only
       rw [cz]
       dsimp only
       rw [df,dO]
       by_cases hin:hint=.increasing
       ·rw [show (kg hint == 1)=true by rw [hin]; rfl,dC]
        have hpi:(if (true && true && decide (hint=.increasing))=true then Sort.partialInsertionSort lt d7 a e else (d7,false))=Sort.partialInsertionSort lt d7 a e:=if_pos (by simp [hin])
        rw [hpi] at hR
        rw [← hs7]
        have hs8:(Sort.partialInsertionSort lt d7 a e).1.size=d.size:=by
         rw [Sort.partialInsertionSort,xD,hs7]
        refine hp h7 (by omega) (by omega) (by omega) fun M8 h8 k8=>?_
        generalize Sort.partialInsertionSort lt d7 a e=pi at *
        refine aF (fun h=>?_) (fun h=>?_)
        ·rw [if_pos h] at hR
         rw [← hR] at h8
         exact hQ M8 h8 (k7.trans k8)
        ·rw [if_neg (by rw [h]; decide)] at hR
         exact hJ10 _ _ ⟨pi.1,h8,k7.trans k8,hs8,hR⟩
       ·rw [show (kg hint == 1)=false by cases hint <;> first | rfl | exact absurd rfl hin,bF]
        exact no (by simp [hin])
  intro J6 hJ6
  rw [df]
  by_cases hdec:cpv.2=.decreasing
  ·rw [show (kg cpv.2 == 2)=true by rw [hdec]; rfl,dC,← hs5]
   refine hr h6 (by omega) hae (by omega) (by omega) fun M7 h7 k7=>?_
   rw [bD (by omega) (by omega),dK (by omega) (by omega),dK (by omega) (by omega)]
   exact hJ6 _ _ ⟨by rw [if_pos hdec,if_pos hdec]; rfl,by rw [if_pos hdec]; exact h7,k6'.trans k7⟩
  ·rw [show (kg cpv.2 == 2)=false by cases h:cpv.2 <;> first | rfl | exact absurd h hdec,bF]
   exact hJ6 _ _ ⟨by rw [if_neg hdec,if_neg hdec],by rw [if_neg hdec]; exact h6,k6'⟩
 intro J hJ
 rw [bB]
 cases wb with
 | true =>
   rw [Bool.not_true,bF]
   exact hJ _ _ ⟨rfl,h4,k4⟩
 | false =>
   rw [Bool.not_false,dC,← hs3]
   refine hb h4 (by omega) hae (by omega) trivial fun M5 h5 k5=>?_
   rw [bD (by omega) (by omega)]
   exact hJ _ _ ⟨rfl,h5,k4.trans k5⟩
def Ig (c:aj) : Prop:=∀ {M:RM} {v fv:AV} {Q:ah},Q (.tup []) M→c [v,N .i64 0,N .i64 ((0:Nat) : Int),fv] M Q
theorem HZ {cv:FuncId→aj} : Ig fun args M Q=>∃ a0 a1 a2 a3,args=[a0,a1,a2,a3]∧eX cv a0 a1 a2 a3 M Q:=by
 intro M v fv Q hQ
 refine ⟨_,_,_,_,rfl, ?_⟩
 unfold eX
 rw [dm,show IntKind.i64.wrap ((0:Int) + 1)=1 from rfl]
 refine aG (fun m ys M3=>m=0∧ys=[N .i64 1]∧M3=M) 0 ⟨rfl,rfl,rfl⟩ ?_
 rintro next m ys M3 hnext ⟨rfl,rfl,rfl⟩
 dsimp only [aa]
 rw [dF,show decide ((1:Int)<((0:Nat) : Int))=false from rfl,bF]
 exact hQ
def IW (c:aj) : Prop:=∀ {M:RM} {v fv:AV} {Q:ah},Q (.tup []) M→c [v,N .i64 0,N .i64 ((0:Nat) : Int),N .i64 ((0:Nat) : Int),fv] M Q
theorem Hg {cv:FuncId→aj} {ci c2 c3 cc c4 cp c6 c7 c8:aj} (hi:Ig ci) : IW fun args M Q=>∃ a0 a1 a2 a3 a4,args=[a0,a1,a2,a3,a4]∧gZ ci c2 c3 cc c4 cp cv c6 c7 c8 a0 a1 a2 a3 a4 M Q:=by
 intro M v fv Q hQ
 refine ⟨_,_,_,_,_,rfl, ?_⟩
 unfold gZ
 refine aG (fun m ys M3=>m=0∧ys=[N .i64 0,N .i64 ((0:Nat) : Int),N .i64 ((0:Nat) : Int),Bo true,Bo true]∧M3=M) 0 ⟨rfl,rfl,rfl⟩ ?_
 rintro next m ys M3 hnext ⟨rfl,rfl,rfl⟩
 dsimp only [aa]
 rw [fJ,show IntKind.i64.wrap (((0:Nat) : Int) - 0)=0 from rfl,jT,show decide ((0:Int)≤12)=true from rfl,dC]
 exact hi hQ
def j6 (lt:Go.Ab.ak.ak→Go.Ab.ak.ak→Bool) (xs:List Go.Ab.ak.ak) : List Go.Ab.ak.ak:=(Sort.sort lt xs.toArray).toList
theorem Sj (lt:Go.Ab.ak.ak→Go.Ab.ak.ak→Bool) : j6 lt []=[]:=by
 unfold j6 Sort.sort
 rw [vJ,if_pos (by simp),Sort.insertionSort,Sort.insOuter,if_neg (by simp)]
theorem qM {lt:Go.Ab.ak.ak→Go.Ab.ak.ak→Bool} (hlt:Sort.SWO lt) (xs:List Go.Ab.ak.ak) : (j6 lt xs).Perm xs:=by
 have h:=(Sort.sort_sorts lt hlt xs.toArray).1
 have h2:=h.2.2
 rw [Array.extract_eq_self_of_le (by rw [h.1]; exact Nat.le_refl _),Array.extract_eq_self_of_le (Nat.le_refl _)] at h2
 exact h2
theorem U2 {lt:Go.Ab.ak.ak→Go.Ab.ak.ak→Bool} (hlt:Sort.SWO lt) (xs:List Go.Ab.ak.ak) : (j6 lt xs).Pairwise fun x y=>lt y x=false:=by
 rw [List.pairwise_iff_getElem]
 intro i j hi hj hij
 have h:=(Sort.sort_sorts lt hlt xs.toArray)
 have hs:(Sort.sort lt xs.toArray).size=xs.toArray.size:=h.1.1
 unfold j6 at hi hj ⊢
 rw [Array.length_toList] at hi hj
 have:=h.2 i j (Nat.zero_le _) hij (by omega)
 rw [Cj hj,Cj hi] at this
 rw [Array.getElem_toList,Array.getElem_toList]
 exact this
def Io (fv:AV) (lt:Go.Ab.ak.ak→Go.Ab.ak.ak→Bool) (T:Nat) (c:aj) : Prop:=∀ {M:RM} {base:Nat} {v:AV} {xs:List Go.Ab.ak.ak} {Q:ah},Ow aR M base T v xs→xs.length≤60000→(∀ M',Ow aR M' base T v (j6 lt xs)→ag (aH v) M M'→Q (.tup []) M')→c [v,fv] M Q
theorem IA {T:Nat} {fv:AV} {lt:Go.Ab.ak.ak→Go.Ab.ak.ak→Bool} {cl cp:aj} (hlt:Sort.SWO lt) (hl:Aw cl) (hp:∀ m,Pz T m fv lt cp) (h0:IW cp) : Io fv lt T fun args M Q=>∃ a0 a1,args=[a0,a1]∧tF cl cp a0 a1 M Q:=by
 intro M base v xs Q ho hx hQ
 have hs:Sl aR M v xs:=ho.lG
 refine ⟨_,_,rfl, ?_⟩
 unfold tF
 rw [aN.len hs,jB,gV (by omega) (by omega)]
 refine hl (by omega) ?_
 rcases Nat.eq_zero_or_pos xs.length with hn | hn
 ·rw [hn,show Sort.bitsLen 0=0 from rfl]
  refine h0 ?_
  have:=List.length_eq_zero_iff.1 hn
  subst this
  exact hQ M (by rw [Sj]; exact ho) (ag.refl _ _)
 ·obtain ⟨b,rfl,h1,h2,h3,h4⟩:=Own.vO ho hn
  have hb:=sG hn (by omega)
  have hsz:xs.toArray.size=xs.length:=by simp
  have hat:At aR T b xs.toArray M:=⟨by rw [h3],h2⟩
  have hsl:(j6 lt xs).length=xs.length:=(qM hlt xs).length_eq
  have:=hp (xs.length + 1) (M:=M) (b:=b) (a:=0) (e:=xs.toArray.size) (limit:=Sort.bitsLen xs.length) (d:=xs.toArray) (Q:=fun bV M_0=>Q (.tup []) M_0) hat (by omega) (by omega) (Nat.le_refl _) (by omega) (by omega) fun M' h' k'=>?_
  ·have e5:aR.size=2:=rfl
   rw [e5]
   simpa using this
  ·have e:(Sort.pdq lt xs.toArray 0 xs.toArray.size (Sort.bitsLen xs.length) true true)=Sort.sort lt xs.toArray:=by rw [Sort.sort]; simp
   rw [e] at h'
   refine hQ _ ?_ (by simpa [aH] using k')
   have hlast:Own M' base T 2 (.slc b 0 xs.length (.op 2)) (aR.row (j6 lt xs)) xs.length:=.op _ _ _ h1 h'.lt h'.heap (by rw [Enc.eG,hsl]; rfl)
   show Own M' base T 2 (.slc b 0 xs.length (.op 2)) (aR.row (j6 lt xs)) (j6 lt xs).length
   rw [hsl]; exact hlast
end Go.Ab.Crw
set_option maxRecDepth 10000
set_option linter.unusedVariables false
set_option linter.unusedSimpArgs false
namespace Go.Ab.ak
open Go Go.Ab
theorem XZ {ps qs:List Pt} (h1:ps.length=16) (h2:qs.length=16) (h:∀ j,j<16→ps.getD j (0,[])=qs.getD j (0,[])) : ps=qs:=by
 refine List.ext_getElem (by omega) fun j hj hj'=>?_
 have:=h j (by omega)
 rw [List.getD_eq_getElem?_getD,List.getD_eq_getElem?_getD,List.getElem?_eq_getElem hj,List.getElem?_eq_getElem hj'] at this
 exact this
theorem Oz:∀ {xs ys:List Nat},Asc xs→Asc ys→(∀ x,x∈xs↔x∈ys)→xs=ys
 | [],[],_,_,_=>rfl
 | [],y :: ys,_,_,h=>by have:=(h y).2 (by simp); simp at this
 | x :: xs,[],_,_,h=>by have:=(h x).1 (by simp); simp at this
 | x :: xs,y :: ys,h1,h2,h=>by
   have a1:=List.pairwise_cons.1 h1
   have a2:=List.pairwise_cons.1 h2
   have hxy:x=y:=by
    rcases List.mem_cons.1 ((h x).1 (by simp)) with e | e
    ·exact e
    ·rcases List.mem_cons.1 ((h y).2 (by simp)) with e' | e'
     ·exact e'.symm
     ·have:=a2.1 x e; have:=a1.1 y e'; omega
   subst hxy
   refine congrArg (x :: ·) (Oz a1.2 a2.2 fun z=>⟨fun hz=>?_,fun hz=>?_⟩)
   ·rcases List.mem_cons.1 ((h z).1 (by simp [hz])) with e | e
    ·subst e; have:=a1.1 z hz; omega
    ·exact e
   ·rcases List.mem_cons.1 ((h z).2 (by simp [hz])) with e | e
    ·subst e; have:=a2.1 z hz; omega
    ·exact e
theorem MX {u:Nat} {xs:List Nat} (h:∀ y∈xs,u + 1<y) : settle u xs=(u,xs):=by
 cases xs with
 | nil=>rfl
 | cons x xs =>
   have:=h x (by simp)
   unfold settle
   rw [dL,if_neg (by omega)]; rfl
theorem getD_set_ne {u:List Pt} {i j:Nat} {p:Pt} (h:i≠j) : (u.set i p).getD j (0,[])=u.getD j (0,[]):=by
 rw [List.getD_eq_getElem?_getD,List.getD_eq_getElem?_getD,List.getElem?_set_ne h]
theorem zX (j:Nat) : iU.getD j (0,[])=(0,[]):=by
 rw [List.getD_eq_getElem?_getD]
 unfold iU
 by_cases h:j<16
 ·rw [List.getElem?_replicate,if_pos h]; rfl
 ·rw [List.getElem?_replicate,if_neg h]; rfl
end Go.Ab.ak
set_option maxRecDepth 10000
set_option linter.unusedVariables false
set_option linter.unusedSimpArgs false
namespace Go.Ab.ak
open Go Go.Ab
theorem OT {M:RM} {b o:Nat} {x:AV} {K:AV→Prop} (h:M.cell b o=some x) : ax M (.ptr b o) K=K x:=by
 rw [jL,h]; simp
theorem and_false {c:Bool} {f:KR→Prop} {M:RM} {Z:AV→RM→Prop} (hf:c=true→∀ k:KR,k (Bo false) M none→f k) (hZ:Z (Bo false) M) :
  ae (Bo c) true f (fun k=>k .undef M none) (fun t M' b=>aM (Bo c) t (Bo false) fun t'=>Z t' M'):=by
 cases c with
 | false=>rw [ny]; dsimp only; rw [dz]; exact hZ
 | true=>rw [jN]; exact hf rfl _ (by rw [dO]; exact hZ)
end Go.Ab.ak
