/- Part 6 of the ground of the proofs of this seat (texts Q7 to V13). By an AI agent. -/
import Derived.Test.YtngfappichkflaaGreatLis5
import Derived.Lib.IndexMore
set_option maxRecDepth 10000
set_option linter.unusedVariables false
set_option linter.unusedSimpArgs false
namespace Go.Ab.aD
open Go Go.Ab
theorem acE {M:RM} {base T:Nat} {v:AV} {xs:List Nat} (h:Ow aX M base T v xs) (hn:0<xs.length) : ∃ b,v=vv b xs.length∧base≤b∧b<M.next∧M=PM M b T xs.toArray:=by
 obtain⟨b,h1,h2,h3,h4,h5⟩:=Own.yJ h hn
 refine⟨b,h1,h2,h3, ?_⟩
 unfold PM RM.put
 obtain⟨n,hp,lo⟩:=M
 simp only at h4 ⊢
 congr 1
 funext c
 by_cases hc:c=b
 ·subst hc; rw[if_pos rfl,h4]
 ·rw[if_neg hc]
theorem ajW {M:RM} {b T base:Nat} {d:Array Nat} (h1:base≤b) (h2:b<M.next) : Ow aX (PM M b T d) base T (vv b d.size) d.toList:=by
 have:Own (PM M b T d) base T 1 (.slc b 0 d.size (.op 1)) (aX.row d.toList) d.size:=.op _ _ _ h1 h2 PM.heap (by rw[PM.LP]; omega)
 show Own (PM M b T d) base T 1 (.slc b 0 d.size (.op 1)) (aX.row d.toList) d.toList.length
 rw[Array.length_toList]; exact this
theorem YF {M M' : RM} {b T:Nat} {d:Array Nat} (k:ag [] M M') : ag [b] M (PM M' b T d):=(k.mono (by simp)).put _ (.inr (by simp))
def j4 (xs:List Nat) : List Nat:=(Sort.sort lN xs.toArray).toList
theorem abQ:j4 []=[]:=by
 unfold j4 Sort.sort
 rw[pdq_eq,if_pos (by simp),Sort.insertionSort,Sort.insOuter,if_neg (by simp)]
theorem NL (xs:List Nat) : (j4 xs).Perm xs:=by
 have h:=(Sort.sort_sorts lN Vy xs.toArray).1
 have h2:=h.2.2
 rw[Array.extract_eq_self_of_le (by rw[h.1]; exact Nat.le_refl _),Array.extract_eq_self_of_le (Nat.le_refl _)] at h2
 exact h2
theorem G7 (xs:List Nat) : (j4 xs).length=xs.length:=(NL xs).length_eq
theorem adS (xs:List Nat) : Up (j4 xs):=by
 intro i j hi hj hij
 have h:=(Sort.sort_sorts lN Vy xs.toArray)
 have hs:(Sort.sort lN xs.toArray).size=xs.toArray.size:=h.1.1
 unfold j4 at hi hj ⊢
 rw[Array.length_toList] at hi hj
 rcases Nat.lt_or_ge i j with h1 | h1
 ·have:=h.2 i j (Nat.zero_le _) h1 (by omega)
  rw[xC hj,xC hi] at this
  rw[Array.getElem_toList,Array.getElem_toList]
  have:=of_decide_eq_false this
  omega
 ·have:i=j:=by omega
  subst this; exact Nat.le_refl _
def Vz (c:aj) : Prop:=∀ {M:RM} {v:AV} {Q:ak},Q (.tup []) M→c [v,N .i64 0,N .i64 ((0:Nat) : Int),N .i64 ((0:Nat) : Int)] M Q
def VJ (c:aj) : Prop:=∀ {M:RM} {v:AV} {Q:ak},Q (.tup []) M→c [v,N .i64 0,N .i64 ((0:Nat) : Int)] M Q
theorem Yn {cl:aj} : VJ fun args M Q=>∃ a0 a1 a2,args=[a0,a1,a2]∧eZ cl a0 a1 a2 M Q:=by
 intro M v Q hQ
 refine⟨_,_,_,rfl, ?_⟩
 unfold eZ
 rw[cZ,show IntKind.i64.wrap ((0:Int) + 1)=1 from rfl]
 refine aI (fun m ys M3=>m=0∧ys=[N .i64 1]∧M3=M) 0 ⟨rfl,rfl,rfl⟩ ?_
 rintro next m ys M3 hnext ⟨rfl,rfl,rfl⟩
 dsimp only[aa]
 rw[dB,show decide ((1:Int)<((0:Nat) : Int))=false from rfl,bD]
 exact hQ
theorem XT {ci c2 c3 cc c4 cp c5 c6 c7 c8:aj} (hi:VJ ci) : Vz fun args M Q=>∃ a0 a1 a2 a3,args=[a0,a1,a2,a3]∧gY ci c2 c3 cc c4 cp c5 c6 c7 c8 a0 a1 a2 a3 M Q:=by
 intro M v Q hQ
 refine⟨_,_,_,_,rfl, ?_⟩
 unfold gY
 refine aI (fun m ys M3=>m=0∧ys=[N .i64 0,N .i64 ((0:Nat) : Int),N .i64 ((0:Nat) : Int),Bo true,Bo true]∧M3=M) 0 ⟨rfl,rfl,rfl⟩ ?_
 rintro next m ys M3 hnext ⟨rfl,rfl,rfl⟩
 dsimp only[aa]
 rw[ig,show IntKind.i64.wrap (((0:Nat) : Int) - 0)=0 from rfl,lV,show decide ((0:Int)≤12)=true from rfl,dD]
 exact hi hQ
theorem aa8 {T:Nat} {cl cp:aj} (hl:EE cl) (hp:∀ m,Z8 T m cp) (h0:Vz cp) : aaJ (fun xs=>xs.length≤60000) j4 T fun args M Q=>∃ a0,args=[a0]∧y9 cl cp a0 M Q:=by
 intro M base v xs Q ho hx hQ
 have hs:Sl aX M v xs:=ho.jq
 refine⟨_,rfl, ?_⟩
 unfold y9
 have hx:xs.length≤60000:=hx
 rw[aL.len hs,nJ,je (by omega) (by omega)]
 refine hl (by omega) ?_
 rcases Nat.eq_zero_or_pos xs.length with hn | hn
 ·rw[hn,show Sort.bitsLen 0=0 from rfl]
  refine h0 ?_
  have:=List.length_eq_zero_iff.1 hn
  subst this
  exact hQ M (by rw[abQ]; exact ho) (ag.refl _ _)
 ·obtain⟨b,rfl,h1,h2,h3⟩:=acE ho hn
  have hb:=xg hn (by omega)
  have hsz:xs.toArray.size=xs.length:=by simp
  have:=hp (xs.length + 1) (M:=M) (b:=b) (a:=0) (e:=xs.toArray.size) (limit:=Sort.bitsLen xs.length) (d:=xs.toArray) (Q:=fun bW M_0=>Q (.tup []) M_0) h2 (by omega) (by omega) (Nat.le_refl _) (by omega) (by omega) fun M' k=>?_
  ·rw[← h3] at this
   simpa using this
  ·have e:(Sort.pdq lN xs.toArray 0 xs.toArray.size (Sort.bitsLen xs.length) true true)=Sort.sort lN xs.toArray:=by rw[Sort.sort]; simp
   rw[e]
   refine hQ _ ?_ (YF k)
   have hsz2:(Sort.sort lN xs.toArray).size=xs.length:=by
    have:=G7 xs
    unfold j4 at this
    rw[Array.length_toList] at this; exact this
   have:=ajW (M:=M') (T:=T) (d:=Sort.sort lN xs.toArray) h1 (Nat.lt_of_lt_of_le h2 k.next)
   rw[hsz2] at this
   exact this
def zm:Nat→List Nat→List Nat
 | _,[]=>[]
 | p,x :: xs=>if x=p then zm x xs else x :: zm x xs
def dd:List Nat→List Nat
 | []=>[]
 | x :: xs=>x :: zm x xs
theorem Td:∀ (ys:List Nat) (p x:Nat),zm p (ys++[x])=if x=ys.getLastD p then zm p ys else zm p ys++[x]
 | [],p,x=>rfl
 | y :: ys,p,x=>by
   rw[List.cons_append,zm,zm,Td ys y x,List.getLastD_cons]
   by_cases hy:y=p
   ·rw[if_pos hy,if_pos hy]
   ·rw[if_neg hy,if_neg hy]
    split
    ·rfl
    ·rfl
theorem Rn:∀ (k:Nat) (ys:List Nat) (y:Nat) (h:k<(y :: ys).length),(ys.take k).getLastD y=(y :: ys)[k]
 | 0,ys,y,h=>rfl
 | k + 1,[],y,h=>by simp at h
 | k + 1,z :: zs,y,h=>by
   rw[List.take_succ_cons,List.getLastD_cons,Rn k zs z (by simpa using h)]
   rfl
theorem YT {xs:List Nat} {m:Nat} (h1:1≤m) (h:m<xs.length) : dd (xs.take (m + 1))=if xs[m]=xs[m - 1] then dd (xs.take m) else dd (xs.take m)++[xs[m]]:=by
 rw[List.take_succ_eq_append_getElem h]
 cases xs with
 | nil=>simp at h
 | cons y ys =>
   obtain⟨k,rfl⟩ : ∃ k,m=k + 1:=⟨m - 1,by omega⟩
   have hk:k<(y :: ys).length:=by omega
   rw[List.take_succ_cons,List.cons_append,dd,dd,Td,Rn k ys y hk]
   simp only[Nat.add_sub_cancel]
   split <;> simp
theorem akZ:∀ (xs:List Nat),(dd xs).length≤xs.length
 | []=>Nat.le_refl _
 | x :: xs=>by
   have:∀ (p:Nat) (l:List Nat),(zm p l).length≤l.length:=by
    intro p l
    induction l generalizing p with
    | nil=>exact Nat.le_refl _
    | cons y l ih=>rw[zm]; split <;> simp <;> have:=ih y <;> omega
   rw[dd]; simp; exact this x xs
theorem abE {b o n k:Nat} (h:k≤n) (h0:0<n) : cO 1 (.slc b o n (.op 1)) none (some (N .i64 (k:Int))) none=some (.slc b o k (.op 1)):=by
 simp only[cO,bnd]
 simp[h]
 omega
theorem Sa {T:Nat} : KN (fun xs=>xs.length≤60000) dd T fun args M Q=>∃ a0,args=[a0]∧uC a0 M Q:=by
 intro M base v xs Q ho hx hQ
 have hx:xs.length≤60000:=hx
 have hs:Sl aX M v xs:=ho.jq
 refine⟨_,rfl, ?_⟩
 unfold uC
 have hself:dd xs=xs→Q v M:=fun e=>hQ v M (by rw[e]; exact hs) (Own.mh ho) (fun d hd=>hd) (ag.refl _ _)
 rw[aL.len hs,dB]
 refine aG (fun hg=>?_) (fun hg=>?_)
 ·have hg:xs.length<2:=by
   have:(xs.length:Int)<2:=of_decide_eq_true hg
   omega
  refine hself ?_
  match xs,hg with
  | [],_=>rfl
  | [x],_=>rfl
 have hg:2≤xs.length:=by
  have:¬ (xs.length:Int)<2:=of_decide_eq_false hg
  omega
 obtain⟨b,rfl,h1,h2,h3⟩:=acE ho (by omega)
 have hsz:xs.toArray.size=xs.length:=by simp
 have hat:∀ i (h:i<xs.length),xs.toArray[i]! = xs[i]:=fun i h=>by rw[xC (by simpa using h)]; simp
 clear hs
 have hself:=hself
 simp only[bR]
 refine aI (fun m ys M3=>∃ i:Nat,m=xs.length - i∧ys=[N .i64 (i:Int)]∧1≤i∧i≤xs.length∧M3=PM M b T xs.toArray∧dd (xs.take i)=xs.take i) _ ⟨1,rfl,rfl,Nat.le_refl _,by omega,h3,by
  match xs,hg with
  | x :: y :: l,_=>rfl⟩ ?_
 rintro next m ys M3 hnext ⟨i,rfl,rfl,hi1,hi,rfl,hdd⟩
 dsimp only[aa]
 have aec:∀ K:AV→Prop,bL (vv b xs.length) K=K (N .i64 (xs.length:Int)):=fun K=>by simp[nX]
 rw[aec,ed]
 refine aG (fun hlt=>?_) (fun hge=>?_)
 rotate_left
 ·have he:i=xs.length:=by
   have:¬ i<xs.length:=of_decide_eq_false hge
   omega
  subst he
  rw[List.take_length] at hdd
  rw[← h3]
  exact hself hdd
 have hlt:i<xs.length:=of_decide_eq_true hlt
 rw[PM.rd hsz.symm (by omega),bu (by omega) (by omega),PM.rd hsz.symm (by omega),hat i hlt,hat (i - 1) (by omega),bU]
 have hstep:=YT hi1 hlt
 by_cases heq:xs[i]=xs[i - 1]
 rotate_left
 ·rw[show(((xs[i] : Nat) : Int) == ((xs[i - 1]'(by omega) : Nat) : Int))=false by rw[beq_eq_false_iff_ne]; omega,bD,add1 (by omega)]
  rw[if_neg heq,hdd] at hstep
  exact hnext _ _ _ (by omega) ⟨i + 1,rfl,rfl,by omega,hlt,rfl,by rw[hstep,← List.take_succ_eq_append_getElem hlt]⟩
 rw[show(((xs[i] : Nat) : Int) == ((xs[i - 1]'(by omega) : Nat) : Int))=true by rw[beq_iff_eq]; omega,dD]
 rw[if_pos heq,hdd] at hstep
 rw[qG hlt,eH]
 have anQ:∀ K:AV→Prop,bL (.slc b (0 + i * 1) (xs.length - i) (.op 1)) K=K (N .i64 ((xs.length - i:Nat) : Int)):=fun K=>by simp[nX]
 have ae9:∀ (j:Nat),j<xs.length - i→∀ (K:AV→Prop),ai (.slc b (0 + i * 1) (xs.length - i) (.op 1)) (N .i64 (j:Int)) 1 K=K (.ptr b (i + j)):=fun j hj K=>by
  rw[pW]
  simp only[Int.toNat_natCast]
  rw[show 0 + i * 1 + j * 1=i + j by omega]
  exact propext ⟨fun h=>h.2.2,fun h=>⟨by omega,by omega,h⟩⟩
 -- the rest: moved down
 refine aI (fun m ys M5=>∃ (k j:Nat) (d:Array Nat),m=xs.length - j∧ys=[N .i64 (k:Int),N .i64 (j:Int)]∧1≤j∧i + j≤xs.length∧1≤k∧k + 1≤i + j∧M5=PM M b T d∧d.size=xs.length∧d.toList.take k=dd (xs.take (i + j))∧(∀ q (h:q<xs.length),i + j≤q + 1→d[q]! = xs[q])) _
  ⟨i,1,xs.toArray,rfl,rfl,by omega,by omega,by omega,by omega,rfl,hsz,by rw[hstep],fun q h _=>hat q h⟩ ?_
 rintro gT m ys M5 dH ⟨k,j,d,rfl,rfl,hj1,hij,hk1,hk,rfl,hds,hpre,hold⟩
 dsimp only[aa]
 rw[anQ,ed]
 refine aG (fun hlt2=>?_) (fun sP=>?_)
 ·have hlt2:j<xs.length - i:=of_decide_eq_true hlt2
  have hij' : i + j<xs.length:=by omega
  refine aY (fun zs M'=>∃ (k' : Nat) (d' : Array Nat),zs=[N .i64 (k' : Int)]∧1≤k'∧k'≤i + j∧M'=PM M b T d'∧d'.size=xs.length∧d'.toList.take k'=dd (xs.take (i + j + 1))∧(∀ q (h:q<xs.length),i + j≤q→d'[q]! = xs[q])) ?_ ?_
  ·rintro zs M' ⟨k',d',rfl,c1,c2,rfl,c3,c4,c5⟩
   dsimp only[aa]
   rw[add1 (by omega)]
   exact dH _ _ _ (by omega) ⟨k',j + 1,d',rfl,rfl,by omega,by omega,c1,by omega,rfl,c3,c4,fun q h hq=>c5 q h (by omega)⟩
  intro J hJ
  have Z9:=YT (xs:=xs) (m:=i + j) (by omega) hij'
  have ld:∀ q (h:q<xs.length) (K:AV→Prop),au (PM M b T d) (.ptr b q) K=K (N .u64 ((d[q]! : Nat) : Int)):=fun q h K=>az PM.heap (PM.cellAt (by omega))
  rw[ae9 j hlt2,ld _ hij',bu (by omega) (by omega),ae9 (j - 1) (by omega),ld _ (by omega),hold (i + j) hij' (by omega),hold (i + (j - 1)) (by omega) (by omega),ll]
  have hpe:xs[i + (j - 1)]'(by omega)=xs[i + j - 1]'(by omega):=by congr 1; omega
  rw[hpe]
  by_cases hne:xs[i + j]=xs[i + j - 1]'(by omega)
  ·rw[show(((xs[i + j] : Nat) : Int) != ((xs[i + j - 1]'(by omega) : Nat) : Int))=false by rw[hne]; simp,bD]
   rw[if_pos hne] at Z9
   exact hJ _ _ ⟨k,d,rfl,hk1,by omega,rfl,hds,by rw[Z9]; exact hpre,fun q h hq=>hold q h (by omega)⟩
  ·rw[show(((xs[i + j] : Nat) : Int) != ((xs[i + j - 1]'(by omega) : Nat) : Int))=true by simp only[bne_iff_ne,ne_eq]; omega,dD]
   rw[if_neg hne] at Z9
   rw[ae9 j hlt2,ld _ hij',hold (i + j) hij' (by omega),PM.idx (by omega),PM.put (by omega),add1 (by omega)]
   refine hJ _ _ ⟨k + 1,_,rfl,by omega,by omega,rfl,by simpa using hds, ?_,fun q h hq=>?_⟩
   ·have hkl:k<d.toList.length:=by rw[Array.length_toList]; omega
    rw[Z9,← hpre,Array.toList_setIfInBounds,List.take_succ_eq_append_getElem (by rw[List.length_set]; exact hkl),List.getElem_set_self,List.take_set_of_le (Nat.le_refl _)]
   ·rw[← hold q h (by omega)]
    rw[xC (by rw[Array.size_setIfInBounds]; omega),xC (by omega),Array.getElem_setIfInBounds_ne (by omega) (by omega)]
 ·have hij' : i + j=xs.length:=by
   have:¬ j<xs.length - i:=of_decide_eq_false sP
   omega
  rw[hij',List.take_length] at hpre
  have hst:(PM M b T d).stores b (0 + k * 1) (bM [N .u64 0] (xs.length - k))=some ((PM M b T d).put b (.row ((aX.row d.toList).take (0 + k * 1)++bM [N .u64 0] (xs.length - k)++(aX.row d.toList).drop (0 + k * 1 + (bM [N .u64 0] (xs.length - k)).length)) true T 0)):=by
   refine RM.EA PM.heap ?_ (Nat.zero_le _) (qO _).2
   rw[(qO _).1,PM.LP]; omega
  rw[qG (by omega),eH]
  refine .inl ⟨_,_,_,_,_,rfl,hst, ?_⟩
  dsimp only
  rw[abE (by omega) (by omega),eH]
  have hlk:(dd xs).length=k:=by rw[← hpre,List.length_take,Array.length_toList]; omega
  refine hQ _ _ ?_ (show(1:Nat)=1 from rfl) (fun e he=>by simpa [aH] using he) ?_
  ·have hrow:((aX.row d.toList).take (0 + k * 1))=aX.row (dd xs):=by
    rw[← hpre,show 0 + k * 1=k * aX.size by simp[aX],Enc.wQ]
   show aL _ 1 (.slc b 0 k (.op 1)) (aX.row (dd xs)) (dd xs).length
   rw[hlk]
   refine .slc _ _ _ _ _ h2 ?_
   have hl:(aX.row (dd xs)).length=k:=by rw[Enc.eY,hlk]; simp[aX]
   rw[RM.dw (aR _) (by rw[hrow]; simp[hl]),List.drop_zero,hrow,Nat.mul_one,List.append_assoc,List.take_left' hl]
  ·refine ag.put ?_ _ (.inr (by simp[aH]))
   exact YF (ag.refl _ _)
theorem ana {xs:List Nat} (h:Up xs) : xs.Pairwise (· ≤ ·):=List.pairwise_iff_getElem.2 fun i j hi hj hij=>h i j hi hj (Nat.le_of_lt hij)
theorem QX:∀ (ys:List Nat) (p:Nat),(p :: ys).Pairwise (· ≤ ·)→Asc (zm p ys)∧(∀ x∈zm p ys,p<x)∧∀ x,x∈zm p ys↔x∈ys∧x≠p
 | [],p,_=>⟨.nil,by simp[zm],by simp[zm]⟩
 | y :: ys,p,h=>by
   have a1:=List.pairwise_cons.1 h
   have a2:=List.pairwise_cons.1 a1.2
   obtain⟨i1,i2,i3⟩:=QX ys y a1.2
   have hpy:p≤y:=a1.1 y (by simp)
   rw[zm]
   by_cases hy:y=p
   ·rw[if_pos hy]
    subst hy
    refine⟨i1,i2,fun x=>?_⟩
    rw[i3,List.mem_cons]
    constructor
    ·rintro⟨h1,h2⟩; exact⟨.inr h1,h2⟩
    ·rintro⟨h1 | h1,h2⟩
     ·exact absurd h1 h2
     ·exact⟨h1,h2⟩
   ·rw[if_neg hy]
    refine⟨List.pairwise_cons.2 ⟨i2,i1⟩,fun x hx=>?_,fun x=>?_⟩
    ·rcases List.mem_cons.1 hx with rfl | hx
     ·omega
     ·have:=i2 x hx; omega
    ·rw[List.mem_cons,i3,List.mem_cons]
     constructor
     ·rintro(rfl | ⟨h1,h2⟩)
      ·exact⟨.inl rfl,hy⟩
      ·have:=a2.1 x h1
       exact⟨.inr h1,by omega⟩
     ·rintro⟨h1 | h1,h2⟩
      ·exact .inl h1
      ·by_cases hxy:x=y
       ·exact .inl hxy
       ·exact .inr ⟨h1,hxy⟩
theorem ae3 {ys:List Nat} (h:Up ys) : Asc (dd ys)∧∀ x,x∈dd ys↔x∈ys:=by
 have hp:=ana h
 cases ys with
 | nil=>exact⟨.nil,fun x=>Iff.rfl⟩
 | cons y ys =>
   obtain⟨i1,i2,i3⟩:=QX ys y hp
   refine⟨List.pairwise_cons.2 ⟨i2,i1⟩,fun x=>?_⟩
   rw[dd,List.mem_cons,i3,List.mem_cons]
   constructor
   ·rintro(h | ⟨h,_⟩)
    ·exact .inl h
    ·exact .inr h
   ·rintro(h | h)
    ·exact .inl h
    ·by_cases hxy:x=y
     ·exact .inl hxy
     ·exact .inr ⟨h,hxy⟩
def jl (p q:Pt) : List Nat:=dd (j4 (p.2++q.2))
theorem Ep (p q:Pt) : Asc (jl p q)∧(∀ x,x∈jl p q↔x∈p.2∨x∈q.2)∧(jl p q).length≤p.2.length + q.2.length:=by
 obtain⟨h1,h2⟩:=ae3 (adS (p.2++q.2))
 refine⟨h1,fun x=>?_, ?_⟩
 ·unfold jl
  rw[h2,(NL _).mem_iff,List.mem_append]
 ·have:=akZ (j4 (p.2++q.2))
  rw[G7,List.length_append] at this
  exact this
theorem Xw {p q:Pt} (hp:om p) (hq:om q) (hl:p.2.length + q.2.length≤4096) :
  om (tT j4 dd p q)∧(∀ x,ku (tT j4 dd p q) x=true↔ku p x=true∨ku q x=true)∧(tT j4 dd p q).2.length≤p.2.length + q.2.length:=by
 obtain⟨h1,h2,h3⟩:=Ep p q
 have he:tT j4 dd p q=settle (max p.1 q.1) (jl p q):=rfl
 rw[he]
 have hpos:∀ y∈jl p q,1≤y:=fun y hy=>by
  rcases(h2 y).1 hy with h | h
  ·have:=hp.2.1 y h; omega
  ·have:=hq.2.1 y h; omega
 have hle:∀ y∈jl p q,y≤1099511627776:=fun y hy=>by
  rcases(h2 y).1 hy with h | h
  ·exact hp.2.2.2.1 y h
  ·exact hq.2.2.2.1 y h
 have hm:max p.1 q.1≤1099511627776:=by have:=hp.2.2.1; have:=hq.2.2.1; omega
 obtain⟨s1,s2,s3,s4⟩:=Bf (jl p q) (max p.1 q.1) 1099511627776 h1 hm hle
 have hsl:=EM (max p.1 q.1) (jl p q)
 refine⟨⟨s1,s2,s3,fun x hx=>hle x (NJ hx),by omega⟩,fun x=>?_,by omega⟩
 rw[Fs _ _ _ hpos,h2,rE,rE]
 constructor
 ·rintro(h | h | h)
  ·by_cases hx:x≤p.1
   ·exact .inl (.inl ⟨h.1,hx⟩)
   ·exact .inr (.inl ⟨h.1,by omega⟩)
  ·exact .inl (.inr h)
  ·exact .inr (.inr h)
 ·rintro((h | h) | (h | h))
  ·exact .inl ⟨h.1,by omega⟩
  ·exact .inr (.inl h)
  ·exact .inl ⟨h.1,by omega⟩
  ·exact .inr (.inr h)
def F6 (ps qs:List Pt) : List Pt:=rO j4 dd ps qs 16
structure SI (k:Nat) (ps:List Pt) : Prop where
 len:ps.length=16
 wf:∀ p∈ps,om p
 few:∀ p∈ps,p.2.length≤k
theorem SI.at {k:Nat} {ps:List Pt} (h:SI k ps) (i:Nat) : om (ps.getD i (0,[]))∧(ps.getD i (0,[])).2.length≤k :=
 ⟨zW h.wf i,xK (R:=fun p=>p.2.length≤k) h.few (Nat.zero_le _) i⟩
theorem WX {ps qs:List Pt} {a c:Nat} (h1:SI a ps) (h2:SI c qs) {j:Nat} (hj:j<16) : (F6 ps qs).getD j (0,[])=tT j4 dd (ps.getD j (0,[])) (qs.getD j (0,[])):=Vq h1.len (Nat.le_refl _) hj
theorem adJ {ps qs:List Pt} {a c:Nat} (h1:SI a ps) (h2:SI c qs) (hk:a + c≤4096) : SI (a + c) (F6 ps qs):=by
 have hlen:(F6 ps qs).length=16:=by rw[F6,IE,h1.len]
 have all:∀ p∈F6 ps qs,om p∧p.2.length≤a + c:=fun p hp=>by
  obtain⟨i,hi,rfl⟩:=List.getElem_of_mem hp
  rw[hlen] at hi
  have e:=WX h1 h2 hi
  rw[Dp (by omega)] at e
  rw[e]
  obtain⟨w1,l1⟩:=h1.at i
  obtain⟨w2,l2⟩:=h2.at i
  obtain⟨r1,_,r3⟩:=Xw w1 w2 (by omega)
  exact⟨r1,by omega⟩
 exact⟨hlen,fun p hp=>(all p hp).1,fun p hp=>(all p hp).2⟩
theorem CL.of {k:Nat} {ps:List Pt} {w:List aD} (h:SI k ps) (hs:YN w) (hm:∀ d,d∈w↔gZ ps d=true) : CL ps w:=⟨h.len,h.wf,hs,hm⟩
def U4 (T:Nat) (c:aj) : Prop:=aaC (fun xs=>xs.length≤60000) (fun xs=>xs.length≤60000) j4 dd T c
theorem U4.use {T:Nat} {c:aj} (h:U4 T c) {M:RM} {a b:Nat} {ps qs:List Pt} {S S' : Nat→Prop} {k l:Nat} {Q:ak} (h1:gN T S M a ps) (h2:gN T S' M b qs) (he:a=b→ps=qs) (hn:¬ S' a) (i1:SI k ps) (i2:SI l qs) (hkl:k + l≤60000)
  (hQ:∀ M',gN T (fun e=>S e∨M.next≤e) M' a (F6 ps qs)→ag [a] M M'→Q (.tup []) M') : c [.ptr a 0,.ptr b 0] M Q:=by
 refine h h1 h2 he hn (fun i hi=>?_) (fun p hp=>?_) (fun p hp=>?_) (fun i hi=>?_) hQ
 ·have a1:=(i1.at i).2
  have a2:=(i2.at i).2
  show((ps.getD i (0,[])).2++(qs.getD i (0,[])).2).length≤60000∧(j4 ((ps.getD i (0,[])).2++(qs.getD i (0,[])).2)).length≤60000
  rw[G7,List.length_append]
  omega
 ·have:=(i1.wf p hp).2.2.1
  have:=i1.few p hp
  omega
 ·have:=(i2.wf p hp).2.2.1
  have:=i2.few p hp
  omega
 ·have a1:=i1.at i
  have a2:=i2.at i
  obtain⟨_,j2,j3⟩:=Ep (ps.getD i (0,[])) (qs.getD i (0,[]))
  refine⟨by have:=j3; unfold jl at this; omega,fun x hx=>?_⟩
  rcases(j2 x).1 hx with h | h
  ·have:=a1.1.2.2.2.1 x h; omega
  ·have:=a2.1.2.2.2.1 x h; omega
end Go.Ab.aD
namespace Go.Ab.Crw
open Go Go.Ab Go.Ab.aD
def U0 (T:Nat) (c:aj) : Prop:=∀ {M:RM} {b:Nat} {qs:List Pt} {S' : Nat→Prop} {k:Nat} {Q:ak},gN T S' M b qs→SI k qs→k≤4096 →
 (∀ a M',M.next≤a→gN T (fun e=>a<e) M' a qs→ag [] M M'→Q (.ptr a 0) M')→c [.ptr b 0] M Q
theorem Yi {q:Pt} (h:om q) : tT j4 dd (0,[]) q=q:=by
 have e:jl (0,[]) q=q.2:=YK (Ep _ _).1 h.1 fun x=>by rw[(Ep _ _).2.1]; simp
 show Go.Ab.aD.settle (max 0 q.1) (jl (0,[]) q)=q
 rw[e,Nat.zero_max]
 exact Yb h.2.1
theorem Bb:SI 0 jG:=⟨rfl,KW,fun p hp=>by
 rw[jG,List.mem_replicate] at hp
 rw[hp.2]; exact Nat.le_refl _⟩
theorem abe {T:Nat} {cn cj:aj} (hn:Xt T cn) (hj:U4 T cj) : U0 T fun args M Q=>∃ a0,args=[a0]∧aD.Fe cn cj a0 M Q:=by
 intro M b qs S' k Q hB hi hk hQ
 refine⟨_,rfl, ?_⟩
 unfold aD.Fe
 have hB0:=hB.below
 refine hn fun M1 hA1 k1 n1=>?_
 have hB1:=hB0.keep k1 (by simp) (by simp)
 have hbl:=hB.lt
 refine hj.use hA1 hB1 (fun e=>by omega) (fun h=>by omega) Bb hi (by omega) fun M2 hA2 k2=>?_
 have e:F6 jG qs=qs:=anI (adJ Bb hi (by omega)).len hB.len fun j hj=>by
  rw[WX Bb hi hj,FV,Yi (hi.at j).1]
 rw[e] at hA2
 refine hQ M.next M2 (Nat.le_refl _) (hA2.mono (fun e h=>?_) (by omega)) (k1.dK k2 (by simp))
 rcases h with h | h
 ·exact h.elim
 ·omega
section
variable {α:Type} {E:Enc α}
theorem aex {M:RM} {b T bytes:Nat} {zs:List AV} {u:AV} {xs ys:List α} {K:ak} (hb:b<M.next) (hh:M.heap b=some (.row (E.row xs) false T 0)) (hu:Sl E M u ys) (hx:1≤xs.length) (hs:1≤E.size)
  (hn:(xs.length + ys.length) * bytes≤140737488355328) (hn2:xs.length + ys.length≤140737488355328)
  (hK:∀ v' M',Sl E M' v' (xs++ys)→(∀ d∈aH v',d=b∨M.next≤d)→ag [] M M'→K v' M') : appW T E.size bytes zs false (.slc b 0 xs.length (.ex xs.length)) u M K:=by
 refine⟨ys.length,E.row ys,aL.oW hu _, ?_,by omega, ?_⟩
 ·exact Nat.le_trans (Nat.mul_le_mul_right _ (Nat.le_add_left _ _)) hn
 have hlen:(E.row xs).length=xs.length * E.size:=E.eY xs
 have hld:M.loads b 0 (xs.length * E.size)=some (E.row xs):=by
  rw[RM.dw hh (by omega),List.drop_zero,← hlen,List.take_length]
 by_cases h0:ys.length=0
 ·have:ys=[]:=List.length_eq_zero_iff.1 h0
  subst this
  refine⟨.slc b 0 xs.length (.ex xs.length),M,by simp[uJ],hK _ _ ?_ (by simp[aH]) (ag.refl _ _)⟩
  rw[List.append_nil]
  exact .slc _ _ _ _ _ hb hld
 ·refine⟨.slc M.next 0 (xs.length + ys.length) (.op E.size),M.push (.row (E.row xs++E.row ys) true T 0), ?_,hK _ _ ?_ (by simp[aH]) ((ag.refl _ _).push _)⟩
  ·have hone:(E.row xs++E.row ys).all oneCell=true:=by rw[List.all_append,E.ve,E.ve]; rfl
   simp only[uJ,if_neg h0,if_neg (show ¬ xs.length + ys.length≤xs.length by omega),hld]
   rw[if_pos ⟨hn,by omega,hone⟩]
  ·have hl2:(E.row (xs++ys)).length=(xs.length + ys.length) * E.size:=by rw[E.eY,List.length_append]
   show aL _ E.size _ (E.row (xs++ys)) (xs++ys).length
   rw[List.length_append]
   refine .slc _ _ _ _ _ (by simp[RM.push]) ?_
   rw[← E.vP,RM.dw (RM.aS _) (by omega),List.drop_zero,← hl2,List.take_length]
end
structure pY (TS T:Nat) (B:Nat→Prop) (M:RM) (t:Nat) (ps:List Pt) (es:List aF) : Prop where
 lt:t<M.next
 row:∃ s v,M.heap t=some (.row [.ptr s 0,v] false TS 0)∧(∃ S:Nat→Prop,gN T S M s ps∧∀ d,S d→B d)∧Sl aB M v es∧B s∧∀ d∈aH v,B d
 nb:¬ B t
theorem pY.keep {TS T t:Nat} {B:Nat→Prop} {M M' : RM} {ps:List Pt} {es:List aF} {bs:List Nat} (h:pY TS T B M t ps es) (k:ag bs M M') (ht:t ∉ bs) (hb:∀ d∈bs,¬ B d) : pY TS T B M' t ps es:=by
 obtain⟨s,v,h1,⟨S,h2,h2'⟩,h3,h4,h5⟩:=h.row
 exact⟨Nat.lt_of_lt_of_le h.lt k.next,⟨s,v,k.aP h1 h.lt ht,⟨S,h2.keep k (fun hs=>hb s hs h4) (fun d hd hS=>hb d hd (h2' d hS)),h2'⟩,aL.keep h3 k (fun d hd hm=>hb d hm (h5 d hd)),h4,h5⟩,h.nb⟩
theorem pY.mono {TS T t:Nat} {B B' : Nat→Prop} {M:RM} {ps:List Pt} {es:List aF} (h:pY TS T B M t ps es) (hB:∀ d,B d→B' d) (hn:¬ B' t) : pY TS T B' M t ps es:=by
 obtain⟨s,v,h1,⟨S,h2,h2'⟩,h3,h4,h5⟩:=h.row
 exact⟨h.lt,⟨s,v,h1,⟨S,h2,fun d hd=>hB d (h2' d hd)⟩,h3,hB s h4,fun d hd=>hB d (h5 d hd)⟩,hn⟩
theorem pY.below {TS T t:Nat} {B:Nat→Prop} {M:RM} {ps:List Pt} {es:List aF} (h:pY TS T B M t ps es) : pY TS T (fun d=>B d∧d<M.next) M t ps es:=by
 obtain⟨s,v,h1,⟨S,h2,h2'⟩,h3,h4,h5⟩:=h.row
 exact⟨h.lt,⟨s,v,h1,⟨_,h2.below,fun d hd=>⟨h2' d hd.1,hd.2⟩⟩,h3,⟨h4,h2.lt⟩,fun d hd=>⟨h5 d hd,aL.lt h3 d hd⟩⟩,fun hh=>h.nb hh.1⟩
def TK (TS T:Nat) (c:aj) : Prop:=∀ {M:RM} {Q:ak},(∀ t M',M.next≤t→pY TS T (fun d=>M.next≤d∧d<t) M' t jG []→ag [] M M'→Q (.ptr t 0) M')→c [] M Q
theorem aa7 {TS T:Nat} {cn:aj} (hn:Xt T cn) : TK TS T fun args M Q=>args=[]∧ZK cn TS M Q:=by
 intro M Q hQ
 refine⟨rfl, ?_⟩
 unfold ZK
 refine hn fun M1 h1 k1 n1=>?_
 rw[qY]
 refine⟨[.ptr M.next 0,bZ],rfl, ?_⟩
 rw[dS rfl (by simp),bB]
 have k2:ag [] M1 (M1.push (.row [.ptr M.next 0,bZ] false TS 0)):=(ag.refl _ _).push _
 refine hQ _ _ (by omega) ⟨by simp[RM.push],⟨M.next,bZ,RM.aS _,⟨fun _=>False,h1.keep k2 (by simp) (by simp),fun d hd=>hd.elim⟩,.nil,⟨Nat.le_refl _,by omega⟩,by simp[aH]⟩,fun h=>by omega⟩ (k1.trans k2)
def nu (ps:List Pt) (ds:List aD) : List Pt:=ds.foldl (fun u d=>(lh u d).2) ps
theorem XZ {ps:List Pt} {ds:List aD} {i:Nat} (h:i<ds.length) : nu ps (ds.take (i + 1))=(lh (nu ps (ds.take i)) ds[i]).2:=by
 rw[List.take_succ_eq_append_getElem h,nu,List.foldl_append]; rfl
theorem YS {k:Nat} {ps:List Pt} {d:aD} (h:SI k ps) : SI (k + 1) (lh ps d).2:=⟨by rw[aes,h.len],Y0 h.wf,acO h.few⟩
theorem _root_.Go.Ab.aD.SI.mono {k l:Nat} {ps:List Pt} (h:SI k ps) (hl:k≤l) : SI l ps:=⟨h.len,h.wf,fun p hp=>Nat.le_trans (h.few p hp) hl⟩
theorem BG {k:Nat} : ∀ {ds:List aD} {ps:List Pt},SI k ps→SI (k + ds.length) (nu ps ds)
 | [],ps,h=>h
 | d :: ds,ps,h=>by
   have:=BG (ds:=ds) (YS (d:=d) h)
   exact this.mono (by simp; omega)
def jX (e:oK) : aF:=(e.1,(e.2.2.1,(e.2.2.2.1,e.2.2.2.2)))
def lu (ps:List Pt) (es:List aF) (e:oK) (ks:List aD) : List aF :=
 (if decide (e.2.1=1) && !gZ ps e.1 then r9 gp (es++[jX e]) else es).filter fun x=>!decide (x.1∈ks)
def Aa (ps:List Pt) (e:oK) (ks:List aD) : List Pt:=nu ps (e.1 :: ks)
theorem Nq:∀ {ks:List aD} {d:aD} {p:Option aD},iw d p ks=true→∀ k∈ks,good k=true
 | [],_,_,_,k,hk=>by simp at hk
 | x :: ks,d,p,h,k,hk=>by
   simp only[iw,Bool.and_eq_true] at h
   rcases List.mem_cons.1 hk with rfl | hk
   ·exact h.1.1.1
   ·exact Nq h.2 k hk
theorem Ba {e:oK} {ks:List aD} (h:dO e ks=true) : good e.1=true∧ks.length≤64∧(∀ k∈ks,good k=true)∧iw e.1 none ks=true∧Cw e=true:=by
 simp only[dO,Bool.and_eq_true,decide_eq_true_eq] at h
 exact⟨h.1.1.1.1,h.1.1.2,Nq h.1.2,h.1.2,h.2⟩
theorem ab2 (e:oK) : BX [(N .i64 0),(N .u64 0),(St []),(St []),(St [])] [(0,2,.agg (aT e.1)),(2,1,St e.2.2.1),(3,1,St e.2.2.2.1),(4,1,St e.2.2.2.2)]=some (aB.cells (jX e)):=rfl
def WH (TS T:Nat) (c:aj) : Prop:=∀ {M:RM} {t k:Nat} {B:Nat→Prop} {ps:List Pt} {es:List aF} {e:oK} {kv:AV} {ks:List aD} {Q:ak},pY TS T B M t ps es→SI k ps→k + 65≤4000→es.length≤50000→Sl eQ M kv ks→t ∉ aH kv →
 (dO e ks=false→∀ M',ag [] M M'→Q (.tup [Bo false,N .i64 1]) M') →
 (dO e ks=true→∀ M',pY TS T (fun d=>B d∨M.next≤d) M' t (Aa ps e ks) (lu ps es e ks)→ag [t] M M'→Q (.tup [Bo (!zX (Aa ps e ks) ps || !decide (lu ps es e ks=es)),N .i64 0]) M')→c [.ptr t 0,.agg (gF e kv)] M Q
theorem aaw {TS T TE TD TN nc nd:Nat} {cG cC cA cH cL cS cD cW cQ:aj} {cv:FuncId→aj} (hG:zS cG) (hC:U0 T cC) (hA:Sq T cA) (hH:aaA T cH) (hL:Jk TN cL) (hS:O9 (.fn (.func nc) [] []) gp TN cS)
  (hD:∀ b e kv ks,ks.length≤1000000→Ko TN (H8 TE b e kv ks) (fun x=>decide (x.1∈ks)) (.fn (.func nd) [] [.ptr b 0]) cD) (hW:Ql T cW) (hQ' : Qk cQ) :
  WH TS T fun args M Q=>∃ a0 a1,args=[a0,a1]∧ze TE cG cC TD cA cH TN cL cS nc nd cD cW cQ a0 a1 M Q:=by
 intro M0 t k B ps es e kv ks Q hst hsi hk hes TG htk hbad hok
 refine⟨_,_,rfl, ?_⟩
 unfold ze
 simp only[j6,fB,dY,eP,bR]
 rw[dS (N7 TG) (by simp),bB]
 have k0:ag [] M0 (M0.push (.row (gF e kv) false TE 0)):=(ag.refl _ _).push _
 have h0:(M0.push (.row (gF e kv) false TE 0)).heap M0.next=some (.row (gF e kv) false TE 0):=RM.aS _
 have hlt:M0.next<(M0.push (.row (gF e kv) false TE 0)).next:=by simp[RM.push]
 have hs:Sl eQ (M0.push (.row (gF e kv) false TE 0)) kv ks:=aL.keep TG k0 (by simp)
 have hkl:∀ d∈aH kv,d<M0.next:=aL.lt TG
 have n0:=k0.next
 generalize M0.push (.row (gF e kv) false TE 0)=M at *
 generalize hb0:M0.next=b at *
 rw[fA (n:=7) h0 (by simp[EvE.len]; rfl)]
 refine hG hs fun M1 k1=>?_
 have k01:=k0.trans k1
 rw[bH]
 refine aG (fun hg=>?_) (fun hg=>?_)
 ·exact hbad (by simpa using hg) M1 k01
 have hge:dO e ks=true:=by simpa using hg
 obtain⟨hgd,hkl64,hkg,_,_⟩:=Ba hge
 have hok:=hok hge
 have n1:=k1.next
 obtain⟨s,v,r1,⟨S,r2,r2'⟩,r3,r4,r5⟩:=hst.row
 have htl:=hst.lt
 have e1:=k1.aP h0 hlt (by simp)
 have t1:=k01.aP r1 htl (by simp)
 have set1:=(r2.below).keep k01 (by simp) (by simp)
 have slt:=r2.lt
 rw[aM,bG,az t1 rfl]
 -- the set is copied
 refine hC set1 hsi (by omega) fun s' M2 hs' set2 k2=>?_
 have n2:=k2.next
 have hs'lt:=set2.lt
 have e2:=k2.aP e1 (by omega) (by simp)
 have k02:=k01.trans k2
 rw[bG,BM e2,rP (x:=.agg (aT e.1)) (size:=2) rfl rfl rfl,bB]
 have k3:ag [] M2 (M2.push (.row (AV.agg (aT e.1)).cells false TD 0)):=(ag.refl _ _).push _
 have l3:(M2.push (.row (AV.agg (aT e.1)).cells false TD 0)).heap M2.next=some (.row (eQ.row [e.1]) false TD 0):=by
  rw[RM.aS]; rfl
 have n3:M2.next<(M2.push (.row (AV.agg (aT e.1)).cells false TD 0)).next:=by simp[RM.push]
 have e3:=k3.aP e2 (by omega) (by simp)
 have Ve:=set2.keep k3 (by simp) (by simp)
 have kv3:Sl eQ (M2.push (.row (AV.agg (aT e.1)).cells false TD 0)) kv ks:=aL.keep TG (k02.trans k3) (by simp)
 have k03:=k02.trans k3
 generalize M2.push (.row (AV.agg (aT e.1)).cells false TD 0)=M3 at *
 generalize hb2:M2.next=b2 at *
 rw[bG,az e3 rfl]
 refine aex (E:=eQ) (xs:=[e.1]) (by omega) l3 kv3 (by simp) (by decide) (by simp; omega) (by simp; omega) fun dv M4 hdv hdb k4=>?_
 have hds:(e.1 :: ks).length≤65:=by simp; omega
 have k34:ag [] M3 M4:=k4
 have n4:=k4.next
 have e4:=k4.aP e3 (by omega) (by simp)
 have apP:=Ve.keep k4 (by simp) (by simp)
 have k04:=k03.trans k4
 have hdv:Sl eQ M4 dv (e.1 :: ks):=hdv
 have hdl:=aL.lt hdv
 have hdg:∀ d∈e.1 :: ks,good d=true:=fun d hd=>by
  rcases List.mem_cons.1 hd with rfl | hd
  ·exact hgd
  ·exact hkg d hd
 have aqf:s' ∉ aH dv:=fun hm=>by
  rcases hdb s' hm with h | h <;> omega
 generalize hds' : e.1 :: ks=ds at *
 rw[aL.len hdv]
 refine aI (fun m ys M6=>∃ i:Nat,m=ds.length - i∧ys=[N .i64 (i:Int)]∧i≤ds.length∧ag [s'] M4 M6∧gN T (fun e=>s'<e) M6 s' (nu ps (ds.take i))) _ ⟨0,rfl,rfl,Nat.zero_le _,ag.refl _ _,apP⟩ ?_
 rintro next m ys M6 hnext ⟨i,rfl,rfl,hi,k6,Te⟩
 dsimp only[aa]
 have aqp:Sl eQ M6 dv ds:=aL.keep hdv k6 (fun b hb hm=>by simp at hm; subst hm; exact aqf hb)
 have si6:SI (k + (ds.take i).length) (nu ps (ds.take i)):=BG hsi
 have hti:(ds.take i).length≤65:=by rw[List.length_take]; omega
 rw[ed]
 refine aG (fun VE=>?_) (fun sP=>?_)
 ·have VE:i<ds.length:=of_decide_eq_true VE
  rw[vk aqp VE,bB,gz (n:=2) (x:=.agg (aT ds[i])) (l:=[N .i64 0,N .u64 0]) (RM.aS _) rfl rfl rfl]
  have k7:ag [] M6 ((M6.push (.row [N .i64 0,N .u64 0] false TD 0)).put M6.next (.row (AV.agg (aT ds[i])).cells false TD 0)):=((ag.refl _ _).push _).new _ (Nat.le_refl _)
  have hk7:((M6.push (.row [N .i64 0,N .u64 0] false TD 0)).put M6.next (.row (AV.agg (aT ds[i])).cells false TD 0)).heap M6.next=some (.row (aT ds[i]) false TD 0):=aR _
  generalize (M6.push (.row [N .i64 0,N .u64 0] false TD 0)).put M6.next (.row (AV.agg (aT ds[i])).cells false TD 0)=M7 at *
  rw[fA (n:=2) hk7 rfl]
  have apd:=Te.keep k7 (by simp) (by simp)
  have n7:=k7.next
  have s6:=Te.lt
  refine hA apd si6.wf fun M8 aqz k8=>?_
  have hgood:=Rx (ps:=nu ps (ds.take i)) (d:=ds[i]) (fun p hp=>by have:=si6.few p hp; omega) (hdg _ (List.getElem_mem VE))
  have h10:(lh (nu ps (ds.take i)) ds[i]).1=0:=by rw[hgood]
  rw[h10,ll,show((0:Int) != 0)=false from rfl,bD,add1 (by omega)]
  refine hnext _ _ _ (by omega) ⟨i + 1,rfl,rfl,by omega,(k6.trans (k7.mono (cs:=[s']) (by simp))).trans k8, ?_⟩
  rw[XZ VE]
  exact aqz.mono (fun d hd=>by rcases hd with hd | hd <;> omega) (by omega)
 have hie:i=ds.length:=by
  have:¬ i<ds.length:=of_decide_eq_false sP
  omega
 subst hie
 rw[List.take_length] at Te si6
 clear hnext sP
 have ap2:nu ps ds=Aa ps e ks:=by rw[← hds']; rfl
 rw[ap2] at Te si6
 have si6:=si6.mono (l:=k + 65) (by omega)
 have n6:=k6.next
 have k06:ag [] M0 M6:=k04.dK k6 (fun d hd=>by simp at hd; omega)
 have e6:=k6.aP e4 (by omega) (by simp; omega)
 have t6:=k06.aP r1 htl (by simp)
 have v6:Sl aB M6 v es:=aL.keep r3 k06 (by simp)
 have aij:=(r2.below).keep k06 (by simp) (by simp)
 have kv6:Sl eQ M6 kv ks:=aL.keep TG k06 (by simp)
 rw[aM,aU,az (i:=0 + 1) t6 rfl]
 have aoo:=Te.below
 refine aY (fun zs M'=>∃ (w:AV) (es1:List aF),zs=[w]∧Sl aB M' w es1∧es1.length≤50001∧es1=(if decide (e.2.1=1) && !gZ ps e.1 then r9 gp (es++[jX e]) else es)∧ag [] M6 M') ?_ ?_
 ·rintro zs M9 ⟨w,es1,rfl,hw,hwl,apB,k9⟩
  dsimp only[aa]
  have n9:=k9.next
  refine hL hw (by omega) fun c M10 oc k10=>?_
  have n10:=k10.next
  have QD:=k9.trans k10
  have k010:=k06.trans QD
  have aqb:H8 TE b e kv ks M10:=⟨by omega,QD.aP e6 (by omega) (by simp),aL.keep kv6 QD (by simp)⟩
  refine hD b e kv ks (by omega) aqb (fun Ma Mb ks' hP kk hsub=>hP.keep kk (fun hm=>by have:=(oc.blk b (hsub b hm)).1; omega) (fun d hd hm=>by have:=hkl d hd; have:=(oc.blk d (hsub d hm)).1; omega)) oc (by omega) fun x M11 hx hxb k11=>?_
  have E8:ag [] M6 M11:=QD.dK k11 (fun d hd=>.inl (by have:=(oc.blk d hd).1; omega))
  have aqW:=k06.trans E8
  have bQ:=E8.aP t6 (by omega) (by simp)
  have agl:=aoo.keep E8 (by simp) (by simp)
  have aos:=aij.keep E8 (by simp) (by simp)
  have v11:Sl aB M11 v es:=aL.keep v6 E8 (by simp)
  rw[aM,bG,az bQ rfl]
  refine hW agl aos (fun p hp=>by have:=si6.few p hp; omega) (fun q hq=>⟨(hsi.wf q hq).1,by have:=hsi.few q hq; omega⟩) fun M12 k12=>?_
  have hxl:(es1.filter fun x=>!decide (x.1∈ks)).length≤es1.length:=List.length_filter_le _ _
  have t12:=k12.aP bQ (by have:=E8.next; omega) (by simp)
  have hfin:es1.filter (fun x=>!decide (x.1∈ks))=lu ps es e ks:=by rw[apB]; rfl
  rw[hfin] at hx hxl
  rw[bH]
  refine Ih (p:=!decide (lu ps es e ks=es)) (fun _ k hk=>?_) ?_
  ·rw[aM,aU,az (i:=0 + 1) t12 rfl]
   refine hQ' (aL.keep hx k12 (by simp)) (aL.keep v11 k12 (by simp)) (by omega) ?_
   rw[bH]
   exact hk
  have x12:Sl aB M12 x (lu ps es e ks):=aL.keep hx k12 (by simp)
  rw[aM,bG,fG t12 (by simp) rfl rfl,aM,aU]
  rw[fG (aR _) (by simp) (aL.cells x12) (aL.one x12)]
  have kk:ag [t] M12 ((M12.put t (.row ([AV.ptr s 0,v].set 0 (.ptr s' 0)) false TS 0)).put t (.row (([AV.ptr s 0,v].set 0 (.ptr s' 0)).set (0 + 1) x) false TS 0)):=((ag.refl _ _).put _ (.inr (by simp))).put _ (.inr (by simp))
  have hh:((M12.put t (.row ([AV.ptr s 0,v].set 0 (.ptr s' 0)) false TS 0)).put t (.row (([AV.ptr s 0,v].set 0 (.ptr s' 0)).set (0 + 1) x) false TS 0)).heap t=some (.row [.ptr s' 0,x] false TS 0):=aR _
  have hnx:((M12.put t (.row ([AV.ptr s 0,v].set 0 (.ptr s' 0)) false TS 0)).put t (.row (([AV.ptr s 0,v].set 0 (.ptr s' 0)).set (0 + 1) x) false TS 0)).next=M12.next:=rfl
  generalize (M12.put t (.row ([AV.ptr s 0,v].set 0 (.ptr s' 0)) false TS 0)).put t (.row (([AV.ptr s 0,v].set 0 (.ptr s' 0)).set (0 + 1) x) false TS 0)=M13 at *
  have n12:=k12.next
  have n611:=E8.next
  refine hok M13 ⟨by omega,⟨s',x,hh,⟨fun d=>s'<d∧d<M6.next,(agl.keep k12 (by simp) (by simp)).keep kk (by simp; omega) (fun d hd h=>by simp at hd; omega),fun d hd=>.inr (by omega)⟩,aL.keep x12 kk (fun d hd hm=>?_),.inr (by omega),fun d hd=>.inr (by have:=(oc.blk d (hxb d hd)).1; omega)⟩,fun hB=>?_⟩ ((aqW.trans k12).mono (by simp) |>.trans kk)
  ·simp at hm
   subst hm
   have:=(oc.blk d (hxb d hd)).1
   omega
  ·rcases hB with hB | hB
   ·exact hst.nb hB
   ·omega
 intro J hJ
 have e2v:∀ {M' : RM},ag [] M6 M'→M'.heap b=some (.row (gF e kv) false TE 0):=fun k=>k.aP e6 (by omega) (by simp)
 have op1:((e.2.1:Int) == 1)=decide (e.2.1=1):=by by_cases h:e.2.1=1 <;> simp[h]
 rw[bG,az e6 rfl,bU,op1]
 refine pR (P:=fun M'=>ag [] M6 M') (p:=!gZ ps e.1) (ag.refl _ _) (fun _ k hk=>?_) fun M7 k7=>?_
 ·rw[aM,bG,az t6 rfl,bG,BM e6]
  refine hH aij (fun q hq=>⟨(hsi.wf q hq).1,by have:=hsi.few q hq; omega⟩) fun M7 k7=>?_
  rw[bH]
  exact hk M7 k7
 refine aG (fun hc=>?_) (fun hc=>?_)
 ·have e7:=e2v k7
  rw[bG,BM e7,bG,az e7 rfl,bG,az e7 rfl,bG,az e7 rfl,qY]
  refine⟨_,ab2 e, ?_⟩
  rw[rP (x:=.agg (aB.cells (jX e))) (size:=5) rfl rfl rfl,rU]
  have k8:ag [] M7 (M7.push (.row (AV.agg (aB.cells (jX e))).cells false TN 0)):=(ag.refl _ _).push _
  have h8:(M7.push (.row (AV.agg (aB.cells (jX e))).cells false TN 0)).heap M7.next=some (.row (aB.cells (jX e)) false TN 0):=RM.aS _
  have n8:M7.next<(M7.push (.row (AV.agg (aB.cells (jX e))).cells false TN 0)).next:=by simp[RM.push]
  generalize M7.push (.row (AV.agg (aB.cells (jX e))).cells false TN 0)=M8 at *
  generalize hb7:M7.next=b7 at *
  have k68:=k7.trans k8
  refine hL (aL.keep v6 k68 (by simp)) (by omega) fun c M9 oc k9=>?_
  have k69:=k68.trans k9
  have e9:=e2v k69
  have n9:=k9.next
  rw[BM e9]
  refine⟨rfl, ?_⟩
  rw[az e9 rfl]
  refine⟨rfl, ?_⟩
  rw[az e9 rfl]
  refine⟨rfl, ?_⟩
  rw[az e9 rfl]
  refine⟨rfl, ?_⟩
  rw[rP (x:=.agg (aB.cells (jX e))) (size:=5) rfl rfl rfl,ZN]
  have h9:=k9.aP h8 n8 (by simp)
  refine⟨⟨h9,rfl⟩, ?_⟩
  have slx:Sl aB M9 (.slc b7 0 1 (.ex 1)) [jX e]:=by
   refine .slc _ _ _ _ _ (by omega) ?_
   rw[RM.dw h9 (by rw[aB.len]; decide),List.drop_zero,Enc.row_one]
   have:(aB.cells (jX e)).length=1 * aB.size:=by rw[aB.len,Nat.one_mul]
   rw[← this,List.take_length]
  refine IV (E:=aB) oc n9 (by decide) slx (by simp; omega) (by simp; omega) fun c2 M10 oc2 k10 n10 _=>?_
  have QD:ag [] M6 M10:=k69.dK k10 (fun d hd=>.inl (by have:=(oc.blk d hd).1; have:=k68.next; omega))
  refine hS oc2 (by simp; omega) fun M11 oc3 k11=>?_
  have E8:ag [] M6 M11:=QD.dK k11 (fun d hd=>.inl (by have:=(oc2.blk d hd).1; have:=k68.next; omega))
  have hsl:(r9 gp (es++[jX e])).length=(es++[jX e]).length:=(rV iY _).length_eq
  exact hJ _ _ ⟨c2,_,rfl,oc3.jq,by rw[hsl]; simp; omega,by rw[if_pos hc],E8⟩
 ·exact hJ _ _ ⟨v,es,rfl,aL.keep v6 k7 (by simp),by omega,by rw[if_neg (by rw[hc]; decide)],k7⟩
abbrev Ev:=oK × List aD
def yK:sJ Ev:=sJ.pre EvE (eQ.Cq.slice)
theorem Sv {M:RM} {v:AV} {l:List Ev} {S:Nat→Prop} (h:iy yK M v l S) {i:Nat} (hi:i<l.length) :
  ∃ b o kv,(∀ (kd:IntKind) (K:AV→Prop),ai v (N kd (i:Int)) 7 K=K (.ptr b o))∧(∀ K:AV→Prop,aA M (.ptr b o) 7 K=K (.agg (gF l[i].1 kv)))∧(∀ K:AV→Prop,aA M (.ptr b o) 2 K=K (.agg (aT l[i].1.1)))∧Sl eQ M kv l[i].2∧∀ d∈aH kv,S d:=by
 obtain⟨b,o,cs,_,_,hidx,hld,ds,hcs,kv,hds,hkv⟩:=h.at (i:=i) 7 (i:Int) hi rfl rfl
 subst hds
 subst hcs
 refine⟨b,o,kv,hidx,fun K=>?_,fun K=>?_,iy.sl hkv, ?_⟩
 ·rw[gK,hld]
  simp
 ·have e2:(gF l[i].1 kv).take 2=aT l[i].1.1:=rfl
  rw[gK,aa2 hld 2 (by decide),e2]
  simp
 ·obtain⟨_,_,h2,_⟩:=hkv
  exact h2
theorem acX {M:RM} {e:oK} {kv:AV} {ks:List aD} {S:Nat→Prop} (h:Sl eQ M kv ks) (hS:∀ d∈aH kv,S d) : yK.rel M (gF e kv) (e,ks) S:=⟨[kv],rfl,kv,rfl,iy.aaZ h hS⟩
def Fw (TS T TN:Nat) (c:aj) : Prop:=∀ {M:RM} {t:Nat} {B:Nat→Prop} {ps:List Pt} {es:List aF} {Q:ak},pY TS T B M t ps es→es.length≤1000000→(∀ v M',Ow aB M' M.next TN v es→ag [] M M'→Q v M')→c [.ptr t 0] M Q
theorem Tc {TS T TN:Nat} {cL:aj} (hL:Jk TN cL) : Fw TS T TN fun args M Q=>∃ a0,args=[a0]∧wu cL a0 M Q:=by
 intro M t B ps es Q h hl hQ
 refine⟨_,rfl, ?_⟩
 unfold wu
 obtain⟨s,v,r1,_,r3,_,_⟩:=h.row
 rw[aM,aU,az (i:=0 + 1) r1 rfl]
 exact hL r3 hl hQ
def oH (out:List Ev) (x:Ev) : List Ev:=if !(!dO x.1 x.2 || out.any fun y=>decide (y.1.1=x.1.1)) then out++[x] else out
def uE (l:List Ev) : List Ev:=l.foldl oH []
theorem RJ {l:List Ev} {i:Nat} (h:i<l.length) : uE (l.take (i + 1))=oH (uE (l.take i)) l[i]:=by
 rw[List.take_succ_eq_append_getElem h,uE,List.foldl_append]; rfl
theorem X5 (out:List Ev) (x:Ev) : (oH out x).length≤out.length + 1:=by
 unfold oH; split <;> simp
theorem EF (l:List Ev) : ∀ i,(uE (l.take i)).length≤i
 | 0=>Nat.le_refl _
 | i + 1=>by
   by_cases h:i<l.length
   ·rw[RJ h]
    have:=EF l i
    have:=X5 (uE (l.take i)) l[i]
    omega
   ·rw[List.take_of_length_le (by omega)]
    have:=EF l i
    rw[List.take_of_length_le (by omega)] at this
    omega
theorem Rf:∀ (l:List Ev) (out:List Ev),(∀ x∈out,dO x.1 x.2=true)→∀ x∈l.foldl oH out,dO x.1 x.2=true
 | [],out,h=>h
 | y :: l,out,h=>Rf l (oH out y) fun x hx=>by
   unfold oH at hx
   split at hx
   ·rename_i hc
    rcases List.mem_append.1 hx with hx | hx
    ·exact h x hx
    ·simp only[List.mem_singleton] at hx
     subst hx
     simp only[Bool.not_eq_true',Bool.or_eq_false_iff,Bool.not_eq_false'] at hc
     exact hc.1
   ·exact h x hx
def aeV (TE:Nat) (c:aj) : Prop:=∀ {M:RM} {v:AV} {l:List Ev} {Q:ak},iy yK M v l (fun d=>d<M.next)→l.length≤10000 →
 (∀ v' M',iy yK M' v' (uE l) (fun d=>d<M'.next)→ag [] M M'→Q v' M')→c [v] M Q
theorem adE {TE:Nat} {cG:aj} (hG:zS cG) : aeV TE fun args M Q=>∃ a0,args=[a0]∧agz TE cG a0 M Q:=by
 intro M v l Q hv hl hQ
 refine⟨_,rfl, ?_⟩
 unfold agz
 simp only[j6,fB,dY,bR]
 refine⟨_,_,_,_,rfl,rfl,by decide,by decide,by decide,by decide, ?_⟩
 dsimp only
 rw[bB]
 have kM:ag [] M (M.push (.row (bM [(N .i64 0),(N .u64 0),(N .i64 0),(St []),(St []),(St []),(.sc (.slice none 0 0))] 0) false TE 0)):=(ag.refl _ _).push _
 have oM:nZ yK (M.push (.row (bM [(N .i64 0),(N .u64 0),(N .i64 0),(St []),(St []),(St []),(.sc (.slice none 0 0))] 0) false TE 0)) M.next TE (.slc M.next 0 0 (.ex 0)) [] (fun d=>d<M.next):=⟨[],Own.lit M (Nat.le_refl _),.nil⟩
 refine aI (fun m ys M3=>∃ (i:Nat) (w:AV),m=l.length - i∧ys=[w,N .i64 (i:Int)]∧i≤l.length∧ag [] M M3∧nZ yK M3 M.next TE w (uE (l.take i)) (fun d=>d<M.next)) _ ⟨0,_,rfl,rfl,Nat.zero_le _,kM,oM⟩ ?_
 rintro next m ys M3 hnext ⟨i,w,rfl,rfl,hi,k3,ow⟩
 dsimp only[aa]
 have hv3:iy yK M3 v l (fun d=>d<M.next):=hv.keep k3 (by simp)
 have n3:=k3.next
 rw[hv3.len,ed]
 refine aG (fun hlt=>?_) (fun hge=>?_)
 ·have hlt:i<l.length:=of_decide_eq_true hlt
  refine aY (fun zs M'=>∃ w',zs=[w']∧ag [] M M'∧nZ yK M' M.next TE w' (uE (l.take (i + 1))) (fun d=>d<M.next)) ?_ ?_
  ·rintro zs M' ⟨w',rfl,k',o'⟩
   dsimp only[aa]
   rw[add1 (by omega)]
   exact hnext _ _ _ (by omega) ⟨i + 1,w',rfl,rfl,by omega,k',o'⟩
  intro J hJ
  rw[RJ hlt] at hJ
  have hol:=EF l i
  obtain⟨b,o,kv,hidx,hl7,hl2,hkv,hkb⟩:=Sv hv3 hlt
  rw[hidx,hl7]
  refine hG hkv fun M4 k4=>?_
  rw[bH]
  have ow4:=ow.keep k4 (by simp) (by simp)
  generalize uE (l.take i)=out at *
  have k34:=k3.trans k4
  have n4:=k34.next
  have hv4:iy yK M4 v l (fun d=>d<M.next):=hv.keep k34 (by simp)
  have owS:iy yK M4 w out (fun d=>d<M4.next):=(ow4.mono (fun d hd=>by omega)).slD (fun d _ h=>h)
  obtain⟨b4,o4,kv4,agK,apj,aqQ,amk,apH⟩:=Sv hv4 hlt
  refine aI (fun m ys M5=>∃ j:Nat,m=out.length - j∧ys=[Bo (!dO l[i].1 l[i].2 || (out.take j).any fun y=>decide (y.1.1=l[i].1.1)),N .i64 (j:Int)]∧j≤out.length∧M5=M4) _ ⟨0,rfl,by simp,Nat.zero_le _,rfl⟩ ?_
  rintro gT m ys M5 dH ⟨j,rfl,rfl,hj,rfl⟩
  dsimp only[aa]
  rw[owS.len,ed]
  refine aG (fun hlt2=>?_) (fun sP=>?_)
  ·have hlt2:j<out.length:=of_decide_eq_true hlt2
   obtain⟨b5,o5,kv5,aoi,hl75,ap0,_,_⟩:=Sv owS hlt2
   refine YE (P:=fun M'=>M'=M5) (p:=decide (out[j].1.1=l[i].1.1)) rfl (fun _ k hk=>?_) fun M' hM'=>?_
   ·rw[aoi,aU,Nat.add_zero,ap0,agK,aU,Nat.add_zero,aqQ,yz rfl rfl (MZ _ _),Bool.bne_false]
    exact hk M5 rfl
   subst hM'
   rw[add1 (by omega)]
   refine dH _ _ _ (by omega) ⟨j + 1,rfl, ?_,by omega,rfl⟩
   rw[List.take_succ_eq_append_getElem hlt2,List.any_append,List.any_cons,List.any_nil,Bool.or_false,Bool.or_assoc]
  ·have hje:j=out.length:=by
    have:¬ j<out.length:=of_decide_eq_false sP
    omega
   subst hje
   rw[List.take_length,bH]
   refine aG (fun hc=>?_) (fun hc=>?_)
   ·rw[agK,apj,rP (x:=.agg (gF l[i].1 kv4)) (size:=7) rfl (N7 amk) rfl,bB]
    have hd:=ow4.blk
    refine nZ.app (R:=yK) ow4 (acX amk apH) (by omega) (by decide) (fun d hd' h=>by have:=(hd d hd').1; omega) (fun d h=>by omega) (by omega) (by omega) ?_
    intro w' M6 o6 k6 n6 _ _
    refine hJ _ _ ⟨w',rfl,k34.dK k6 (fun d hd'=>.inl (hd d hd').1), ?_⟩
    rw[oH,if_pos hc]
    exact o6
   ·refine hJ _ _ ⟨w,rfl,k34, ?_⟩
    rw[oH,if_neg (by rw[hc]; decide)]
    exact ow4
 ·have he:i=l.length:=by
   have:¬ i<l.length:=of_decide_eq_false hge
   omega
  subst he
  rw[List.take_length] at ow
  exact hQ w M3 ((ow.mono (fun d hd=>by omega)).slD (fun d _ h=>h)) k3
theorem ab9 {k:Nat} {ps:List Pt} {d e:aD} (h:SI k ps) (hk:k<4096) (hg:good d=true) : gZ (lh ps d).2 e=true↔gZ ps e=true∨e=d:=by
 have hl:∀ p∈ps,p.2.length<4096:=fun p hp=>by have:=h.few p hp; omega
 rw[gZ,gZ,Bool.and_eq_true,Bool.and_eq_true,aff h.len h.wf hl hg]
 constructor
 ·rintro⟨h1,h2 | ⟨h2,h3⟩⟩
  ·exact .inl ⟨h1,h2⟩
  ·refine .inr (Prod.ext ?_ h3)
   have:=(J9 h1).1
   have:=(J9 hg).1
   omega
 ·rintro(⟨h1,h2⟩ | rfl)
  ·exact⟨h1,.inl h2⟩
  ·exact⟨hg,.inr ⟨rfl,rfl⟩⟩
theorem JU {e:aD} : ∀ {ds:List aD} {ps:List Pt} {k:Nat},SI k ps→k + ds.length<4096→(∀ d∈ds,good d=true)→(gZ (nu ps ds) e=true↔gZ ps e=true∨e∈ds)
 | [],ps,k,h,hk,hg=>by simp[nu]
 | d :: ds,ps,k,h,hk,hg=>by
   have:nu ps (d :: ds)=nu (lh ps d).2 ds:=rfl
   rw[this,JU (YS h) (by simp at hk; omega) (fun x hx=>hg x (by simp[hx])),ab9 h (by simp at hk; omega) (hg d (by simp)),List.mem_cons]
   constructor
   ·rintro((h | h) | h)
    ·exact .inl h
    ·exact .inr (.inl h)
    ·exact .inr (.inr h)
   ·rintro(h | h | h)
    ·exact .inl (.inl h)
    ·exact .inl (.inr h)
    ·exact .inr h
theorem Zw (ps:List Pt) (es:List aF) (e:oK) (ks:List aD) : (lu ps es e ks).length≤es.length + 1:=by
 unfold lu
 refine Nat.le_trans (List.length_filter_le _ _) ?_
 split
 ·rw[(rV iY _).length_eq]; simp
 ·omega
structure arh (i:Nat) (ps:List Pt) (es:List aF) (dead:List aD) : Prop where
 si:SI (65 * i) ps
 few:es.length≤i
 dl:dead.length≤64 * i
 seen:∀ d∈dead,gZ ps d=true
 gone:∀ x∈es,x.1 ∉ dead
def keq (x y:aF) : Bool:=decide (x.2.1=y.2.1∧x.2.2.1=y.2.2.1∧x.1=y.1)
theorem Jp {α β:Type} [DecidableEq β] {k:α→β} {lt1:β→β→Bool} {lt2:α→α→Bool} (h:LO lt1) {x y:α} (h1:lex k lt1 lt2 x y=false) (h2:lex k lt1 lt2 y x=false) : k x=k y∧lt2 x y=false∧lt2 y x=false:=by
 unfold lex at h1 h2
 rw[Bool.or_eq_false_iff] at h1 h2
 have e:=h.tri _ _ h1.1 h2.1
 have a:=h1.2
 have b:=h2.2
 rw[e,decide_eq_true rfl,Bool.true_and] at a b
 exact⟨e,a,b⟩
theorem Y6 {x y:aF} (h1:gp x y=false) (h2:gp y x=false) : keq x y=true:=by
 obtain⟨e1,a1,b1⟩:=Jp qK h1 h2
 obtain⟨e2,a2,b2⟩:=Jp qK a1 b1
 obtain⟨e3,a3,b3⟩:=Jp VZ a2 b2
 obtain⟨e4,_,_⟩:=Jp Vb a3 b3
 exact decide_eq_true ⟨e1,e2,Prod.ext e4 e3⟩
def zn (xs:List aF) : Prop:=xs.Pairwise fun x y=>gp y x=false
theorem zn.at {xs:List aF} (h:zn xs) {i j:Nat} (hij:i≤j) (hj:j<xs.length) : gp xs[j] (xs[i]'(by omega))=false:=by
 rcases Nat.lt_or_ge i j with h1 | h1
 ·exact(List.pairwise_iff_getElem.1 h) i j (by omega) hj h1
 ·have:i=j:=by omega
  subst this
  exact iY.irrefl _
abbrev zk:=List Pt × List aF
def ug (s:zk) (x:Ev) : zk:=if dO x.1 x.2 then(Aa s.1 x.1 x.2,lu s.1 s.2 x.1 x.2) else s
def mO (l:List Ev) : zk:=l.foldl ug (jG,[])
theorem Rv (l:List Ev) (x:Ev) : mO (l++[x])=ug (mO l) x:=by rw[mO,List.foldl_append]; rfl
structure JE (i:Nat) (s:zk) : Prop where
 si:SI (65 * i) s.1
 few:s.2.length≤i
 up:zn s.2
theorem QU {ps:List Pt} {es:List aF} {e:oK} {ks:List aD} (h:zn es) : zn (lu ps es e ks):=by
 unfold lu
 refine List.Pairwise.filter _ ?_
 split
 ·exact ad2 iY _
 ·exact h
theorem JE.step {i:Nat} {s:zk} (h:JE i s) (x:Ev) : JE (i + 1) (ug s x):=by
 unfold ug
 split
 ·rename_i hg
  obtain⟨_,g2,_,_,_⟩:=Ba hg
  refine⟨(BG h.si).mono (by simp; omega), ?_,QU h.up⟩
  have:=Zw s.1 s.2 x.1 x.2
  have:=h.few
  show(lu s.1 s.2 x.1 x.2).length≤i + 1
  omega
 ·exact⟨h.si.mono (by omega),by have:=h.few; omega,h.up⟩
theorem JE.empty:JE 0 (jG,[]):=⟨Bb,Nat.le_refl _,.nil⟩
theorem adf:∀ (l:List Ev),JE l.length (mO l):=fun l=>by
 suffices h:∀ (l:List Ev) (i:Nat) (s:zk),JE i s→JE (i + l.length) (l.foldl ug s) by
  have:=h l 0 _ JE.empty
  rwa [Nat.zero_add] at this
 intro l
 induction l with
 | nil=>intro i s h; exact h
 | cons x l ih =>
   intro i s h
   have:=ih (i + 1) (ug s x) (h.step x)
   rwa [show i + 1 + l.length=i + (x :: l).length by simp; omega] at this
theorem JF {α:Type} {p:α→Bool} {l:List α} {i:Nat} (h:i<l.length) : (l.take (i + 1)).filter p=(l.take i).filter p++(if p l[i] then[l[i]] else[]):=by
 rw[List.take_succ_eq_append_getElem h,List.filter_append,List.filter_cons,List.filter_nil]
theorem abf {α:Type} (p:α→Bool) (l:List α) (i:Nat) : ((l.take i).filter p).length≤i:=Nat.le_trans (List.length_filter_le _ _) (by rw[List.length_take]; omega)
theorem vo (x:aF) : (aB.cells x).all oneCell=true:=rfl
theorem abP {M:RM} {b T:Nat} {x:aF} {p:Bool} (h:M.heap b=some (.row (aB.cells x) p T 0)) {K:AV→Prop} : aA M (.ptr b 0) 2 K=K (.agg (aT x.1)):=by
 have e2:((aB.cells x).drop 0).take 2=aT x.1:=rfl
 rw[gK,RM.dw h (by rw[aB.len]; decide),e2]
 simp
theorem Gm {α:Type} [DecidableEq α] : ∀ {xs ys:List α},xs.Nodup→(∀ x∈xs,x∈ys)→xs.length≤ys.length
 | [],_,_,_=>Nat.zero_le _
 | x :: xs,ys,hn,hs=>by
   have hx:x∈ys:=hs x (by simp)
   rw[List.nodup_cons] at hn
   have:=Gm (xs:=xs) (ys:=ys.erase x) hn.2 fun y hy=>(List.mem_erase_of_ne (by rintro rfl; exact hn.1 hy)).2 (hs y (by simp[hy]))
   rw[List.length_erase_of_mem hx] at this
   have h0:0<ys.length:=List.length_pos_of_mem hx
   simp
   omega
def Ak (l:List Ev) : List aD:=l.flatMap fun x=>x.1.1 :: x.2
theorem Z4 {k:Nat} {ps:List Pt} {e:oK} {ks:List aD} (h:SI k ps) (hk:k + 65<4096) (hg:dO e ks=true) (d:aD) : gZ (Aa ps e ks) d=true↔gZ ps d=true∨d∈e.1 :: ks:=by
 obtain⟨g1,g2,g3,_,_⟩:=Ba hg
 refine JU h (by simp; omega) fun d hd=>?_
 rcases List.mem_cons.1 hd with rfl | hd
 ·exact g1
 ·exact g3 d hd
structure StU (s:zk) : Prop where
 seen:∀ x∈s.2,gZ s.1 x.1=true
 one:s.2.Pairwise fun x y=>x.1≠y.1
structure StB (a t:zk) : Prop where
 FZ:∀ x∈t.2,gZ a.1 x.1=true→x∈a.2
 sets:∀ d,gZ a.1 d=true→gZ t.1 d=true
theorem StU.empty:StU (jG,[]):=⟨by simp,.nil⟩
theorem acj (d:aD) : gZ jG d=false:=by
 rw[gZ,FV]
 cases good d with
 | false=>rfl
 | true =>
   simp only[Bool.true_and]
   unfold ku
   simp
   omega
theorem Yo (l:List Ev) : (uE l).length≤l.length:=by
 have:=EF l l.length
 rwa [List.take_length] at this
def Live (l:List Ev) (x:aF) : Prop:=∃ e∈l,e.1.2.1=1∧jX e.1=x∧∀ f∈l,e.1.1 ∉ f.2
structure Ch (l:List Ev) (s:zk) : Prop where
 FZ:∀ x,x∈s.2↔Live l x
 sets:∀ d,gZ s.1 d=true↔d∈Ak l
 up:zn s.2
 one:s.2.Pairwise fun x y=>x.1≠y.1
 si:∃ k,SI k s.1
theorem L8 {l:List Ev} {d:aD} : d∈Ak l↔∃ e∈l,d=e.1.1∨d∈e.2:=by
 unfold Ak
 rw[List.mem_flatMap]
 constructor
 ·rintro⟨e,he,h⟩
  exact⟨e,he,List.mem_cons.1 h⟩
 ·rintro⟨e,he,h⟩
  exact⟨e,he,List.mem_cons.2 h⟩
theorem Ch.stU {l:List Ev} {s:zk} (h:Ch l s) : StU s:=⟨fun x hx=>by
 obtain⟨e,he,_,rfl,_⟩:=(h.FZ x).1 hx
 exact(h.sets _).2 (L8.2 ⟨e,he,.inl rfl⟩),h.one⟩
theorem Ch.len {l m:List Ev} {s:zk} (h:Ch l s) (hm:∀ e∈l,e∈m) : s.2.length≤m.length:=by
 have hn:(s.2.map fun x=>x.1).Nodup:=by
  rw[List.Nodup,List.pairwise_map]
  exact h.one
 have:=Gm hn (ys:=m.map fun e=>e.1.1) fun d hd=>by
  obtain⟨x,hx,rfl⟩:=List.mem_map.1 hd
  obtain⟨e,he,_,rfl,_⟩:=(h.FZ x).1 hx
  exact List.mem_map.2 ⟨e,hm e he,rfl⟩
 rwa [List.length_map,List.length_map] at this
theorem Zn {ps:List Pt} {es:List aF} {e:oK} {ks:List aD} {x:aF} : x∈lu ps es e ks↔x.1 ∉ ks∧(x∈es∨(e.2.1=1∧gZ ps e.1=false∧x=jX e)):=by
 unfold lu
 rw[List.mem_filter]
 constructor
 ·rintro⟨h1,h2⟩
  refine⟨by simpa using h2, ?_⟩
  split at h1
  ·rename_i hc
   simp only[Bool.and_eq_true,Bool.not_eq_true',decide_eq_true_eq] at hc
   rw[(rV iY _).mem_iff,List.mem_append,List.mem_singleton] at h1
   rcases h1 with h1 | h1
   ·exact .inl h1
   ·exact .inr ⟨hc.1,hc.2,h1⟩
  ·exact .inl h1
 ·rintro⟨h1,h2⟩
  refine⟨?_,by simpa using h1⟩
  split
  ·rw[(rV iY _).mem_iff,List.mem_append,List.mem_singleton]
   rcases h2 with h2 | ⟨_,_,h2⟩
   ·exact .inl h2
   ·exact .inr h2
  ·rename_i hc
   rcases h2 with h2 | ⟨h3,h4,_⟩
   ·exact h2
   ·exact absurd (by rw[h3,h4]; rfl) hc
theorem Ch.step {l:List Ev} {s:zk} {x:Ev} {k:Nat} (h:Ch l s) (hk:SI k s.1) (hk2:k + 65<4096) (hg:dO x.1 x.2=true) (hf:∀ e∈l,e.1.1≠x.1.1) : Ch (l++[x]) (ug s x):=by
 have hU:=h.stU
 have e1:ug s x=(Aa s.1 x.1 x.2,lu s.1 s.2 x.1 x.2):=by unfold ug; rw[if_pos hg]
 have hm:=Z4 hk hk2 hg
 rw[e1]
 refine⟨fun y=>?_,fun d=>?_,QU h.up, ?_,⟨_,BG hk⟩⟩
 ·rw[Zn,h.FZ]
  constructor
  ·rintro⟨hy,⟨e,he,h1,rfl,h3⟩ | ⟨h1,h2,rfl⟩⟩
   ·refine⟨e,by simp[he],h1,rfl,fun f hf'=>?_⟩
    rcases List.mem_append.1 hf' with hf' | hf'
    ·exact h3 f hf'
    ·rw[List.mem_singleton] at hf'
     subst hf'
     exact hy
   ·refine⟨x,by simp,h1,rfl,fun f hf'=>?_⟩
    rcases List.mem_append.1 hf' with hf' | hf'
    ·intro hk'
     rw[(h.sets x.1.1).2 (L8.2 ⟨f,hf',.inr hk'⟩)] at h2
     cases h2
    ·rw[List.mem_singleton] at hf'
     subst hf'
     exact hy
  ·rintro⟨e,he,h1,rfl,h3⟩
   refine⟨h3 x (by simp), ?_⟩
   rcases List.mem_append.1 he with he | he
   ·exact .inl ⟨e,he,h1,rfl,fun f hf'=>h3 f (by simp[hf'])⟩
   ·rw[List.mem_singleton] at he
    subst he
    refine .inr ⟨h1, ?_,rfl⟩
    cases hs:gZ s.1 e.1.1 with
    | false=>rfl
    | true =>
      obtain⟨f,hf',hd⟩:=L8.1 ((h.sets _).1 hs)
      rcases hd with hd | hd
      ·exact absurd hd.symm (hf f hf')
      ·exact absurd hd (h3 f (by simp[hf']))
 ·show gZ (Aa s.1 x.1 x.2) d=true↔_
  rw[hm,h.sets]
  have:Ak (l++[x])=Ak l++(x.1.1 :: x.2):=by simp[Ak]
  rw[this,List.mem_append]
 ·show(lu s.1 s.2 x.1 x.2).Pairwise _
  unfold lu
  refine List.Pairwise.filter _ ?_
  split
  ·rename_i hc
   simp only[Bool.and_eq_true,Bool.not_eq_true',decide_eq_true_eq] at hc
   refine(rV iY _).symm.pairwise ?_ (fun {a b} hab e=>hab e.symm)
   rw[List.pairwise_append]
   refine⟨h.one,by simp,fun a ha b hb e=>?_⟩
   simp only[List.mem_singleton] at hb
   subst hb
   have:=hU.seen a ha
   rw[e,show(jX x.1).1=x.1.1 from rfl,hc.2] at this
   cases this
  ·exact h.one
theorem Ch.empty:Ch [] (jG,[]):=⟨fun x=>by simp[Live],fun d=>by rw[acj]; simp[Ak],.nil,.nil,⟨0,Bb⟩⟩
theorem Ch.run {l:List Ev} (hg:∀ x∈l,dO x.1 x.2=true) (hd:l.Pairwise fun x y=>x.1.1≠y.1.1) (hl:l.length≤60) : Ch l (mO l):=by
 suffices h:∀ n,n≤l.length→Ch (l.take n) (mO (l.take n)) by
  have:=h l.length (Nat.le_refl _)
  rwa [List.take_length] at this
 intro n
 induction n with
 | zero=>intro _; exact Ch.empty
 | succ n ih =>
   intro hn
   have h0:=ih (by omega)
   have e:l.take (n + 1)=l.take n++[l[n]]:=List.take_succ_eq_append_getElem (by omega)
   rw[e,Rv]
   have hI:=adf (l.take n)
   rw[List.length_take,Nat.min_eq_left (by omega)] at hI
   refine h0.step hI.si (by omega) (hg _ (List.getElem_mem _)) fun y hy=>?_
   obtain⟨i,hi,rfl⟩:=List.getElem_of_mem hy
   rw[List.length_take] at hi
   rw[List.getElem_take]
   exact(List.pairwise_iff_getElem.1 hd) i n (by omega) (by omega) (by omega)
theorem aeA:∀ {a b:List aF},zn a→zn b→(a.Pairwise fun x y=>x.1≠y.1)→(b.Pairwise fun x y=>x.1≠y.1)→(∀ x,x∈a↔x∈b)→a=b:=by
 intro a b ha hb oa ob hm
 have strict:∀ {c:List aF},zn c→(c.Pairwise fun x y=>x.1≠y.1)→c.Pairwise fun x y=>gp x y=true:=fun {c} hu ho=>by
  refine List.Pairwise.imp (fun {x y} h=>?_) (List.Pairwise.and hu ho)
  cases hxy:gp x y with
  | true=>rfl
  | false=>exact absurd (of_decide_eq_true (Y6 hxy h.1)).2.2 h.2
 have sa:=strict ha oa
 have sb:=strict hb ob
 clear ha hb oa ob
 induction a generalizing b with
 | nil =>
   cases b with
   | nil=>rfl
   | cons y b=>exact absurd ((hm y).2 (by simp)) (by simp)
 | cons x a ih =>
   cases b with
   | nil=>exact absurd ((hm x).1 (by simp)) (by simp)
   | cons y b =>
     rw[List.pairwise_cons] at sa sb
     have hxy:x=y:=by
      rcases List.mem_cons.1 ((hm x).1 (by simp)) with h | h
      ·exact h
      ·rcases List.mem_cons.1 ((hm y).2 (by simp)) with h' | h'
       ·exact h'.symm
       ·have h1:=sb.1 x h
        have h2:=sa.1 y h'
        have:=iY.trans _ _ _ h1 h2
        rw[iY.irrefl] at this
        cases this
     subst hxy
     rw[ih (fun z=>?_) sa.2 sb.2]
     constructor
     ·intro hz
      rcases List.mem_cons.1 ((hm z).1 (by simp[hz])) with h | h
      ·subst h
       have:=sa.1 z hz
       rw[iY.irrefl] at this
       cases this
      ·exact h
     ·intro hz
      rcases List.mem_cons.1 ((hm z).2 (by simp[hz])) with h | h
      ·subst h
       have:=sb.1 z hz
       rw[iY.irrefl] at this
       cases this
      ·exact h
theorem afu (l:List Ev) : (uE l).Pairwise fun x y=>x.1.1≠y.1.1:=by
 suffices h:∀ (l out:List Ev),(out.Pairwise fun x y=>x.1.1≠y.1.1)→(l.foldl oH out).Pairwise fun x y=>x.1.1≠y.1.1 from h l [] .nil
 intro l
 induction l with
 | nil=>intro out h; exact h
 | cons x l ih =>
   intro out h
   refine ih _ ?_
   unfold oH
   split
   ·rename_i hc
    simp only[Bool.not_eq_true',Bool.or_eq_false_iff,Bool.not_eq_false'] at hc
    rw[List.pairwise_append]
    refine⟨h,by simp,fun a ha b hb e=>?_⟩
    simp only[List.mem_singleton] at hb
    subst hb
    have:=List.any_eq_false.1 hc.2 a ha
    exact this (decide_eq_true e)
   ·exact h
theorem Yz {M:RM} {v:AV} {xs:List aF} (h:Sl aB M v xs) {i:Nat} (hi:i<xs.length) {kd:IntKind} {j:Nat} {x:AV} (hx:(aB.cells xs[i])[j]?=some x) {K:AV→Prop} : (ai v (N kd (i:Int)) 5 fun p=>aJ p j fun q=>au M q K)=K x:=by
 obtain⟨b,o,_,_,hidx,hld⟩:=Sl.at (E:=aB) (i:=i) h 5 (i:Int) hi rfl rfl
 rw[hidx,aU,gL]
 rw[uf hld hx]
 simp
def Kn (TS T TN:Nat) (c:aj) : Prop:=∀ {M:RM} {t:Nat} {B:Nat→Prop} {ps:List Pt} {es:List aF} {s:List UInt8} {Q:ak},pY TS T B M t ps es→es.length≤50000→(∀ v M',Ow aB M' M.next TN v (es.filter fun x=>x.2.1 == s)→ag [] M M'→Q v M')→c [.ptr t 0,St s] M Q
theorem XC {TS T TN:Nat} : Kn TS T TN fun args M Q=>∃ a0 a1,args=[a0,a1]∧wB TN a0 a1 M Q:=by
 intro M t B ps es s Q hst hlen hQ
 refine⟨_,_,rfl, ?_⟩
 unfold wB
 simp only[j6,fB,dY,eP,bR]
 obtain⟨s0,v,r1,_,r3,_,_⟩:=hst.row
 rw[aM,aU,az (i:=0 + 1) r1 rfl,aL.len r3]
 refine aI (fun z ys M3=>∃ (i:Nat) (dv:AV),z=es.length - i∧ys=[dv,N .i64 (i:Int)]∧i≤es.length∧ag [] M M3∧Ow aB M3 M.next TN dv ((es.take i).filter fun x=>x.2.1 == s)) _
  ⟨0,bZ,rfl,rfl,Nat.zero_le _,ag.refl _ _,.nil⟩ ?_
 rintro next z ys M3 hnext ⟨i,dv,rfl,rfl,hil,k3,o3⟩
 dsimp only[aa]
 rw[ed]
 refine aG (fun hlt=>?_) (fun hge=>?_)
 ·have hlt:i<es.length:=of_decide_eq_true hlt
  have n3:=k3.next
  have hfl:=abf (fun x:aF=>x.2.1 == s) es i
  refine aY (fun zs M'=>∃ dv',zs=[dv']∧ag [] M M'∧Ow aB M' M.next TN dv' ((es.take (i + 1)).filter fun x=>x.2.1 == s)) ?_ ?_
  ·rintro zs M' ⟨dv',rfl,k',o'⟩
   dsimp only[aa]
   rw[add1 (by omega)]
   exact hnext _ _ _ (by omega) ⟨i + 1,dv',rfl,rfl,by omega,k',o'⟩
  intro J hJ
  rw[JF hlt] at hJ
  rw[vN (aL.keep r3 k3 (by simp)) hlt]
  generalize ((es.take i).filter fun x=>x.2.1 == s)=acc at *
  generalize es[i]=x at *
  rw[bB,gz (n:=5) (x:=.agg (aB.cells x)) (l:=[(N .i64 0),(N .u64 0),(St []),(St []),(St [])]) (RM.aS _) rfl rfl (vo x)]
  have k4:ag [] M3 ((M3.push (.row [(N .i64 0),(N .u64 0),(St []),(St []),(St [])] false TN 0)).put M3.next (.row (AV.agg (aB.cells x)).cells false TN 0)):=((ag.refl _ _).push _).new _ (Nat.le_refl _)
  have h4:((M3.push (.row [(N .i64 0),(N .u64 0),(St []),(St []),(St [])] false TN 0)).put M3.next (.row (AV.agg (aB.cells x)).cells false TN 0)).heap M3.next=some (.row (aB.cells x) false TN 0):=aR _
  generalize (M3.push (.row [(N .i64 0),(N .u64 0),(St []),(St []),(St [])] false TN 0)).put M3.next (.row (AV.agg (aB.cells x)).cells false TN 0)=M4 at *
  generalize M3.next=b at *
  rw[aU,az (i:=0 + 2) (x:=St x.2.1) h4 rfl,FD]
  have k04:=k3.trans k4
  have o4:=o3.keep k4 (by simp)
  refine aG (fun hc=>?_) (fun hc=>?_)
  ·rw[fA (n:=5) h4 rfl,rP (x:=.agg (aB.cells x)) (size:=5) rfl (vo x) rfl,bB]
   refine xz (E:=aB) (a:=x) o4 (by have:=k04.next; omega) (by decide) (by omega) (by omega) fun v2 M7 o7 k7 n7 _=>?_
   refine hJ _ _ ⟨v2,rfl,k04.dK k7 (fun d hd=>.inl (o4.blk d hd).1), ?_⟩
   rw[hc,if_pos rfl]
   exact o7
  ·refine hJ _ _ ⟨dv,rfl,k04, ?_⟩
   rw[hc,if_neg (by decide),List.append_nil]
   exact o4
 ·have he:i=es.length:=by
   have:¬ i<es.length:=of_decide_eq_false hge
   omega
  subst he
  rw[List.take_length] at o3
  exact hQ dv M3 o3 k3
def Vk (s:List UInt8) (x:aF) : Bool:=(s != []) && (x.2.2.1 != s)
def setOf (d:aD) (c f a:List UInt8) : oK:=(d,(1,(c,(f,a))))
def ahk (es:List aF) (c f:List UInt8) : List aF:=(es.filter fun x=>x.2.1 == c).filter fun x=>!Vk f x
def Y3 (es:List aF) (c f:List UInt8) : List aD:=aop ltD ((ahk es c f).map fun x=>x.1)
structure Apart (w:List Ev) (s:zk) (c f a b cc:List UInt8) : Prop where
 ch:Ch w s
 good:∀ e∈w,dO e.1 e.2=true
 one:w.Pairwise fun x y=>x.1.1≠y.1.1
 len:w.length≤30
 dev:∀ e∈w,e.1.1.1<12∧∀ k∈e.2,k.1<12
 hf:f≠[]
 gx:dO (setOf (12,1) c f a) (Y3 s.2 c f)=true
 gy:dO (setOf (13,1) c f b) (Y3 s.2 c f)=true
 hc:cc.length≤512
section
variable {w:List Ev} {s:zk} {c f a b cc:List UInt8}
end
structure SH (TS T:Nat) (M:RM) (t:Nat) (B:Nat→Prop) (s:zk) : Prop where
 st:pY TS T B M t s.1 s.2
 lo:∀ d,B d→d<M.next
theorem SH.of {TS T t:Nat} {M:RM} {B:Nat→Prop} {ps:List Pt} {es:List aF} (h:pY TS T B M t ps es) : SH TS T M t (fun d=>B d∧d<M.next) (ps,es):=⟨h.below,fun d hd=>hd.2⟩
structure arn (TE:Nat) (M:RM) (b:Nat) (e:oK) (kv:AV) (ks:List aD) : Prop where
 lt:b<M.next
 row:M.heap b=some (.row (gF e kv) false TE 0)
 kills:Sl eQ M kv ks
section
variable {TS T:Nat}
end
def YP (c:aj) : Prop:=∀ {M:RM} {x y:aF} {Q:ak},(∀ M',ag [] M M'→Q (Bo (gp x y)) M')→c [.agg (aB.cells x),.agg (aB.cells y)] M Q
theorem agp {x y:aF} (h:x.2.1≠y.2.1) : gp x y=decide (x.2.1<y.2.1):=by
 rw[gp,lex]; simp[h]
theorem af3 {x y:aF} (h:x.2.1=y.2.1) (h2:x.2.2.1≠y.2.2.1) : gp x y=decide (x.2.2.1<y.2.2.1):=by
 rw[gp,lex,lex]; simp[h,h2,List.lt_irrefl]
theorem agx {x y:aF} (h:x.2.1=y.2.1) (h2:x.2.2.1=y.2.2.1) : gp x y=qz x.1 y.1:=by
 rw[gp,lex,lex]; simp[h,h2,List.lt_irrefl,qz,lex]
theorem XR {TN:Nat} {cl:aj} (hl:yF cl) : YP fun args M Q=>∃ a0 a1,args=[a0,a1]∧Lx TN cl a0 a1 M Q:=by
 intro M x y Q hQ
 refine⟨_,_,rfl, ?_⟩
 unfold Lx
 rw[dS rfl (by rw[aB.len]; decide),bB,dS rfl (by rw[aB.len]; decide),bB]
 have k0:ag [] M ((M.push (.row (aB.cells x) false TN 0)).push (.row (aB.cells y) false TN 0)):=((ag.refl _ _).push _).push _
 have hx:((M.push (.row (aB.cells x) false TN 0)).push (.row (aB.cells y) false TN 0)).heap M.next=some (.row (aB.cells x) false TN 0):=lZ (RM.aS _) (by simp[RM.push])
 have hy:((M.push (.row (aB.cells x) false TN 0)).push (.row (aB.cells y) false TN 0)).heap (M.push (.row (aB.cells x) false TN 0)).next=some (.row (aB.cells y) false TN 0):=RM.aS _
 generalize (M.push (.row (aB.cells x) false TN 0)).push (.row (aB.cells y) false TN 0)=M1 at *
 generalize (M.push (.row (aB.cells x) false TN 0)).next=b2 at *
 rw[aU,az (i:=0 + 2) (x:=St x.2.1) hx rfl,aU,az (i:=0 + 2) (x:=St y.2.1) hy rfl,qE]
 refine aG (fun h=>?_) (fun h=>?_)
 ·have h:x.2.1≠y.2.1:=by simpa using h
  rw[aU,az (i:=0 + 2) (x:=St x.2.1) hx rfl,aU,az (i:=0 + 2) (x:=St y.2.1) hy rfl,Le,ou,← agp h]
  exact hQ _ k0
 have h:x.2.1=y.2.1:=by simpa using h
 rw[aU,az (i:=0 + 3) (x:=St x.2.2.1) hx rfl,aU,az (i:=0 + 3) (x:=St y.2.2.1) hy rfl,qE]
 refine aG (fun h2=>?_) (fun h2=>?_)
 ·have h2:x.2.2.1≠y.2.2.1:=by simpa using h2
  rw[aU,az (i:=0 + 3) (x:=St x.2.2.1) hx rfl,aU,az (i:=0 + 3) (x:=St y.2.2.1) hy rfl,Le,ou,← af3 h h2]
  exact hQ _ k0
 have h2:x.2.2.1=y.2.2.1:=by simpa using h2
 rw[bG,abP hx,bG,abP hy]
 refine hl fun M2 k2=>?_
 rw[← agx h h2]
 exact hQ _ (k0.trans k2)
def atE (x:aF) (l:List aF) : Nat:=(l.takeWhile fun y=>gp y x).length
def SL (l:List aF) (x:aF) : List aF:=l.take (atE x l)++x :: l.drop (atE x l)
def aap (e:Ev) (i k:Nat) (f:Ev) : Bool:=!decide (e.1.1∈f.2) && !(decide (k<i) && decide (f.1.1=e.1.1))
def FK (l:List Ev) (e:Ev) (i:Nat) : Nat→Bool
 | 0=>e.1.2.1 == 1
 | k + 1=>FK l e i k && (match l[k]? with | some f=>aap e i k f | none=>true)
def wT (l:List Ev) : Nat→List aF
 | 0=>[]
 | i + 1=>match l[i]? with
   | some e=>if FK l e i l.length then SL (wT l i) (jX e.1) else wT l i
   | none=>wT l i
def nm (es:List aF) (i:Nat) : List UInt8:=(es.getD i ((0,0),([],[],[]))).2.1
theorem Sm {es:List aF} {i:Nat} (h:i<es.length) : nm es i=es[i].2.1:=by rw[nm,Dp h]
def kC (es:List aF) : Nat→List (List UInt8)
 | 0=>[]
 | i + 1=>if i=0∨nm es (i - 1)≠nm es i then kC es i++[nm es i] else kC es i
theorem Ms (es:List aF) : ∀ i,(kC es i).length≤i
 | 0=>Nat.le_refl _
 | i + 1=>by
   have:=Ms es i
   rw[kC]
   split
   ·simp; omega
   ·omega
theorem BK (es:List aF) : ∀ i,(kC es (i + 1)).getLast?=some (nm es i)
 | 0=>by rw[kC,if_pos (.inl rfl)]; simp
 | i + 1=>by
   rw[kC]
   split
   ·simp
   ·rename_i h
    have h:nm es i=nm es (i + 1):=by
     apply Classical.byContradiction; intro hh; exact h (.inr (by simpa using hh))
    rw[BK es i,h]
theorem ad3 (es:List aF) (i:Nat) : (kC es (i + 1))≠[]:=fun h=>by
 have:=BK es i
 rw[h] at this; cases this
def Ca (TS T T9:Nat) (c:aj) : Prop:=∀ {M:RM} {t:Nat} {B:Nat→Prop} {ps:List Pt} {es:List aF} {Q:ak},pY TS T B M t ps es→es.length≤50000→(∀ v M',Ow VS M' M.next T9 v (kC es es.length)→ag [] M M'→Q v M')→c [.ptr t 0] M Q
theorem Sc {TS T TN T9:Nat} : Ca TS T T9 fun args M Q=>∃ a0,args=[a0]∧uu TN T9 a0 M Q:=by
 intro M t B ps es Q hst hlen hQ
 refine⟨_,rfl, ?_⟩
 unfold uu
 simp only[j6,fB,dY,eP,bR]
 obtain⟨s0,v,r1,_,r3,_,_⟩:=hst.row
 rw[aM,aU,az (i:=0 + 1) r1 rfl,aL.len r3]
 refine aI (fun z ys M3=>∃ (i:Nat) (dv:AV),z=es.length - i∧ys=[dv,N .i64 (i:Int)]∧i≤es.length∧ag [] M M3∧Ow VS M3 M.next T9 dv (kC es i)) _
  ⟨0,bZ,rfl,rfl,Nat.zero_le _,ag.refl _ _,.nil⟩ ?_
 rintro next z ys M3 hnext ⟨i,dv,rfl,rfl,hil,k3,o3⟩
 dsimp only[aa]
 rw[ed]
 refine aG (fun hlt=>?_) (fun hge=>?_)
 ·have hlt:i<es.length:=of_decide_eq_true hlt
  have n3:=k3.next
  have hcl:=Ms es i
  refine aY (fun zs M'=>∃ dv',zs=[dv']∧ag [] M M'∧Ow VS M' M.next T9 dv' (kC es (i + 1))) ?_ ?_
  ·rintro zs M' ⟨dv',rfl,k',o'⟩
   dsimp only[aa]
   rw[add1 (by omega)]
   exact hnext _ _ _ (by omega) ⟨i + 1,dv',rfl,rfl,by omega,k',o'⟩
  intro J hJ
  rw[vN (aL.keep r3 k3 (by simp)) hlt]
  have hx:=Sm hlt
  generalize es[i]=x at *
  rw[bB,gz (n:=5) (x:=.agg (aB.cells x)) (l:=[(N .i64 0),(N .u64 0),(St []),(St []),(St [])]) (RM.aS _) rfl rfl (vo x)]
  have k4:ag [] M3 ((M3.push (.row [(N .i64 0),(N .u64 0),(St []),(St []),(St [])] false TN 0)).put M3.next (.row (AV.agg (aB.cells x)).cells false TN 0)):=((ag.refl _ _).push _).new _ (Nat.le_refl _)
  have h4:((M3.push (.row [(N .i64 0),(N .u64 0),(St []),(St []),(St [])] false TN 0)).put M3.next (.row (AV.agg (aB.cells x)).cells false TN 0)).heap M3.next=some (.row (aB.cells x) false TN 0):=aR _
  generalize (M3.push (.row [(N .i64 0),(N .u64 0),(St []),(St []),(St [])] false TN 0)).put M3.next (.row (AV.agg (aB.cells x)).cells false TN 0)=M4 at *
  generalize M3.next=b at *
  have o4:=o3.keep k4 (by simp)
  have k04:=k3.trans k4
  rw[aL.len o4.jq,bU]
  refine YE (P:=fun M'=>M'=M4) (p:=decide (nm es (i - 1)≠nm es i)) rfl (fun hc K hK=>?_) fun M5 hM5=>?_
  ·have hi0:i≠0:=fun e=>by
    subst e; simp[kC] at hc
   have hlp:0<(kC es i).length:=by
    simp only[beq_eq_false_iff_ne,ne_eq] at hc; omega
   rw[aL.len o4.jq,bu hlp (by omega)]
   obtain⟨b1,o1,_,_,hidx,hcell⟩:=Sl.Hu (E:=VS) (i:=(kC es i).length - 1) o4.jq (((kC es i).length - 1:Nat) : Int) (by omega) rfl rfl
   have hlast:(kC es i)[(kC es i).length - 1]'(by omega)=nm es (i - 1):=by
    have:=BK es (i - 1)
    rw[show i - 1 + 1=i by omega,List.getLast?_eq_getElem?,List.getElem?_eq_getElem (by omega)] at this
    exact Option.some.inj this
   rw[hidx,gL,hcell (St (nm es (i - 1))) (by rw[hlast]; rfl)]
   simp only[Option.some.injEq,exists_eq_left']
   rw[aU,az (i:=0 + 2) (x:=St x.2.1) h4 rfl,qE]
   refine hK M4 rfl |> fun h=>?_
   rw[show(nm es (i - 1) != x.2.1)=decide (nm es (i - 1)≠nm es i) by rw[hx]; by_cases h:nm es (i - 1)=x.2.1 <;> simp[h]]
   exact h
  ·subst hM5
   have hc0:((((kC es i).length:Nat) : Int) == 0)=decide (i=0):=by
    cases i with
    | zero=>simp[kC]
    | succ i =>
      have:=List.length_pos_iff.2 (ad3 es i)
      rw[decide_eq_false (by omega),beq_eq_false_iff_ne]
      omega
   rw[hc0]
   refine aG (fun hc=>?_) (fun hc=>?_)
   ·simp only[Bool.or_eq_true,decide_eq_true_eq] at hc
    rw[aU,az (i:=0 + 2) (x:=St x.2.1) h4 rfl,rP (x:=St x.2.1) (size:=1) rfl rfl rfl,bB]
    refine xz (E:=VS) (a:=x.2.1) o4 (by have:=k04.next; omega) (by decide) (by omega) (by omega) fun v2 M7 o7 k7 n7 _=>?_
    refine hJ _ _ ⟨v2,rfl,k04.dK k7 (fun d hd=>.inl (o4.blk d hd).1), ?_⟩
    rw[kC,if_pos hc,hx]
    exact o7
   ·refine hJ _ _ ⟨dv,rfl,k04, ?_⟩
    rw[kC,if_neg (by simpa using hc)]
    exact o4
 ·have he:i=es.length:=by
   have:¬ i<es.length:=of_decide_eq_false hge
   omega
  subst he
  exact hQ dv M3 o3 k3
def yj (x:aF) : Prop:=0≤x.1.1∧x.1.1<16∧x.1.2<2 ^ 64∧x.2.1.length≤600∧x.2.2.1.length≤600∧x.2.2.2.length≤600
theorem Rl (l:List aF) (x:aF) : (SL l x).Perm (x :: l):=by
 unfold SL
 refine List.perm_middle.trans ?_
 rw[List.take_append_drop]
theorem ahz {α:Type} {p:α→Bool} (l:List α) : l.take (l.takeWhile p).length=l.takeWhile p:=(List.prefix_iff_eq_take.1 (List.takeWhile_prefix p)).symm
theorem drop_tw {α:Type} {p:α→Bool} (l:List α) : l.drop (l.takeWhile p).length=l.dropWhile p:=by
 have h:=List.takeWhile_append_dropWhile (p:=p) (l:=l)
 have:l.drop (l.takeWhile p).length=(l.takeWhile p++l.dropWhile p).drop (l.takeWhile p).length:=by rw[h]
 rw[this,List.drop_left]
theorem VM {x:aF} : ∀ {l:List aF},zn l→∀ y∈l.dropWhile (fun z=>gp z x),gp y x=false
 | [],_,y,hy=>by simp at hy
 | z :: r,h,y,hy=>by
   have h:=List.pairwise_cons.1 h
   by_cases hz:gp z x=true
   ·rw[List.dropWhile_cons_of_pos (p:=fun z=>gp z x) hz] at hy
    exact VM h.2 y hy
   ·rw[List.dropWhile_cons_of_neg (p:=fun z=>gp z x) hz] at hy
    have hz:gp z x=false:=by simpa using hz
    rcases List.mem_cons.1 hy with rfl | hy
    ·exact hz
    ·exact iY.ntrans _ _ _ (h.1 y hy) hz
theorem YV {α:Type} {p:α→Bool} : ∀ {l:List α},∀ y∈l.takeWhile p,p y=true
 | [],y,hy=>by simp at hy
 | z :: r,y,hy=>by
   by_cases hz:p z=true
   ·rw[List.takeWhile_cons_of_pos hz] at hy
    rcases List.mem_cons.1 hy with rfl | hy
    ·exact hz
    ·exact YV y hy
   ·rw[List.takeWhile_cons_of_neg hz] at hy
    simp at hy
theorem ag4 {l:List aF} (h:zn l) (x:aF) : zn (SL l x):=by
 unfold SL atE zn
 have h':=h
 rw[← List.takeWhile_append_dropWhile (p:=fun y=>gp y x) (l:=l)] at h'
 unfold zn at h'
 rw[List.pairwise_append] at h'
 rw[ahz,drop_tw,List.pairwise_append]
 refine⟨h'.1,List.pairwise_cons.2 ⟨VM h,h'.2.1⟩,fun a ha b hb=>?_⟩
 rcases List.mem_cons.1 hb with rfl | hb
 ·have ha:=YV a ha
  cases hx:gp b a with
  | false=>rfl
  | true =>
    have:=iY.trans _ _ _ ha hx
    rw[iY.irrefl] at this; cases this
 ·exact h'.2.2 a ha b hb
theorem Ib {l:List Ev} {e:Ev} {i:Nat} : ∀ {n:Nat},FK l e i n=true↔e.1.2.1=1∧∀ k<n,∀ f,l[k]?=some f→e.1.1 ∉ f.2∧¬ (k<i∧f.1.1=e.1.1)
 | 0=>by simp[FK]
 | n + 1=>by
   rw[FK,Bool.and_eq_true,Ib (n:=n)]
   constructor
   ·rintro⟨⟨h1,h2⟩,h3⟩
    refine⟨h1,fun k hk f hf=>?_⟩
    rcases Nat.lt_or_ge k n with h | h
    ·exact h2 k h f hf
    ·have:k=n:=by omega
     subst this
     rw[hf] at h3
     simp only[aap,Bool.and_eq_true,Bool.not_eq_true',decide_eq_false_iff_not,Bool.and_eq_false_iff] at h3
     refine⟨h3.1,fun hh=>?_⟩
     rcases h3.2 with h4 | h4
     ·exact h4 hh.1
     ·exact h4 hh.2
   ·rintro⟨h1,h2⟩
    refine⟨⟨h1,fun k hk f hf=>h2 k (by omega) f hf⟩, ?_⟩
    cases hf:l[n]? with
    | none=>rfl
    | some f =>
      have:=h2 n (by omega) f hf
      simp only[aap,Bool.and_eq_true,Bool.not_eq_true',decide_eq_false_iff_not,Bool.and_eq_false_iff]
      refine⟨this.1, ?_⟩
      by_cases hh:n<i
      ·exact .inr fun e=>this.2 ⟨hh,e⟩
      ·exact .inl hh
theorem Ji (l:List Ev) : ∀ i,zn (wT l i)
 | 0=>.nil
 | i + 1=>by
   rw[wT]
   split
   ·split
    ·exact ag4 (Ji l i) _
    ·exact Ji l i
   ·exact Ji l i
theorem Ls {l:List Ev} {x:aF} : ∀ {i:Nat},x∈wT l i↔∃ k,∃ h:k<l.length,k<i∧FK l l[k] k l.length=true∧x=jX l[k].1
 | 0=>by simp[wT]
 | i + 1=>by
   have ih:=Ls (l:=l) (x:=x) (i:=i)
   rw[wT]
   cases hf:l[i]? with
   | none =>
     have hi:l.length≤i:=List.getElem?_eq_none_iff.1 hf
     dsimp only
     rw[ih]
     constructor
     ·rintro⟨k,h,h1,h2⟩; exact⟨k,h,by omega,h2⟩
     ·rintro⟨k,h,h1,h2⟩; exact⟨k,h,by omega,h2⟩
   | some e =>
     obtain⟨hi,he⟩:=List.getElem?_eq_some_iff.1 hf
     subst he
     dsimp only
     by_cases hl:FK l l[i] i l.length=true
     ·rw[if_pos hl,(Rl _ _).mem_iff,List.mem_cons,ih]
      constructor
      ·rintro(h | ⟨k,h,h1,h2⟩)
       ·exact⟨i,hi,by omega,hl,h⟩
       ·exact⟨k,h,by omega,h2⟩
      ·rintro⟨k,h,h1,h2,h3⟩
       rcases Nat.lt_or_ge k i with hk | hk
       ·exact .inr ⟨k,h,hk,h2,h3⟩
       ·have:k=i:=by omega
        subst this; exact .inl h3
     ·rw[if_neg hl,ih]
      constructor
      ·rintro⟨k,h,h1,h2⟩; exact⟨k,h,by omega,h2⟩
      ·rintro⟨k,h,h1,h2⟩
       rcases Nat.lt_or_ge k i with hk | hk
       ·exact⟨k,h,hk,h2⟩
       ·have:k=i:=by omega
        subst this; exact absurd h2.1 hl
theorem Ta {l:List Ev} (h1:l.Pairwise fun x y=>x.1.1≠y.1.1) : ∀ i,(wT l i).Pairwise fun x y=>x.1≠y.1
 | 0=>.nil
 | i + 1=>by
   have ih:=Ta h1 i
   rw[wT]
   cases hf:l[i]? with
   | none=>exact ih
   | some e =>
     obtain⟨hi,he⟩:=List.getElem?_eq_some_iff.1 hf
     subst he
     dsimp only
     split
     ·refine(Rl _ _).symm.pairwise (List.pairwise_cons.2 ⟨fun y hy=>?_,ih⟩) (fun {a b} hab e=>hab e.symm)
      obtain⟨k,h,hk,_,rfl⟩:=Ls.1 hy
      exact fun e=>List.pairwise_iff_getElem.1 h1 k i h hi hk e.symm
     ·exact ih
theorem ahq {l:List Ev} {s:zk} (h:Ch l s) (h1:l.Pairwise fun x y=>x.1.1≠y.1.1) : wT l l.length=s.2 :=
 aeA (Ji _ _) h.up (Ta h1 _) h.one fun x=>by
  rw[Ls,h.FZ]
  constructor
  ·rintro⟨k,hk,_,hl,rfl⟩
   obtain⟨g1,g2⟩:=Ib.1 hl
   refine⟨l[k],List.getElem_mem hk,g1,rfl,fun f hf=>?_⟩
   obtain⟨j,hj,rfl⟩:=List.getElem_of_mem hf
   exact(g2 j hj _ (List.getElem?_eq_getElem hj)).1
  ·rintro⟨e,he,g1,rfl,g3⟩
   obtain⟨k,hk,rfl⟩:=List.getElem_of_mem he
   refine⟨k,hk,hk,Ib.2 ⟨g1,fun j hj f hf=>?_⟩,rfl⟩
   obtain⟨hj',rfl⟩:=List.getElem?_eq_some_iff.1 hf
   exact⟨g3 _ (List.getElem_mem hj'),fun⟨hjk,e⟩=>List.pairwise_iff_getElem.1 h1 j k hj' hk hjk e⟩
section
variable {α:Type} {E:Enc α}
end
theorem WS {e:oK} {ks:List aD} (h:dO e ks=true) : yj (jX e):=by
 have h0:=h
 simp only[dO,Bool.and_eq_true,names,decide_eq_true_eq] at h
 obtain⟨⟨⟨⟨h1,⟨⟨h2,h3⟩,h4⟩,h5⟩,_⟩,_⟩,_⟩:=h
 have hd:=J9 h1
 refine⟨hd.1,hd.2.1,by show e.1.2<_; omega, ?_, ?_, ?_⟩ <;> (simp only[jX]; omega)
structure TH (l:List Ev) (ps:List Pt) (es:List aF) : Prop where
 ch:Ch l (ps,es)
 one:l.Pairwise fun x y=>x.1.1≠y.1.1
 good:∀ e∈l,dO e.1 e.2=true
 len:l.length≤60
section
variable {l:List Ev} {ps:List Pt} {es:List aF}
theorem TH.FZ (h:TH l ps es) : wT l l.length=es:=ahq h.ch h.one
theorem TH.few (h:TH l ps es) : es.length≤60:=Nat.le_trans (h.ch.len (m:=l) fun e he=>he) h.len
theorem TH.ok (h:TH l ps es) : ∀ x∈es,yj x:=fun x hx=>by
 obtain⟨e,he,_,rfl,_⟩:=(h.ch.FZ x).1 hx
 exact WS (h.good e he)
end
end Go.Ab.Crw
namespace Go.Ab.Crw.Viw
open Go Go.Ab Go.Ab.aD Go.Ab.Crw
theorem Jn {α:Type} {P:List α→Prop} (h0:P []) (h1:∀ l x,P l→P (l++[x])) : ∀ l,P l:=fun l=>by
 rw[← List.reverse_reverse l]
 induction l.reverse with
 | nil=>exact h0
 | cons x r ih=>rw[List.reverse_cons]; exact h1 _ _ ih
theorem vw {α:Type} {l:List α} {z:α} (h:l.getLast?=some z) : ∃ i,l=i++[z]:=List.getLast?_eq_some_iff.1 h
def uZ (es:List aF) : Prop:=es.Pairwise fun x y=>gp x y=true
theorem ajV {es:List aF} (h:zn es) (h1:es.Pairwise fun x y=>x.1≠y.1) : uZ es:=by
 refine(List.pairwise_and_iff.2 ⟨h,h1⟩).imp fun {x y} ⟨a,b⟩=>?_
 cases hc:gp x y with
 | true=>rfl
 | false =>
   have:=Y6 hc a
   simp only[keq,decide_eq_true_eq] at this
   exact absurd this.2.2 b
def fC (x y:aF) : Bool:=decide (x.2.1=y.2.1) && decide (x.2.2.1=y.2.2.1)
theorem yo {x y:aF} : fC x y=true↔x.2.1=y.2.1∧x.2.2.1=y.2.2.1:=by simp[fC]
theorem Od (x:aF) : fC x x=true:=yo.2 ⟨rfl,rfl⟩
theorem aaR (x y:aF) : fC x y=fC y x:=by simp only[fC,eq_comm]
theorem BD {x y:aF} (h:fC x y=true) : fC x=fC y:=by
 obtain⟨a,b⟩:=yo.1 h
 funext z; simp only[fC,a,b]
theorem Bw {x y:aF} (h:gp x y=true) : x.2.1<y.2.1∨(x.2.1=y.2.1∧(x.2.2.1<y.2.2.1∨(x.2.2.1=y.2.2.1∧qz x.1 y.1=true))):=by
 by_cases h1:x.2.1=y.2.1
 ·by_cases h2:x.2.2.1=y.2.2.1
  ·rw[agx h1 h2] at h; exact .inr ⟨h1,.inr ⟨h2,h⟩⟩
  ·rw[af3 h1 h2,decide_eq_true_eq] at h; exact .inr ⟨h1,.inl h⟩
 ·rw[agp h1,decide_eq_true_eq] at h; exact .inl h
theorem ahJ {y z x:aF} (h:y=z∨gp y z=true) (h2:gp z x=true) (h3:fC y x=true) : fC z x=true:=by
 rcases h with rfl | h
 ·exact h3
 ·obtain⟨a,b⟩:=yo.1 h3
  have h4:=Bw h
  have h5:=Bw h2
  rcases h4 with h4 | ⟨h4,h6⟩
  ·rw[a] at h4
   rcases h5 with h5 | ⟨h5,_⟩
   ·exact absurd (List.lt_trans h4 h5) (List.lt_irrefl _)
   ·rw[h5] at h4; exact absurd h4 (List.lt_irrefl _)
  ·have hc:z.2.1=x.2.1:=h4.symm.trans a
   rcases h5 with h5 | ⟨_,h7⟩
   ·rw[hc] at h5; exact absurd h5 (List.lt_irrefl _)
   ·rcases h6 with h6 | ⟨h6,_⟩
    ·rw[b] at h6
     rcases h7 with h7 | ⟨h7,_⟩
     ·exact absurd (List.lt_trans h6 h7) (List.lt_irrefl _)
     ·rw[h7] at h6; exact absurd h6 (List.lt_irrefl _)
    ·exact yo.2 ⟨hc,h6.symm.trans b⟩
def mJ (es:List aF) (x:aF) : Bool:=match es.getLast? with
 | none=>true
 | some y=>!fC y x
def Ig (acc:List (List aF)) (n:Bool) (x:aF) : List (List aF):=if n then acc++[[x]] else acc.dropLast++[acc.getLast?.getD []++[x]]
def U2 (p:List aF × List (List aF)) (x:aF) : List aF × List (List aF):=(p.1++[x],Ig p.2 (mJ p.1 x) x)
def bY (es:List aF) : List (List aF):=(es.foldl U2 ([],[])).2
theorem VL:∀ (es:List aF) (p:List aF × List (List aF)),(es.foldl U2 p).1=p.1++es
 | [],p=>by simp
 | x :: es,p=>by rw[List.foldl_cons,VL es]; simp[U2]
theorem KO:bY []=[]:=rfl
theorem yG (es:List aF) (x:aF) : bY (es++[x])=Ig (bY es) (mJ es x) x:=by
 rw[bY,List.foldl_append,List.foldl_cons,List.foldl_nil,U2,VL]; rfl
structure GI (es:List aF) : Prop where
 ne:∀ g∈bY es,g≠[]
 flat:(bY es).flatten=es
 all:∀ g∈bY es,∀ x∈g,g=es.filter (fC x)
theorem aer {l:List aF} {x:aF} (hs:uZ (l++[x])) (hn:mJ l x=true) : ∀ y∈l,fC y x=false:=by
 obtain⟨hl,_,hx⟩:=List.pairwise_append.1 hs
 intro y hy
 cases hz:l.getLast? with
 | none=>rw[List.getLast?_eq_none_iff] at hz; rw[hz] at hy; cases hy
 | some z =>
   rw[mJ,hz] at hn
   have hn:fC z x=false:=by simpa using hn
   cases h:fC y x with
   | false=>rfl
   | true =>
     obtain⟨i,rfl⟩:=vw hz
     have hyz:y=z∨gp y z=true:=by
      rcases List.mem_append.1 hy with hy | hy
      ·exact .inr ((List.pairwise_append.1 hl).2.2 y hy z (by simp))
      ·exact .inl (by simpa using hy)
     rw[ahJ hyz (hx z (by simp) x (by simp)) h] at hn
     cases hn
theorem WA {es:List aF} (h:GI es) {z:aF} (hz:es.getLast?=some z) : ∃ i g,bY es=i++[g]∧z∈g:=by
 cases hg:(bY es).getLast? with
 | none =>
   rw[List.getLast?_eq_none_iff] at hg
   have:=h.flat
   rw[hg] at this
   rw[← this] at hz; cases hz
 | some g =>
   obtain⟨i,e⟩:=vw hg
   refine⟨i,g,e, ?_⟩
   have hne:=h.ne g (by rw[e]; simp)
   have hf:=h.flat
   rw[e,List.flatten_append] at hf
   have:es.getLast?=g.getLast?:=by
    rw[← hf]
    simp only[List.flatten_cons,List.flatten_nil,List.append_nil]
    rw[List.getLast?_append]
    cases hgl:g.getLast? with
    | none=>rw[List.getLast?_eq_none_iff] at hgl; exact absurd hgl hne
    | some w=>rfl
   rw[hz] at this
   exact List.mem_of_getLast? this.symm
theorem yO:∀ (es:List aF),uZ es→GI es:=by
 refine Jn (fun _=>⟨by simp[KO],rfl,by simp[KO]⟩) fun l x ih hs=>?_
 obtain⟨hl,_,hx⟩:=List.pairwise_append.1 hs
 have h:=ih hl
 have hsub:∀ g∈bY l,∀ y∈g,y∈l:=fun g hg y hy=>by
  rw[← h.flat]; exact List.mem_flatten.2 ⟨g,hg,hy⟩
 cases hn:mJ l x with
 | true =>
   have hno:=aer hs hn
   have e:bY (l++[x])=bY l++[[x]]:=by rw[yG,hn]; rfl
   refine⟨?_, ?_, ?_⟩
   ·intro g hg
    rw[e] at hg
    rcases List.mem_append.1 hg with hg | hg
    ·exact h.ne g hg
    ·simp at hg; subst hg; simp
   ·rw[e,List.flatten_append,h.flat]; simp
   ·intro g hg y hy
    rw[e] at hg
    rw[List.filter_append]
    rcases List.mem_append.1 hg with hg | hg
    ·rw[← h.all g hg y hy]
     simp[hno y (hsub g hg y hy)]
    ·simp at hg; subst hg
     simp at hy; subst hy
     have:l.filter (fC y)=[]:=List.filter_eq_nil_iff.2 fun z hz=>by rw[aaR,hno z hz]; simp
     rw[this]; simp[Od]
 | false =>
   cases hz:l.getLast? with
   | none=>rw[mJ,hz] at hn; cases hn
   | some z =>
     have hzx:fC z x=true:=by rw[mJ,hz] at hn; simpa using hn
     obtain⟨i,g,e,hzg⟩:=WA h hz
     have hgl:=h.all g (by rw[e]; simp) z hzg
     have e2:bY (l++[x])=i++[g++[x]]:=by
      rw[yG,hn,e]
      simp[Ig]
     refine⟨?_, ?_, ?_⟩
     ·intro k hk
      rw[e2] at hk
      rcases List.mem_append.1 hk with hk | hk
      ·exact h.ne k (by rw[e]; exact List.mem_append_left _ hk)
      ·simp at hk; subst hk; simp
     ·have hf:=h.flat
      rw[e,List.flatten_append] at hf
      rw[e2,List.flatten_append]
      conv=>rhs; rw[← hf]
      simp
     ·intro k hk y hy
      rw[e2] at hk
      rw[List.filter_append]
      rcases List.mem_append.1 hk with hk | hk
      ·have hkl:k∈bY l:=by rw[e]; exact List.mem_append_left _ hk
       have hka:=h.all k hkl y hy
       have hyx:fC y x=false:=by
        cases hc:fC y x with
        | false=>rfl
        | true =>
          exfalso
          have hyz:fC y=fC z:=by rw[BD hc,← BD hzx]
          have hf:=h.flat
          rw[e,List.flatten_append] at hf
          have hkg:k=g:=by rw[hka,hgl,hyz]
          have hlen:(l.filter (fC z)).length=g.length:=by rw[← hgl]
          rw[← hf,List.filter_append,List.length_append] at hlen
          have hgg:([g].flatten.filter (fC z)).length=g.length:=by
           simp only[List.flatten_cons,List.flatten_nil,List.append_nil]
           rw[hgl,List.filter_filter]; simp
          have hy2:y∈i.flatten.filter (fC z):=List.mem_filter.2 ⟨List.mem_flatten.2 ⟨k,hk,hy⟩,by rw[← hyz]; exact Od y⟩
          have:=List.length_pos_of_mem hy2
          omega
       rw[← hka]; simp[hyx]
      ·simp at hk; subst hk
       have hyz:fC y=fC z:=by
        rcases List.mem_append.1 hy with hy | hy
        ·rw[hgl] at hy
         exact(BD (List.mem_filter.1 hy).2).symm
        ·simp at hy; subst hy; exact(BD hzx).symm
       rw[hyz,← hgl]; simp[hzx]
def mo (b:aF) : List aF→aF
 | []=>b
 | x :: xs=>mo (if qz b.1 x.1 then x else b) xs
def rD:List aF→aF × Bool
 | []=>(((0,0),([],[],[])),false)
 | x :: xs=>(mo x (x :: xs),true)
theorem NC (b:aF) : ∀ (xs ys:List aF),mo b (xs++ys)=mo (mo b xs) ys
 | [],ys=>rfl
 | x :: xs,ys=>by simp only[List.cons_append,mo]; exact NC _ xs ys
theorem Rj:∀ (xs:List aF) (b:aF),mo b xs=b∨mo b xs∈xs
 | [],b=>.inl rfl
 | x :: xs,b=>by
   rw[mo]
   rcases Rj xs (if qz b.1 x.1 then x else b) with h | h
   ·rw[h]
    split
    ·exact .inr (by simp)
    ·exact .inl rfl
   ·exact .inr (List.mem_cons_of_mem _ h)
theorem TJ {g:List aF} (h:g≠[]) : (rD g).1∈g:=by
 cases g with
 | nil=>exact absurd rfl h
 | cons a r =>
   show mo a (a :: r)∈_
   rcases Rj (a :: r) a with h | h
   ·rw[h]; simp
   ·exact h
def Zq (acc:List (List UInt8)) (x:aF) : List (List UInt8):=if x.2.2.2∈acc then acc else acc++[x.2.2.2]
def mZ (g:List aF) : List (List UInt8):=g.foldl Zq []
theorem NM (g:List aF) (x:aF) : mZ (g++[x])=Zq (mZ g) x:=by rw[mZ,List.foldl_append]; rfl
theorem ab4 (v:List UInt8) : ∀ g:List aF,v∈mZ g↔∃ x∈g,x.2.2.2=v:=by
 refine Jn (by simp[mZ]) fun g x ih=>?_
 rw[NM,Zq]
 split
 ·rename_i h
  rw[ih]
  constructor
  ·rintro⟨y,hy,rfl⟩; exact⟨y,List.mem_append_left _ hy,rfl⟩
  ·rintro⟨y,hy,rfl⟩
   rcases List.mem_append.1 hy with hy | hy
   ·exact⟨y,hy,rfl⟩
   ·simp at hy; subst hy; exact ih.1 h
 ·rw[List.mem_append,ih,List.mem_singleton]
  constructor
  ·rintro(⟨y,hy,rfl⟩ | rfl)
   ·exact⟨y,List.mem_append_left _ hy,rfl⟩
   ·exact⟨x,by simp,rfl⟩
  ·rintro⟨y,hy,rfl⟩
   rcases List.mem_append.1 hy with hy | hy
   ·exact .inl ⟨y,hy,rfl⟩
   ·simp at hy; subst hy; exact .inr rfl
abbrev JB:=List UInt8 × (List UInt8 × Nat)
def shown (g:List aF) : JB:=((rD g).1.2.2.1,((rD g).1.2.2.2,(mZ g).length))
def lD (es:List aF) (c:List UInt8) : List aF:=es.filter fun x=>x.2.1 == c
def bO (es:List aF) (c:List UInt8) : List JB:=(bY (lD es c)).map shown
theorem xO (es:List aF) (c:List UInt8) (x:aF) : lD (es++[x]) c=if x.2.1=c then lD es c++[x] else lD es c:=by
 rw[lD,List.filter_append]
 by_cases h:x.2.1=c
 ·rw[if_pos h]; simp[lD,h]
 ·rw[if_neg h]; simp[lD,h]
theorem Ng {es:List aF} (h:uZ es) (c:List UInt8) : uZ (lD es c):=h.filter _
theorem aaV (x:aF) : gp x x=false:=iY.irrefl x
theorem aet {es:List aF} (hs:uZ es) : (bY es).Pairwise fun g h=>∀ x∈g,∀ y∈h,gp x y=true∧fC x y=false:=by
 have hg:=yO es hs
 have hp:uZ (bY es).flatten:=by rw[hg.flat]; exact hs
 have h2:=(List.pairwise_flatten.1 hp).2
 refine List.Pairwise.imp_of_mem (fun {g h} hgm hhm hlt x hx y hy=>⟨hlt x hx y hy, ?_⟩) h2
 cases hc:fC x y with
 | false=>rfl
 | true =>
   have hyg:y∈g:=by
    rw[hg.all g hgm x hx]
    refine List.mem_filter.2 ⟨?_,hc⟩
    rw[← hg.flat]; exact List.mem_flatten.2 ⟨h,hhm,hy⟩
   have:=hlt y hyg y hy
   rw[aaV] at this; cases this
theorem YW {es:List aF} (hs:uZ es) {g:List aF} (hg:g∈bY es) {x:aF} (hx:x∈g) : x∈es:=by
 rw[← (yO es hs).flat]; exact List.mem_flatten.2 ⟨g,hg,hx⟩
theorem QM {es:List aF} {c:List UInt8} {x:aF} : x∈lD es c↔x∈es∧x.2.1=c:=by rw[lD,List.mem_filter]; simp
theorem aeR {es:List aF} (hs:uZ es) (c:List UInt8) : (bO es c).Pairwise fun p q=>p.1<q.1:=by
 have hf:=Ng hs c
 have hg:=yO _ hf
 rw[bO,List.pairwise_map]
 refine List.Pairwise.imp_of_mem (fun {g h} hgm hhm hlt=>?_) (aet hf)
 have hx:=TJ (hg.ne g hgm)
 have hy:=TJ (hg.ne h hhm)
 obtain⟨h1,h2⟩:=hlt _ hx _ hy
 have hc:(rD g).1.2.1=(rD h).1.2.1:=(QM.1 (YW hf hgm hx)).2.trans (QM.1 (YW hf hhm hy)).2.symm
 show(rD g).1.2.2.1<(rD h).1.2.2.1
 rcases Bw h1 with h3 | ⟨_,h3 | ⟨h3,_⟩⟩
 ·rw[hc] at h3; exact absurd h3 (List.lt_irrefl _)
 ·exact h3
 ·rw[yo.2 ⟨hc,h3⟩] at h2; cases h2
def Wz:List UInt8:=[102,110]
def lastT (c:List UInt8) (fs:List JB) : List UInt8:=fs.foldl (fun t f=>if f.1=Wz then f.2.1 else t) c
def Md (acc:List (List UInt8)) (x:aF) : List (List UInt8):=if acc.getLast?=some x.2.1 then acc else acc++[x.2.1]
def kQ (es:List aF) : List (List UInt8):=es.foldl Md []
theorem A9 (es:List aF) (x:aF) : kQ (es++[x])=Md (kQ es) x:=by rw[kQ,List.foldl_append]; rfl
theorem Zc (es:List aF) : ∀ {i:Nat},i≤es.length→kC es i=kQ (es.take i)
 | 0,_=>by simp[kC,kQ]
 | i + 1,h=>by
   have ih:=Zc es (i:=i) (by omega)
   rw[List.take_succ_eq_append_getElem (by omega),A9,← ih,kC,Md,← Sm (es:=es) (i:=i) (by omega)]
   cases i with
   | zero=>simp[kC]
   | succ j =>
     rw[BK]
     simp only[Nat.succ_ne_zero,false_or,Nat.add_sub_cancel,Option.some.injEq]
     by_cases hh:nm es j=nm es (j + 1) <;> simp[hh]
theorem Ka (es:List aF) : kC es es.length=kQ es:=by rw[Zc es (Nat.le_refl _),List.take_length]
theorem Lh (es:List aF) (x:aF) : (kQ (es++[x])).getLast?=some x.2.1:=by
 rw[A9,Md]
 split
 ·assumption
 ·simp
theorem Du (c:List UInt8) : ∀ es:List aF,c∈kQ es↔∃ x∈es,x.2.1=c:=by
 refine Jn (by simp[kQ]) fun es x ih=>?_
 rw[A9,Md]
 split
 ·rename_i h
  rw[ih]
  constructor
  ·rintro⟨y,hy,rfl⟩; exact⟨y,List.mem_append_left _ hy,rfl⟩
  ·rintro⟨y,hy,rfl⟩
   rcases List.mem_append.1 hy with hy | hy
   ·exact⟨y,hy,rfl⟩
   ·simp at hy; subst hy; exact ih.1 (List.mem_of_getLast? h)
 ·rw[List.mem_append,ih,List.mem_singleton]
  constructor
  ·rintro(⟨y,hy,rfl⟩ | rfl)
   ·exact⟨y,List.mem_append_left _ hy,rfl⟩
   ·exact⟨x,by simp,rfl⟩
  ·rintro⟨y,hy,rfl⟩
   rcases List.mem_append.1 hy with hy | hy
   ·exact .inl ⟨y,hy,rfl⟩
   ·simp at hy; subst hy; exact .inr rfl
theorem akw:∀ es:List aF,uZ es→(kQ es).Pairwise fun a b=>a<b:=by
 refine Jn (fun _=>.nil) fun es x ih hs=>?_
 obtain⟨hl,_,hx⟩:=List.pairwise_append.1 hs
 rw[A9,Md]
 split
 ·exact ih hl
 ·rename_i hne
  refine List.pairwise_append.2 ⟨ih hl,List.pairwise_singleton _ _,fun a ha b hb=>?_⟩
  simp at hb; subst hb
  obtain⟨y,hy,rfl⟩:=(Du a es).1 ha
  cases hz:es.getLast? with
  | none=>rw[List.getLast?_eq_none_iff] at hz; rw[hz] at hy; cases hy
  | some z =>
    obtain⟨i,rfl⟩:=vw hz
    rw[Lh] at hne
    have hzx:=Bw (hx z (by simp) x (by simp))
    have hlt:z.2.1<x.2.1:=by
     rcases hzx with h | ⟨h,_⟩
     ·exact h
     ·exact absurd (by rw[h]) hne
    rcases List.mem_append.1 hy with hy | hy
    ·rcases Bw ((List.pairwise_append.1 hl).2.2 y hy z (by simp)) with h | ⟨h,_⟩
     ·exact List.lt_trans h hlt
     ·rw[h]; exact hlt
    ·simp at hy; subst hy; exact hlt
theorem YX (es:List aF) : (kQ es).length≤es.length:=by
 rw[← Ka]; exact Ms es _
theorem ab1 {es:List aF} (hs:uZ es) {c:List UInt8} (h:c∈kQ es) : bO es c≠[]:=by
 obtain⟨x,hx,hc⟩:=(Du c es).1 h
 intro he
 rw[bO,List.map_eq_nil_iff] at he
 have hf:=(yO _ (Ng hs c)).flat
 rw[he] at hf
 have:x∈lD es c:=QM.2 ⟨hx,hc⟩
 rw[← hf] at this; cases this
def conf (es:List aF) : List aF:=((bY es).filter fun g=>decide (1<g.length)).flatten
theorem aev {es:List aF} (hs:uZ es) : (conf es).length≤es.length∧es.length≤(conf es).length + (bY es).length∧(bY es).length≤es.length:=by
 have hg:=yO es hs
 have h1:∀ L:List (List aF),(∀ g∈L,g≠[])→((L.filter fun g=>decide (1<g.length)).flatten).length≤L.flatten.length∧L.flatten.length≤((L.filter fun g=>decide (1<g.length)).flatten).length + L.length∧L.length≤L.flatten.length:=by
  intro L
  induction L with
  | nil=>intro _; simp
  | cons g L ih =>
    intro h
    obtain⟨a,b,c⟩:=ih fun k hk=>h k (List.mem_cons_of_mem _ hk)
    have hp:=List.length_pos_iff.2 (h g (by simp))
    by_cases h2:1<g.length
    ·rw[List.filter_cons_of_pos (by simpa using h2)]
     simp only[List.flatten_cons,List.length_append,List.length_cons]
     omega
    ·rw[List.filter_cons_of_neg (by simpa using h2)]
     simp only[List.flatten_cons,List.length_append,List.length_cons]
     omega
 have:=h1 _ hg.ne
 rw[hg.flat] at this
 exact this
theorem ah6:∀ es:List aF,uZ es→((kQ es).map fun c=>(bY (lD es c)).length).sum=(bY es).length:=by
 refine Jn (fun _=>rfl) fun es x ih hs=>?_
 obtain⟨hl,_,hx⟩:=List.pairwise_append.1 hs
 have h:=ih hl
 have hup:=akw es hl
 have hgl:∀ (l:List aF),uZ (l++[x])→(bY (l++[x])).length=(bY l).length + if mJ l x then 1 else 0:=fun l hl'=>by
  rw[yG,Ig]
  cases hn:mJ l x with
  | true=>simp
  | false =>
    cases hz:l.getLast? with
    | none=>rw[mJ,hz] at hn; cases hn
    | some z =>
      obtain⟨i,g,e,_⟩:=WA (yO l (List.pairwise_append.1 hl').1) hz
      rw[e]; simp
 rw[hgl es hs,A9,Md]
 split
 ·rename_i he
  obtain⟨i,e⟩:=vw he
  have hne:∀ c∈i,x.2.1≠c:=fun c hc hh=>by
   rw[e] at hup
   have:=(List.pairwise_append.1 hup).2.2 c hc x.2.1 (by simp)
   rw[hh] at this; exact List.lt_irrefl _ this
  rw[e] at h ⊢
  rw[List.map_append,List.sum_append] at h ⊢
  have h1:(i.map fun c=>(bY (lD (es++[x]) c)).length)=i.map fun c=>(bY (lD es c)).length:=List.map_congr_left fun c hc=>by
   rw[xO,if_neg (hne c hc)]
  rw[h1]
  simp only[List.map_cons,List.map_nil,List.sum_cons,List.sum_nil,Nat.add_zero] at h ⊢
  have hst:uZ (lD es x.2.1++[x]):=by
   have:=Ng hs x.2.1
   rw[xO,if_pos rfl] at this; exact this
  rw[xO,if_pos rfl,hgl _ hst]
  have hnn:mJ (lD es x.2.1) x=mJ es x:=by
   cases hz:es.getLast? with
   | none=>rw[List.getLast?_eq_none_iff] at hz; subst hz; cases he
   | some z =>
     obtain⟨j,rfl⟩:=vw hz
     rw[Lh] at he
     have hzc:z.2.1=x.2.1:=Option.some.inj he
     rw[xO,if_pos hzc]; simp only[mJ,List.getLast?_concat]
  rw[hnn]; omega
 ·rename_i he
  have hno:x.2.1 ∉ kQ es:=fun hm=>by
   obtain⟨y,hy,hc⟩:=(Du _ es).1 hm
   cases hz:es.getLast? with
   | none=>rw[List.getLast?_eq_none_iff] at hz; rw[hz] at hy; cases hy
   | some z =>
     obtain⟨i,rfl⟩:=vw hz
     rw[Lh] at he
     have hzx:z.2.1<x.2.1:=by
      rcases Bw (hx z (by simp) x (by simp)) with h | ⟨h,_⟩
      ·exact h
      ·exact absurd (by rw[h]) he
     rcases List.mem_append.1 hy with hy | hy
     ·rcases Bw ((List.pairwise_append.1 hl).2.2 y hy z (by simp)) with h | ⟨h,_⟩
      ·exact List.lt_irrefl _ (hc▸List.lt_trans h hzx)
      ·rw[← h,hc] at hzx; exact List.lt_irrefl _ hzx
     ·simp at hy; subst hy; rw[hc] at hzx; exact List.lt_irrefl _ hzx
  rw[List.map_append,List.sum_append]
  have h1:((kQ es).map fun c=>(bY (lD (es++[x]) c)).length)=(kQ es).map fun c=>(bY (lD es c)).length:=List.map_congr_left fun c hc=>by
   rw[xO,if_neg fun hh:x.2.1=c=>hno (hh▸hc)]
  rw[h1,h]
  have hof:lD es x.2.1=[]:=List.filter_eq_nil_iff.2 fun y hy hh=>hno ((Du _ es).2 ⟨y,hy,by simpa using hh⟩)
  have hnew:mJ es x=true:=by
   cases hz:es.getLast? with
   | none=>rw[mJ,hz]
   | some z =>
     rw[mJ,hz]
     obtain⟨i,rfl⟩:=vw hz
     have:z.2.1≠x.2.1:=fun hh=>hno ((Du _ _).2 ⟨z,by simp,hh⟩)
     simp[fC,this]
  rw[hnew]
  simp[xO,hof,bY,U2,Ig,mJ]
end Go.Ab.Crw.Viw
namespace Go.Ab.Crw.Viw
open Go Go.Ab Go.Ab.aD Go.Ab.Vw
abbrev GR:sJ (List aF):=sJ.slice aB.Cq
structure mI (TN TS n0:Nat) (M:RM) (v:AV) (init:List (List aF)) (g:List aF) : Prop where
 ex:∃ (fs:List AV) (w:AV) (S:Nat→Prop),Own M n0 TS 1 v (fs++[w]) (init.length + 1)∧ek GR M S fs init∧Ow aB M n0 TN w g ∧
  (∀ b∈aH w,¬ S b)∧(∀ b∈aH v,¬ S b)∧(∀ b∈aH v,b ∉ aH w)∧(∀ b,S b→n0≤b∧b<M.next)
section
variable {TN TS n0:Nat} {M M' : RM} {v:AV} {init:List (List aF)} {g:List aF}
theorem mI.keep (h:mI TN TS n0 M v init g) (hk:ag [] M M') : mI TN TS n0 M' v init g:=by
 obtain⟨fs,w,S,h1,h2,h3,h4,h5,h6,h7⟩:=h.ex
 exact⟨fs,w,S,h1.keep hk (by simp),h2.keep hk (by simp),h3.keep hk (by simp),h4,h5,h6,fun b hb=>⟨(h7 b hb).1,Nat.lt_of_lt_of_le (h7 b hb).2 hk.next⟩⟩
theorem mI.slD (h:mI TN TS n0 M v init g) : iy GR M v (init++[g]) (fun b=>n0≤b∧b<M.next):=by
 obtain⟨fs,w,S,h1,h2,h3,h4,h5,h6,h7⟩:=h.ex
 refine⟨fs++[w], ?_,h1.blk,(h2.mono h7).append (ek.single ⟨w,rfl,iy.aaZ h3.jq h3.blk⟩)⟩
 have:=h1.jq
 rw[List.length_append,List.length_singleton]; exact this
theorem mI.len (h:mI TN TS n0 M v init g) {K:AV→Prop} : bL v K=K (N .i64 ((init.length + 1:Nat) : Int)):=by
 obtain⟨fs,w,S,h1,_⟩:=h.ex
 exact h1.jq.len
theorem mI.blk (h:mI TN TS n0 M v init g) : ∀ b∈aH v,n0≤b∧b<M.next:=by
 obtain⟨fs,w,S,h1,_⟩:=h.ex
 exact h1.blk
theorem mI.more (h:mI TN TS n0 M v init g) (hn:n0≤M.next) (hl:init.length≤50000) {K:ak}
  (hK:∀ v' M',mI TN TS n0 M' v' (init++[g]) []→ag (aH v) M M'→K v' M') :
  appW TS 1 24 [bZ] false v (.slc M.next 0 1 (.ex 1)) (M.push (.row [bZ] false TS 0)) K:=by
 obtain⟨fs,w,S,h1,h2,h3,h4,h5,h6,h7⟩:=h.ex
 have hk:ag [] M (M.push (.row [bZ] false TS 0)):=(ag.refl _ _).push _
 have hnl:oW (M.push (.row [bZ] false TS 0)) 1 [bZ] false (.slc M.next 0 1 (.ex 1))=some (1,[bZ]):=by
  simp only[oW,Nat.one_mul]
  rw[RM.dw (RM.aS _) (by simp)]; rfl
 refine z8 (h1.keep hk (by simp)) (Nat.le_trans hn hk.next) (by decide) hnl rfl rfl (by omega) (by omega) fun v' M' q1 q2 q3 q4=>?_
 have kk:ag (aH v) M M':=(hk.mono (by simp)).trans q2
 have hvb:=h1.blk
 have hwb:=h3.blk
 have hnew:∀ b∈aH v',b∈aH v∨M.next≤b:=fun b hb=>by
  rcases q4 with rfl | q4
  ·exact .inl hb
  ·exact .inr (Nat.le_trans hk.next (q4 b hb))
 refine hK v' M' ⟨fs++[w],bZ,fun b=>S b∨b∈aH w, ?_, ?_,.nil,by simp[aH], ?_,by simp[aH], ?_⟩ kk
 ·rw[List.length_append,List.length_singleton]; exact q1
 ·refine((h2.mono fun b hb=>Or.inl hb).keep kk fun b hb hs=>?_).append (ek.single ⟨w,rfl,iy.aaZ (aL.keep h3.jq kk fun b hb hv=>h6 b hv hb) fun b hb=>.inr hb⟩)
  rcases hs with hs | hs
  ·exact h5 b hb hs
  ·exact h6 b hb hs
 ·rintro b hb (hs | hs)
  ·rcases hnew b hb with h | h
   ·exact h5 b h hs
   ·have:=(h7 b hs).2; omega
  ·rcases hnew b hb with h | h
   ·exact h6 b h hs
   ·have:=(hwb b hs).2; omega
 ·rintro b (hs | hs)
  ·exact⟨(h7 b hs).1,Nat.lt_of_lt_of_le (h7 b hs).2 (Nat.le_trans hk.next q3)⟩
  ·exact⟨(hwb b hs).1,Nat.lt_of_lt_of_le (hwb b hs).2 (Nat.le_trans hk.next q3)⟩
theorem mI.start (hn:n0≤M.next) {K:ak} (hK:∀ v' M',mI TN TS n0 M' v' [] []→ag [] M M'→K v' M') :
  appW TS 1 24 [bZ] false bZ (.slc M.next 0 1 (.ex 1)) (M.push (.row [bZ] false TS 0)) K:=by
 have hk:ag [] M (M.push (.row [bZ] false TS 0)):=(ag.refl _ _).push _
 have hnl:oW (M.push (.row [bZ] false TS 0)) 1 [bZ] false (.slc M.next 0 1 (.ex 1))=some (1,[bZ]):=by
  simp only[oW,Nat.one_mul]
  rw[RM.dw (RM.aS _) (by simp)]; rfl
 refine z8 (base:=n0) (cs:=[]) (n:=0) .nil (Nat.le_trans hn hk.next) (by decide) hnl rfl rfl (by omega) (by omega) fun v' M' q1 q2 q3 q4=>?_
 refine hK v' M' ⟨[],bZ,fun _=>False,q1,.nil,.nil,by simp,by simp,by simp[aH],by simp⟩ (hk.trans (q2.mono (by simp[aH])))
theorem mI.put (h:mI TN TS n0 M v init g) (hn:n0≤M.next) (hl:init.length≤50000) (hg:g.length≤50000) {x:aF} {K:RM→Prop}
  (hK:∀ M',mI TN TS n0 M' v init (g++[x])→qd n0 [] M M'→K M') :
  ∃ b w,M.heap b≠none∧(∀ K:AV→Prop,ai v (N .i64 ((init.length:Nat) : Int)) 1 K=K (.ptr b init.length))∧(∀ K:AV→Prop,au M (.ptr b init.length) K=K w) ∧
    appW TN 5 64 [(N .i64 0),(N .u64 0),(St []),(St []),(St [])] false w (.slc M.next 0 1 (.ex 1)) (M.push (.row (aB.cells x) false TN 0)) fun w' M1=>aC M1 (.ptr b init.length) w' 1 K:=by
 obtain⟨fs,w,S,h1,h2,h3,h4,h5,h6,h7⟩:=h.ex
 obtain⟨b,rfl,hb1,hb2,hb3,hb4⟩:=Own.yJ h1 (by omega)
 have hfl:fs.length=init.length:=by
  simp only[List.length_append,List.length_singleton] at hb4; omega
 refine⟨b,w,by rw[hb3]; simp,fun K=>?_,fun K=>?_, ?_⟩
 ·rw[pW]
  simp only[Int.toNat_natCast]
  rw[show 0 + init.length * 1=init.length by omega]
  exact propext ⟨fun h=>h.2.2,fun h=>⟨by omega,by omega,h⟩⟩
 ·exact az hb3 (by rw[← hfl,List.getElem?_append_right (Nat.le_refl _)]; simp)
 ·refine xz (E:=aB) (a:=x) h3 hn (by decide) (by omega) (by omega) fun w' M1 o1 k1 n1 q1=>?_
  have hbw:b ∉ aH w:=h6 b (by simp[aH])
  have hwb:=h3.blk
  have aiu:b ∉ aH w':=by
   rcases q1 with rfl | q1
   ·exact hbw
   ·exact fun hm=>by have:=q1 b hm; omega
  have hh:=k1.aP hb3 hb2 hbw
  rw[yS (fs++[w']) hh (by simp; omega) o1.cells o1.one (by rw[← hfl,List.set_append_right _ _ (Nat.le_refl _)]; simp)]
  have kp:ag [b] M1 (M1.put b (.row (fs++[w']) true TS 0)):=(ag.refl _ _).put _ (.inr (by simp))
  have n2:(M1.put b (.row (fs++[w']) true TS 0)).next=M1.next:=rfl
  have hbS:¬ S b:=h5 b (by simp[aH])
  refine hK _ ⟨fs,w',S,.op _ _ _ hb1 (by rw[n2]; omega) (aR _) (by simp; omega),(h2.keep k1 fun c hc hs=>h4 c hc hs).keep kp (by simpa using hbS),o1.keep kp (fun c hc hm=>aiu (by simp at hm; subst hm; exact hc)), ?_,h5, ?_, ?_⟩ ?_
  ·intro c hc hs
   rcases q1 with rfl | q1
   ·exact h4 c hc hs
   ·have:=q1 c hc; have:=(h7 c hs).2; omega
  ·intro c hc
   simp[aH] at hc; subst hc; exact aiu
  ·exact fun c hs=>⟨(h7 c hs).1,by rw[n2]; have:=(h7 c hs).2; omega⟩
  ·exact(k1.to hn fun c hc=>.inl (hwb c hc).1).trans (qd.mk rfl (Nat.le_refl _) fun c h1 h2=>by
    simp only[RM.put]; rw[if_neg (by omega)])
end
def Ja (c:aj) : Prop:=∀ {M:RM} {v:AV} {es:List aF} {Q:ak},Sl aB M v es→es.length≤50000 →
 (∀ v' M',iy GR M' v' (bY es) (fun b=>M.next≤b∧b<M'.next)→ag [] M M'→Q v' M')→c [v] M Q
theorem Dw:∀ es:List aF,(bY es).length≤es.length∧∀ g∈bY es,g.length≤es.length:=by
 refine Jn (by simp[KO]) fun es x ih=>?_
 rw[yG,Ig]
 obtain⟨h1,h2⟩:=ih
 split
 ·refine⟨by simp; omega,fun g hg=>?_⟩
  rcases List.mem_append.1 hg with hg | hg
  ·have:=h2 g hg; simp; omega
  ·simp at hg; subst hg; simp
 ·cases hz:(bY es).getLast? with
  | none=>rw[List.getLast?_eq_none_iff] at hz; rw[hz]; simp
  | some z =>
    obtain⟨i,e⟩:=vw hz
    rw[e] at h1 h2 ⊢
    simp only[List.dropLast_concat,List.getLast?_concat,Option.getD_some,List.length_append,List.length_singleton] at h1 ⊢
    refine⟨by omega,fun g hg=>?_⟩
    rcases List.mem_append.1 hg with hg | hg
    ·have:=h2 g (List.mem_append_left _ hg); omega
    ·simp at hg; subst hg
     have:=h2 z (by simp); simp; omega
theorem ahE {es:List aF} {i:Nat} (hi:i<es.length) : mJ (es.take i) es[i]=((i == 0) || (decide (nm es (i - 1)≠es[i].2.1) || decide ((es.getD (i - 1) ((0,0),([],[],[]))).2.2.1≠es[i].2.2.1))):=by
 cases i with
 | zero=>simp[mJ]
 | succ j =>
   rw[List.take_succ_eq_append_getElem (by omega)]
   simp only[mJ,List.getLast?_concat,Nat.add_sub_cancel]
   rw[Sm (by omega),Dp (by omega),fC]
   simp
theorem Ym {TN TS:Nat} : Ja fun args M Q=>∃ a0,args=[a0]∧yU TN TS a0 M Q:=by
 intro M v es Q hv hlen hQ
 refine⟨_,rfl, ?_⟩
 unfold yU
 simp only[j6,fB,dY,eP,bR]
 rw[aL.len hv]
 refine aI (fun z ys M3=>∃ (i:Nat) (dv:AV),z=es.length - i∧ys=[dv,N .i64 (i:Int)]∧i≤es.length∧ag [] M M3∧((i=0∧dv=bZ)∨∃ init g,bY (es.take i)=init++[g]∧mI TN TS M.next M3 dv init g)) _
  ⟨0,bZ,rfl,rfl,Nat.zero_le _,ag.refl _ _,.inl ⟨rfl,rfl⟩⟩ ?_
 rintro next z ys M3 hnext ⟨i,dv,rfl,rfl,hil,k3,hg⟩
 dsimp only[aa]
 rw[ed]
 refine aG (fun hlt=>?_) (fun hge=>?_)
 ·have hlt:i<es.length:=of_decide_eq_true hlt
  have n3:=k3.next
  refine aY (fun zs M'=>∃ dv' init g,zs=[dv']∧ag [] M M'∧bY (es.take (i + 1))=init++[g]∧mI TN TS M.next M' dv' init g) ?_ ?_
  ·rintro zs M' ⟨dv',init,g,rfl,k',e',o'⟩
   dsimp only[aa]
   rw[add1 (by omega)]
   exact hnext _ _ _ (by omega) ⟨i + 1,dv',rfl,rfl,by omega,k',.inr ⟨init,g,e',o'⟩⟩
  intro J hJ
  rw[vN (aL.keep hv k3 (by simp)) hlt]
  have hnw:=ahE hlt
  have hgs:bY (es.take (i + 1))=Ig (bY (es.take i)) (mJ (es.take i) es[i]) es[i]:=by
   rw[List.take_succ_eq_append_getElem hlt,yG]
  have hgl:=Dw (es.take i)
  rw[List.length_take] at hgl
  generalize es[i]=x at *
  rw[bB,gz (n:=5) (x:=.agg (aB.cells x)) (l:=[(N .i64 0),(N .u64 0),(St []),(St []),(St [])]) (RM.aS _) rfl rfl (vo x)]
  have k4:ag [] M3 ((M3.push (.row [(N .i64 0),(N .u64 0),(St []),(St []),(St [])] false TN 0)).put M3.next (.row (AV.agg (aB.cells x)).cells false TN 0)):=((ag.refl _ _).push _).new _ (Nat.le_refl _)
  have h4:((M3.push (.row [(N .i64 0),(N .u64 0),(St []),(St []),(St [])] false TN 0)).put M3.next (.row (AV.agg (aB.cells x)).cells false TN 0)).heap M3.next=some (.row (aB.cells x) false TN 0):=aR _
  have hb4:M3.next<((M3.push (.row [(N .i64 0),(N .u64 0),(St []),(St []),(St [])] false TN 0)).put M3.next (.row (AV.agg (aB.cells x)).cells false TN 0)).next:=by rw[lX,vB]; omega
  have hdv:∀ c∈aH dv,c<M3.next:=by
   rcases hg with⟨_,rfl⟩ | ⟨a,g,e,o⟩
   ·simp[aH]
   ·exact fun c hc=>(o.blk c hc).2
  generalize (M3.push (.row [(N .i64 0),(N .u64 0),(St []),(St []),(St [])] false TN 0)).put M3.next (.row (AV.agg (aB.cells x)).cells false TN 0)=M4 at *
  generalize M3.next=b at *
  have k04:=k3.trans k4
  have v4:=aL.keep hv k04 (by simp)
  have n4:=k04.next
  have hg4:(i=0∧dv=bZ)∨∃ init g,bY (es.take i)=init++[g]∧mI TN TS M.next M4 dv init g:=hg.imp id fun⟨a,g,e,o⟩=>⟨a,g,e,o.keep k4⟩
  clear hg
  refine aY (fun zs M'=>∃ dv' init g,zs=[dv']∧ag [] M M'∧M'.heap b=some (.row (aB.cells x) false TN 0)∧bY (es.take (i + 1))=init++[g++[x]]∧mI TN TS M.next M' dv' init g) ?_ ?_
  ·rintro zs M' ⟨dv',init,g,rfl,k',hx',e',o'⟩
   dsimp only[aa]
   have n':=k'.next
   have adt:=Dw (es.take (i + 1))
   rw[e',List.length_take] at adt
   have hl1:=adt.1
   have hl2:=adt.2 (g++[x]) (by simp)
   simp only[List.length_append,List.length_singleton] at hl1 hl2
   rw[o'.len,bu (by omega) (by omega),o'.len,bu (by omega) (by omega),Nat.add_sub_cancel]
   obtain⟨bb,w,hne,hidx,hld,happ⟩:=o'.put (x:=x) (K:=fun M5=>J [dv'] M5) n' (by omega) (by omega) fun M5 o5 k5=>hJ _ _ ⟨dv',init,g++[x],rfl,k'.ahL k5 (Nat.le_refl _) (by simp),e',o5⟩
   rw[hidx,hld,fA (n:=5) hx' rfl,rP (x:=.agg (aB.cells x)) (size:=5) rfl (vo x) rfl,rU]
   simp only[hidx]
   exact happ
  intro J2 hJ2
  rw[bU]
  refine YE (P:=fun M'=>M'=M4) (p:=decide (nm es (i - 1)≠x.2.1)) rfl (fun hc K hK=>?_) fun M5 hM5=>?_
  ·have hi0:i≠0:=fun e=>by
    subst e; simp at hc
   rw[bu (by omega) (by omega),Yz v4 (i:=i - 1) (by omega) (x:=St es[i - 1].2.1) rfl,aU,az (i:=0 + 2) (x:=St x.2.1) h4 rfl,qE]
   refine hK M4 rfl |> fun h=>?_
   rw[show(es[i - 1].2.1 != x.2.1)=decide (nm es (i - 1)≠x.2.1) by rw[Sm (by omega)]; by_cases h:es[i - 1].2.1=x.2.1 <;> simp[h]]
   exact h
  subst hM5
  refine YE (P:=fun M'=>M'=M5) (p:=decide ((es.getD (i - 1) ((0,0),([],[],[]))).2.2.1≠x.2.2.1)) rfl (fun hc K hK=>?_) fun M6 hM6=>?_
  ·have hi0:i≠0:=fun e=>by
    subst e; simp at hc
   rw[bu (by omega) (by omega),Yz v4 (i:=i - 1) (by omega) (x:=St es[i - 1].2.2.1) rfl,aU,az (i:=0 + 3) (x:=St x.2.2.1) h4 rfl,qE]
   refine hK M5 rfl |> fun h=>?_
   rw[show(es[i - 1].2.2.1 != x.2.2.1)=decide ((es.getD (i - 1) ((0,0),([],[],[]))).2.2.1≠x.2.2.1) by rw[Dp (by omega)]; by_cases h:es[i - 1].2.2.1=x.2.2.1 <;> simp[h]]
   exact h
  subst hM6
  rw[show(((((i:Int) == 0)) || decide (nm es (i - 1)≠x.2.1)) || decide ((es.getD (i - 1) ((0,0),([],[],[]))).2.2.1≠x.2.2.1))=mJ (es.take i) x by
   rw[hnw,Bool.or_assoc]; congr 1; cases i <;> simp; omega]
  refine aG (fun hc=>?_) (fun hc=>?_)
  ·rw[hc] at hgs
   rw[rP (x:=bZ) (size:=1) rfl rfl rfl,bB]
   have hgs:bY (es.take (i + 1))=bY (es.take i)++[[x]]:=hgs
   rcases hg4 with⟨h0,rfl⟩ | ⟨init,g,e,o⟩
   ·subst h0
    refine mI.start (TN:=TN) (n0:=M.next) n4 fun v' M7 o7 k7=>?_
    exact hJ2 _ _ ⟨v',[],[],rfl,k04.trans k7,k7.aP h4 hb4 (by simp),by rw[hgs]; rfl,o7⟩
   ·rw[e] at hgl
    have hl1:=hgl.1
    simp only[List.length_append,List.length_singleton] at hl1
    refine o.more n4 (by omega) fun v' M7 o7 k7=>?_
    exact hJ2 _ _ ⟨v',init++[g],[],rfl,k04.dK k7 (fun c hc=>.inl (o.blk c hc).1),k7.aP h4 hb4 (fun hm=>by have:=hdv _ hm; omega),by rw[hgs,e]; simp,o7⟩
  ·rw[hc] at hgs
   rcases hg4 with⟨h0,rfl⟩ | ⟨init,g,e,o⟩
   ·subst h0
    rw[hnw] at hc; simp at hc
   ·refine hJ2 _ _ ⟨dv,init,g,rfl,k04,h4, ?_,o⟩
    rw[hgs,e]; simp[Ig]
 ·have he:i=es.length:=by
   have:¬ i<es.length:=of_decide_eq_false hge
   omega
  subst he
  rw[List.take_length] at hg
  rcases hg with⟨h0,rfl⟩ | ⟨init,g,e,o⟩
  ·have:es=[]:=List.length_eq_zero_iff.1 h0
   subst this
   exact hQ _ M3 ⟨[],.nil,by simp[aH],.nil⟩ k3
  ·refine hQ _ M3 ?_ k3
   rw[e]; exact o.slD
abbrev Fv:List AV:=[(N .i64 0),(N .u64 0),(St []),(St []),(St [])]
theorem IU {M:RM} {TN:Nat} {x:aF} {K:RM→AV→Prop} (hK:∀ M',M'.next=M.next + 1→ag [] M M'→M'.heap M.next=some (.row (aB.cells x) false TN 0)→K M' (.ptr M.next 0)) :
  cz (.row [(N .i64 0),(N .u64 0),(St []),(St []),(St [])] false TN 0) (fun b=>.ptr b 0) M fun t M1=>aC M1 t (.agg (aB.cells x)) 5 fun M2=>K M2 t:=by
 rw[bB,gz (n:=5) (x:=.agg (aB.cells x)) (l:=[(N .i64 0),(N .u64 0),(St []),(St []),(St [])]) (RM.aS _) rfl rfl (vo x)]
 exact hK _ (by rw[lX,vB]) (((ag.refl _ _).push _).new _ (Nat.le_refl _)) (aR _)
theorem NZ {M:RM} {b o n e f:Nat} {l:List AV} {p:Bool} (cs:List AV) {K:AV→Prop} (h:M.heap b=some (.row l p e f)) (hl:yu (some l) o n=some cs) : aA M (.ptr b o) n K=K (.agg cs):=by
 rw[gK,RM.UX h,hl]; simp
def Kk (c:aj) : Prop:=∀ {M:RM} {v:AV} {xs:List aF} {Q:ak},Sl aB M v xs→xs.length≤50000→(∀ M',ag [] M M'→Q (.tup [.agg (aB.cells (rD xs).1),Bo (rD xs).2]) M')→c [v] M Q
theorem Xa {TN:Nat} {cl:aj} (hl:yF cl) : Kk fun args M Q=>∃ a0,args=[a0]∧zh TN cl a0 M Q:=by
 intro M v xs Q hv hlen hQ
 refine⟨_,rfl, ?_⟩
 unfold zh
 rw[bB]
 simp only[j6,fB,dY,eP,bR]
 rw[aL.len hv,bU]
 have k1:ag [] M (M.push (.row Fv false TN 0)):=(ag.refl _ _).push _
 have h1:(M.push (.row Fv false TN 0)).heap M.next=some (.row Fv false TN 0):=RM.aS _
 have n1:(M.push (.row Fv false TN 0)).next=M.next + 1:=vB _
 refine aG (fun hc=>?_) (fun hc=>?_)
 ·have:xs=[]:=by
   have:(xs.length:Int)=0:=by simpa using hc
   exact List.length_eq_zero_iff.1 (by omega)
  subst this
  rw[qY]
  refine⟨_,rfl, ?_⟩
  rw[gz (n:=5) (x:=.agg Fv) (l:=Fv) h1 rfl rfl rfl]
  rw[fA (n:=5) (aR _) rfl]
  exact hQ _ (k1.put _ (.inl (Nat.le_refl _)))
 ·have hpos:0<xs.length:=by
   rcases Nat.eq_zero_or_pos xs.length with h | h
   ·rw[h] at hc; simp at hc
   ·exact h
  generalize M.push (.row Fv false TN 0)=M1 at *
  rw[show(N .i64 (0:Int))=N .i64 ((0:Nat) : Int) from rfl,vN (aL.keep hv k1 (by simp)) hpos]
  refine IU fun M2 n2 k2 h2=>?_
  have h1':=k2.aP h1 (by omega) (by simp)
  rw[aL.len (aL.keep hv (k1.trans k2) (by simp))]
  refine aI (fun z ys M3=>∃ (i:Nat),z=xs.length - i∧ys=[N .i64 (i:Int)]∧i≤xs.length∧ag [] M M3∧M.next + 2≤M3.next∧M3.heap M.next=some (.row Fv false TN 0)∧M3.heap M1.next=some (.row (aB.cells (mo xs[0] (xs.take i))) false TN 0)) _
   ⟨0,rfl,rfl,Nat.zero_le _,k1.trans k2,by omega,h1',h2⟩ ?_
  rintro next z ys M3 hnext ⟨i,rfl,rfl,hil,k3,n3,h3,h4⟩
  dsimp only[aa]
  rw[ed]
  refine aG (fun hlt=>?_) (fun hge=>?_)
  ·have hlt:i<xs.length:=of_decide_eq_true hlt
   have hb:mo xs[0] (xs.take (i + 1))=if qz (mo xs[0] (xs.take i)).1 xs[i].1 then xs[i] else mo xs[0] (xs.take i):=by
    rw[List.take_succ_eq_append_getElem hlt,NC]; rfl
   refine aY (fun zs M'=>zs=[]∧ag [] M M'∧M.next + 2≤M'.next∧M'.heap M.next=some (.row Fv false TN 0)∧M'.heap M1.next=some (.row (aB.cells (mo xs[0] (xs.take (i + 1)))) false TN 0)) ?_ ?_
   ·rintro zs M' ⟨rfl,a1,a2,a3,a4⟩
    rw[add1 (by omega)]
    exact hnext _ _ _ (by omega) ⟨i + 1,rfl,rfl,by omega,a1,a2,a3,a4⟩
   intro J hJ
   rw[vN (aL.keep hv k3 (by simp)) hlt]
   generalize xs[i]=x at *
   generalize mo xs[0] (xs.take i)=y at *
   refine IU fun M4 n4 k4 h5=>?_
   have h3':=k4.aP h3 (by omega) (by simp)
   have h4':=k4.aP h4 (by omega) (by simp)
   rw[bG,NZ (aT y.1) h4' rfl,bG,NZ (aT x.1) h5 rfl]
   refine hl fun M5 k5=>?_
   have n5:=k5.next
   have aiL:=k5.aP h3' (by omega) (by simp)
   have ali:=k5.aP h4' (by omega) (by simp)
   have h5':=k5.aP h5 (by omega) (by simp)
   have k35:=(k3.trans k4).trans k5
   refine aG (fun hc=>?_) (fun hc=>?_)
   ·rw[fA (n:=5) h5' rfl,gz (n:=5) (x:=.agg (aB.cells x)) ali rfl rfl (vo x)]
    refine hJ _ _ ⟨rfl,k35.put _ (.inl (by omega)),by rw[lX]; omega,qi aiL (by omega), ?_⟩
    rw[hb,if_pos hc]; exact aR _
   ·refine hJ _ _ ⟨rfl,k35,by omega,aiL, ?_⟩
    rw[hb,if_neg (by rw[hc]; simp)]; exact ali
  ·have he:i=xs.length:=by
    have:¬ i<xs.length:=of_decide_eq_false hge
    omega
   subst he
   rw[List.take_length] at h4
   rw[fA (n:=5) h4 rfl,gz (n:=5) (x:=.agg (aB.cells (mo xs[0] xs))) h3 rfl rfl (vo _),fA (n:=5) (aR _) rfl]
   have hw:rD xs=(mo xs[0] xs,true):=by
    cases xs with
    | nil=>simp at hpos
    | cons a r=>rfl
   rw[hw] at hQ
   exact hQ _ (k3.put _ (.inl (Nat.le_refl _)))
def vI (k:Nat) : List (List UInt8)→List (AV × AV × Nat)
 | []=>[]
 | s :: r=>(St s,Bo true,k) :: vI (k + 1) r
theorem Ru (x:List UInt8) : ∀ (r:List (List UInt8)) (k:Nat),vI k (r++[x])=vI k r++[(St x,Bo true,k + r.length)]
 | [],k=>rfl
 | y :: r,k=>by
   simp only[List.cons_append,vI,Ru x r (k + 1),List.length_cons]
   rw[show k + 1 + r.length=k + (r.length + 1) by omega]
theorem Wv:∀ (r:List (List UInt8)) (k:Nat),(vI k r).length=r.length
 | [],k=>rfl
 | y :: r,k=>by simp[vI,Wv r]
theorem RH (s:List UInt8) : ∀ (r:List (List UInt8)) (k i:Nat),∃ o,sG false [2] [St s] (vI k r) i=some o∧((s∈r∧∃ j,o=some (i + j,Bo true)∧LA (St s) (Bo true) (vI k r) j=vI k r)∨(s ∉ r∧o=none))
 | [],k,i=>⟨none,rfl,.inr ⟨by simp,rfl⟩⟩
 | x :: r,k,i=>by
   simp only[vI,sG,ic]
   rw[if_pos (by rfl),MR]
   by_cases h:s=x
   ·rw[if_pos h,EC]
    exact⟨_,rfl,.inl ⟨by simp[h],0,rfl,by rw[h]; rfl⟩⟩
   ·rw[if_neg h]
    obtain⟨o,h1,h2⟩:=RH s r (k + 1) (i + 1)
    refine⟨o,h1, ?_⟩
    rcases h2 with⟨h2,j,e,h3⟩ | ⟨h2,e⟩
    ·exact .inl ⟨List.mem_cons_of_mem _ h2,j + 1,by rw[e]; congr 2; omega,by rw[LA,h3]⟩
    ·exact .inr ⟨by simp[h,h2],e⟩
theorem ahW {M:RM} {b:Nat} {g:List aF} {x:aF} {K:RM→Prop} (h:M.heap b=some (.map (vI 0 (mZ g)) (mZ g).length)) (hK:K (M.put b (.map (vI 0 (mZ (g++[x]))) (mZ (g++[x])).length))) :
  Jh false [2] M (.map b) (St x.2.2.2) (Bo true) K:=by
 obtain⟨o,h1,h2⟩:=RH x.2.2.2 (mZ g) 0 0
 refine⟨b,_,_,[St x.2.2.2],o,rfl,h,rfl,rfl,h1, ?_⟩
 rw[NM,Zq] at hK
 rcases h2 with⟨h2,j,rfl,h3⟩ | ⟨h2,rfl⟩
 ·rw[if_pos h2] at hK
  simp only[aeq,Nat.zero_add,h3]
  exact hK
 ·rw[if_neg h2,Ru,List.length_append,List.length_singleton] at hK
  simp only[aeq]
  rw[Nat.zero_add] at hK
  exact hK
def iR:Enc JB:=⟨3,fun f=>[St f.1,St f.2.1,N .i64 (f.2.2:Int)],fun _=>rfl,fun _=>rfl⟩
def Jl (TS T TF:Nat) (c:aj) : Prop:=∀ {M:RM} {t:Nat} {B:Nat→Prop} {ps:List Pt} {es:List aF} {s:List UInt8} {Q:ak},pY TS T B M t ps es→es.length≤50000→(∀ v M',Ow iR M' M.next TF v (bO es s)→ag [] M M'→Q v M')→c [.ptr t 0,St s] M Q
theorem XV {TS T TN TF:Nat} {cC cG cW:aj} (hC:Kn TS T TN cC) (hG:Ja cG) (hW:Kk cW) : Jl TS T TF fun args M Q=>∃ a0 a1,args=[a0,a1]∧zf cC cG cW TN TF a0 a1 M Q:=by
 intro M t B ps es s Q hst hlen hQ
 refine⟨_,_,rfl, ?_⟩
 unfold zf
 refine hC hst hlen fun v1 M1 o1 k1=>?_
 have hfl:(lD es s).length≤es.length:=List.length_filter_le _ _
 refine hG (es:=lD es s) o1.jq (by omega) fun v2 M2 d2 k2=>?_
 have n1:=k1.next
 have k02:=k1.trans k2
 have n2:=k02.next
 have hgl:=Dw (lD es s)
 rw[d2.len]
 refine aI (fun z ys M3=>∃ (i:Nat) (dv:AV),z=(bY (lD es s)).length - i∧ys=[dv,N .i64 (i:Int)]∧i≤(bY (lD es s)).length∧ag [] M2 M3∧Ow iR M3 M2.next TF dv (((bY (lD es s)).take i).map shown)) _
  ⟨0,bZ,rfl,rfl,Nat.zero_le _,ag.refl _ _,.nil⟩ ?_
 rintro next z ys M3 hnext ⟨i,dv,rfl,rfl,hil,k3,o3⟩
 dsimp only[aa]
 rw[ed]
 refine aG (fun hlt=>?_) (fun hge=>?_)
 ·have hlt:i<(bY (lD es s)).length:=of_decide_eq_true hlt
  have n3:=k3.next
  obtain⟨b,o,cs,_,_,hidx,hld,w,rfl,hw⟩:=iy.at (R:=GR) (d2.keep k3 (by simp)) 1 (i:Int) hlt rfl rfl
  have hsh:((bY (lD es s)).take (i + 1)).map shown=((bY (lD es s)).take i).map shown++[shown (bY (lD es s))[i]]:=by
   rw[List.take_succ_eq_append_getElem hlt,List.map_append,List.map_singleton]
  have hgi:=hgl.2 _ (List.getElem_mem hlt)
  have hml:(((bY (lD es s)).take i).map shown).length≤i:=by rw[List.length_map,List.length_take]; omega
  generalize (bY (lD es s))[i]=g at *
  have hw:=hw.sl
  rw[hidx,gL,rW hld rfl]
  simp only[Option.some.injEq,exists_eq_left']
  refine hW hw (by omega) fun M4 k4=>?_
  have n4:=k4.next
  rw[lM,lH]
  refine IU fun M5 n5 k5 h5=>?_
  rw[bB]
  have k6:ag [] M5 (M5.push (.map [] 0)):=(ag.refl _ _).push _
  have h6:(M5.push (.map [] 0)).heap M5.next=some (.map (vI 0 (mZ ([] : List aF))) (mZ ([] : List aF)).length):=RM.aS _
  have n6:(M5.push (.map [] 0)).next=M5.next + 1:=vB _
  have h56:=k6.aP h5 (by omega) (by simp)
  generalize M5.push (.map [] 0)=M6 at *
  have k36:=(k4.trans k5).trans k6
  have w6:=aL.keep hw k36 (by simp)
  rw[aL.len w6]
  refine aI (fun z ys M7=>∃ (j:Nat),z=g.length - j∧ys=[N .i64 (j:Int)]∧j≤g.length∧ag [] M3 M7∧M6.next≤M7.next∧M7.heap M4.next=some (.row (aB.cells (rD g).1) false TN 0)∧M7.heap M5.next=some (.map (vI 0 (mZ (g.take j))) (mZ (g.take j)).length)) _
   ⟨0,rfl,rfl,Nat.zero_le _,k36,Nat.le_refl _,h56,h6⟩ ?_
  rintro gT z ys M7 dH ⟨j,rfl,rfl,hjl,k7,n7,h7,h8⟩
  dsimp only[aa]
  rw[ed]
  refine aG (fun hlt2=>?_) (fun sP=>?_)
  ·have hlt2:j<g.length:=of_decide_eq_true hlt2
   have hgs:g.take (j + 1)=g.take j++[g[j]]:=List.take_succ_eq_append_getElem hlt2
   rw[vN (aL.keep hw k7 (by simp)) hlt2]
   generalize g[j]=x at *
   refine IU fun M8 n8 k8 h9=>?_
   rw[aU,az (i:=0 + 4) (x:=St x.2.2.2) h9 rfl]
   have k08:=k7.trans k8
   refine ahW (k8.aP h8 (by omega) (by simp)) ?_
   rw[add1 (by omega)]
   refine dH _ _ _ (by omega) ⟨j + 1,rfl,rfl,by omega,k08.put _ (.inl (by omega)),by rw[lX]; omega,qi (k8.aP h7 (by omega) (by simp)) (by omega), ?_⟩
   rw[hgs]
   exact aR _
  ·have he:j=g.length:=by
    have:¬ j<g.length:=of_decide_eq_false sP
    omega
   subst he
   rw[List.take_length] at h8
   rw[aU,az (i:=0 + 3) (x:=St (rD g).1.2.2.1) h7 rfl,aU,az (i:=0 + 4) (x:=St (rD g).1.2.2.2) h7 rfl]
   refine⟨_,_,_,rfl,h8, ?_⟩
   dsimp only
   rw[Wv,qY]
   refine⟨[St (rD g).1.2.2.1,St (rD g).1.2.2.2,N .i64 ((mZ g).length:Int)],rfl, ?_⟩
   rw[rP (x:=.agg [St (rD g).1.2.2.1,St (rD g).1.2.2.2,N .i64 ((mZ g).length:Int)]) (size:=3) rfl rfl rfl,bB]
   refine xz (E:=iR) (a:=shown g) (o3.keep k7 (by simp)) (by have:=k7.next; omega) (by decide) (by omega) (by omega) fun v9 M9 o9 k9 n9 _=>?_
   rw[add1 (by omega)]
   refine hnext _ _ _ (by omega) ⟨i + 1,v9,rfl,rfl,by omega,(k3.trans k7).dK k9 (fun d hd=>.inl (o3.blk d hd).1), ?_⟩
   rw[hsh]
   exact o9
 ·have he:i=(bY (lD es s)).length:=by
   have:¬ i<(bY (lD es s)).length:=of_decide_eq_false hge
   omega
  subst he
  rw[List.take_length] at o3
  exact hQ dv M3 (Own.mono o3 n2) (k02.trans k3)
def afw (TS T TF:Nat) (c:aj) : Prop:=∀ {M:RM} {t:Nat} {B:Nat→Prop} {ps:List Pt} {es:List aF} {s:List UInt8} {Q:ak},pY TS T B M t ps es→es.length≤50000 →
 (bO es s=[]→∀ M',ag [] M M'→Q (.tup [bZ,N .i64 4]) M')→(bO es s≠[]→∀ v M',Ow iR M' M.next TF v (bO es s)→ag [] M M'→Q (.tup [v,N .i64 0]) M')→c [.ptr t 0,St s] M Q
theorem aeh {TS T TF:Nat} {cf:aj} (hf:Jl TS T TF cf) : afw TS T TF fun args M Q=>∃ a0 a1,args=[a0,a1]∧Es cf a0 a1 M Q:=by
 intro M t B ps es s Q hst hlen h0 h1
 refine⟨_,_,rfl, ?_⟩
 unfold Es
 refine hf hst hlen fun v M1 o1 k1=>?_
 rw[aL.len o1.jq,bU]
 refine aG (fun hc=>?_) (fun hc=>?_)
 ·refine h0 (List.length_eq_zero_iff.1 ?_) M1 k1
  have:((bO es s).length:Int)=0:=by simpa using hc
  omega
 ·refine h1 (fun e=>?_) v M1 o1 k1
  rw[e] at hc; simp at hc
theorem akc {M:RM} {v:AV} {xs:List (List UInt8)} (h:Sl VS M v xs) {i:Nat} (hi:i<xs.length) {kd:IntKind} {K:AV→Prop} : (ai v (N kd (i:Int)) 1 fun p=>au M p K)=K (St xs[i]):=by
 obtain⟨b,o,_,_,hidx,hcell⟩:=Sl.Hu (E:=VS) (i:=i) h (i:Int) hi rfl rfl
 rw[hidx,gL,hcell _ rfl]
 simp
theorem ahY {M:RM} {v:AV} {xs:List JB} (h:Sl iR M v xs) {i:Nat} (hi:i<xs.length) {kd:IntKind} {K:AV→Prop} : (ai v (N kd (i:Int)) 3 fun p=>aA M p 3 K)=K (.agg (iR.cells xs[i])):=by
 obtain⟨b,o,_,_,hidx,hld⟩:=Sl.at (E:=iR) (i:=i) h 3 (i:Int) hi rfl rfl
 rw[hidx,gK,hld]
 simp
theorem Y5 {M:RM} {TF:Nat} {x:JB} {K:RM→AV→Prop} (hK:∀ M',M'.next=M.next + 1→ag [] M M'→M'.heap M.next=some (.row (iR.cells x) false TF 0)→K M' (.ptr M.next 0)) :
  cz (.row [(St []),(St []),(N .i64 0)] false TF 0) (fun b=>.ptr b 0) M fun t M1=>aC M1 t (.agg (iR.cells x)) 3 fun M2=>K M2 t:=by
 rw[bB,gz (n:=3) (x:=.agg (iR.cells x)) (l:=[(St []),(St []),(N .i64 0)]) (RM.aS _) rfl rfl (iR.one x)]
 exact hK _ (by rw[lX,vB]) (((ag.refl _ _).push _).new _ (Nat.le_refl _)) (aR _)
def BdE (es:List aF) : Prop:=∀ x∈es,x.2.1.length≤600∧x.2.2.1.length≤600∧x.2.2.2.length≤600
theorem Yh (es:List aF) (c:List UInt8) : (bO es c).length≤es.length:=by
 rw[bO,List.length_map]
 exact Nat.le_trans (Dw _).1 (List.length_filter_le _ _)
def Uf (TS T TN:Nat) (c:aj) : Prop:=∀ {M:RM} {t:Nat} {C:Nat→Prop} {ps:List Pt} {es:List aF} {Q:ak},pY TS T C M t ps es→es.length≤50000→uZ es→(∀ v M',Ow aB M' M.next TN v (conf es)→ag [] M M'→Q v M')→c [.ptr t 0] M Q
theorem ae5 {α:Type} {L K:List (List α)} (h:L.Sublist K) : L.flatten.length≤K.flatten.length:=by
 induction h with
 | slnil=>exact Nat.le_refl _
 | cons a _ ih=>rw[List.flatten_cons,List.length_append]; omega
 | cons_cons a _ ih=>rw[List.flatten_cons,List.flatten_cons,List.length_append,List.length_append]; omega
theorem Wh (L:List (List aF)) (p:List aF→Bool) (i:Nat) : (((L.take i).filter p).flatten).length≤L.flatten.length:=ae5 (List.filter_sublist.trans (List.take_sublist _ _))
theorem abu {TS T TN:Nat} {ce cg:aj} (he:Fw TS T TN ce) (hg:Ja cg) : Uf TS T TN fun args M Q=>∃ a0,args=[a0]∧uw ce cg TN a0 M Q:=by
 intro M t C ps es Q hst hlen hse hQ
 refine⟨_,rfl, ?_⟩
 unfold uw
 simp only[j6,fB,dY,eP,bR]
 refine he hst (by omega) fun v1 M1 o1 k1=>?_
 refine hg o1.jq hlen fun v2 M2 d2 k2=>?_
 have k02:=k1.trans k2
 have hgl:=Dw es
 have anH:=(yO es hse).flat
 rw[d2.len]
 refine aI (fun z ys M3=>∃ (i:Nat) (dv:AV),z=(bY es).length - i∧ys=[dv,N .i64 (i:Int)]∧i≤(bY es).length∧ag [] M2 M3∧Ow aB M3 M2.next TN dv ((((bY es).take i).filter fun g=>decide (1<g.length)).flatten)) _
  ⟨0,bZ,rfl,rfl,Nat.zero_le _,ag.refl _ _,.nil⟩ ?_
 rintro next z ys M3 hnext ⟨i,dv,rfl,rfl,hil,k3,o3⟩
 dsimp only[aa]
 rw[ed]
 refine aG (fun hlt=>?_) (fun hge=>?_)
 ·have hlt:i<(bY es).length:=of_decide_eq_true hlt
  have n3:=k3.next
  have hfl:=Wh (bY es) (fun g=>decide (1<g.length)) i
  rw[anH] at hfl
  refine aY (fun zs M'=>∃ dv',zs=[dv']∧ag [] M2 M'∧Ow aB M' M2.next TN dv' ((((bY es).take (i + 1)).filter fun g=>decide (1<g.length)).flatten)) ?_ ?_
  ·rintro zs M' ⟨dv',rfl,k',o'⟩
   dsimp only[aa]
   rw[add1 (by omega)]
   exact hnext _ _ _ (by omega) ⟨i + 1,dv',rfl,rfl,by omega,k',o'⟩
  intro J hJ
  rw[JF hlt,List.flatten_append] at hJ
  obtain⟨b,o,cs,_,_,hidx,hld,w,rfl,hw⟩:=iy.at (R:=GR) (d2.keep k3 (by simp)) 1 (i:Int) hlt rfl rfl
  have hgi:=hgl.2 _ (List.getElem_mem hlt)
  generalize (((bY es).take i).filter fun g=>decide (1<g.length)).flatten=acc at *
  generalize (bY es)[i]=g at *
  have hw:=hw.sl
  rw[hidx,gL,rW hld rfl]
  simp only[Option.some.injEq,exists_eq_left']
  rw[aL.len hw,show(N .i64 (1:Int))=N .i64 ((1:Nat) : Int) from rfl,pG]
  refine aG (fun hc=>?_) (fun hc=>?_)
  ·refine IV (E:=aB) o3 n3 (by decide) hw (by omega) (by omega) fun v9 M9 o9 k9 n9 _=>?_
   refine hJ _ _ ⟨v9,rfl,k3.dK k9 (fun d hd=>.inl (o3.blk d hd).1), ?_⟩
   rw[if_pos (by simpa using hc)]; simpa using o9
  ·refine hJ _ _ ⟨dv,rfl,k3, ?_⟩
   rw[if_neg (by simpa using hc)]; simpa using o3
 ·have he:i=(bY es).length:=by
   have:¬ i<(bY es).length:=of_decide_eq_false hge
   omega
  subst he
  rw[List.take_length] at o3
  exact hQ dv M3 (Own.mono o3 k02.next) (k02.trans k3)
end Go.Ab.Crw.Viw
namespace Go.Ab.Crw
open Go Go.Ab Go.Ab.aD Go.Ab.Vw
abbrev bK:=List UInt8 × (List UInt8 × Nat)
def aZ:Enc bK:=⟨3,fun f=>[St f.1,St f.2.1,N .i64 (f.2.2:Int)],fun _=>rfl,fun _=>rfl⟩
def wM:bK→bK→Bool:=lex (fun x:bK=>x.2.1) (fun x y=>decide (x<y)) (lex (fun x:bK=>x.1) (fun x y=>decide (x<y)) fun _ _=>false)
theorem Qm:Sort.SWO wM:=zR qK (zR qK Xo)
def f3L (x y:bK) : Int:=Gl (c3 (fun x y:List UInt8=>decide (x<y)) x.2.1 y.2.1) (Gl (c3 (fun x y:List UInt8=>decide (x<y)) x.1 y.1) 0)
theorem apo:Is3 wM f3L:=zV (k:=fun x:bK=>x.2.1) qK (zV (k:=fun x:bK=>x.1) qK VB)
def Im (c:aj) : Prop:=∀ {M:RM} {x y:bK} {Q:ak},(∀ M',ag [] M M'→Q (N .i64 (f3L x y)) M')→c [.agg (aZ.cells x),.agg (aZ.cells y)] M Q
theorem Sd {TL TI:Nat} {cs co:aj} (hs:yc (α:=List UInt8) (fun s=>St s) (fun x y=>decide (x<y)) cs) (ho:OrC co) :
  Im fun args M Q=>∃ a0 a1,args=[a0,a1]∧y8 TL cs TI co a0 a1 M Q:=by
 intro M x y Q hQ
 refine⟨_,_,rfl, ?_⟩
 unfold y8
 rw[dS rfl (by rw[aZ.len]; decide),bB,dS rfl (by rw[aZ.len]; decide),bB]
 have k1:ag [] M (M.push (.row (aZ.cells x) false TL 0)):=(ag.refl _ _).push _
 have k2:ag [] M ((M.push (.row (aZ.cells x) false TL 0)).push (.row (aZ.cells y) false TL 0)):=k1.push _
 have h2:((M.push (.row (aZ.cells x) false TL 0)).push (.row (aZ.cells y) false TL 0)).heap (M.push (.row (aZ.cells x) false TL 0)).next=some (.row (aZ.cells y) false TL 0):=RM.aS _
 have h1:((M.push (.row (aZ.cells x) false TL 0)).push (.row (aZ.cells y) false TL 0)).heap M.next=some (.row (aZ.cells x) false TL 0):=lZ (RM.aS _) (by simp[RM.push])
 generalize (M.push (.row (aZ.cells x) false TL 0)).push (.row (aZ.cells y) false TL 0)=M2 at *
 generalize (M.push (.row (aZ.cells x) false TL 0)).next=s at *
 rw[aU,az (i:=0 + 1) (x:=St x.2.1) h1 rfl,aU,az (i:=0 + 1) (x:=St y.2.1) h2 rfl,bG,az (x:=St x.1) h1 rfl,bG,az (x:=St y.1) h2 rfl]
 refine hs ?_
 rw[az (x:=St x.1) h1 rfl]
 refine⟨rfl, ?_⟩
 rw[az (x:=St y.1) h2 rfl]
 refine⟨rfl, ?_⟩
 refine hs ?_
 rw[agB (M:=M2),rU]
 refine ho (xs:=[_,_]) ?_ (by simp) (hQ _ (k2.push _))
 exact Sl.new (E:=INT) [_,_]
theorem ahn {cv:FuncId→aj} {n:Nat} (h:Im (cv n)) : oF aZ wM (bT cv (.fn (.func n) [] [])):=by
 intro M x y Q hQ
 exact⟨n,[],[],rfl,h fun M' k=>hQ _ _ (apo x y) k⟩
theorem fD {T:Nat} {fv:AV} {lt:bK→bK→Bool} {cv:FuncId→aj} (hl:oF aZ lt (bT cv fv)) : SortG aZ T 3 fv (Sort.insertionSort lt) (fun _ _ _=>True) fun args M Q=>∃ a0 a1 a2 a3,args=[a0,a1,a2,a3]∧dX cv a0 a1 a2 a3 M Q:=by
 intro M b a e d Q hat hsz hae he _ hQ
 refine⟨_,_,_,_,rfl, ?_⟩
 unfold dX
 simp only[fB,dY,eP]
 rw[add1 (by omega)]
 rw[Sort.insertionSort] at hQ
 obtain⟨R,hR⟩ : ∃ R,R=Sort.insOuter lt a e (a + 1) d:=⟨_,rfl⟩
 rw[← hR] at hQ
 refine aI (fun m ys M3=>∃ (i:Nat) (d3:Array bK),m=d.size - i∧ys=[N .i64 (i:Int)]∧i≤d.size + 1∧At aZ T b d3 M3∧ag [b] M M3∧d3.size=d.size∧R=Sort.insOuter lt a e i d3) _ ⟨a + 1,d,rfl,rfl,by omega,hat,ag.refl _ _,rfl,hR⟩ ?_
 rintro next m ys M3 hnext ⟨i,d3,rfl,rfl,hi,h3,k3,hs3,hm⟩
 dsimp only[aa]
 rw[ed]
 refine aG (fun hlt=>?_) (fun hge=>?_)
 ·have hlt:i<e:=of_decide_eq_true hlt
  rw[Sort.insOuter,if_pos hlt] at hm
  obtain⟨R5,hR5⟩ : ∃ R5,R5=Sort.insInner lt a i d3:=⟨_,rfl⟩
  rw[← hR5] at hm
  refine aI (fun m ys M5=>∃ (j:Nat) (d5:Array bK),m=j + 1∧ys=[N .i64 (j:Int)]∧j≤i∧At aZ T b d5 M5∧ag [b] M M5∧d5.size=d.size∧R5=Sort.insInner lt a j d5) _ ⟨i,d3,rfl,rfl,Nat.le_refl _,h3,k3,hs3,hR5⟩ ?_
  rintro gT m ys M5 dH ⟨j,d5,rfl,rfl,hj,h5,k5,hs5,hm5⟩
  dsimp only[aa]
  rw[pG]
  have out:∀ M6,At aZ T b d5 M6→ag [b] M M6→Sort.insInner lt a j d5=d5→ae .add (N .i64 (i:Int)) (N .i64 1) (fun t14=>next [t14] M6):=fun M6 h6 k6 h=>by
   rw[add1 (by omega)]
   refine hnext _ _ _ (by omega) ⟨i + 1,d5,rfl,rfl,by omega,h6,k6,hs5, ?_⟩
   rw[hm,hm5,h]
  by_cases hg:j > a
  ·obtain⟨k,rfl⟩ : ∃ k,j=k + 1:=⟨j - 1,by omega⟩
   rw[decide_eq_true hg,o8]
   dsimp only
   rw[h5.rd (z:=3) rfl hs5.symm (by omega),bu (by omega) (by omega),Nat.add_sub_cancel,h5.rd (z:=3) rfl hs5.symm (by omega)]
   refine hl.use fun M6 k6=>?_
   have h6:=h5.keep k6
   have k6':=k5.trans (k6.mono (cs:=[b]) (by simp))
   rw[eT]
   rw[Sort.insInner] at hm5 out
   refine aG (fun h=>?_) (fun h=>?_)
   ·rw[if_pos (by simp[hg,h])] at hm5
    rw[bu (by omega) (by omega),bu (by omega) (by omega),Nat.add_sub_cancel,h6.rd (z:=3) rfl hs5.symm (by omega),h6.rd (z:=3) rfl hs5.symm (by omega)]
    refine h6.swap (z:=3) rfl hs5.symm (by omega) (by omega) fun M7 h7 k7=>?_
    rw[bu (by omega) (by omega),Nat.add_sub_cancel]
    exact dH _ _ _ (by omega) ⟨k,_,rfl,rfl,by omega,h7,k6'.trans k7,by rw[bP]; exact hs5,hm5⟩
   ·exact out M6 h6 k6' (by rw[if_neg (by simp[h])])
  ·rw[decide_eq_false hg,pq]
   dsimp only
   rw[df,bD]
   refine out M5 h5 k5 ?_
   cases j with
   | zero=>rfl
   | succ k=>rw[Sort.insInner,if_neg (by simp[hg])]
 ·have hge:¬ i<e:=of_decide_eq_false hge
  rw[Sort.insOuter,if_neg hge] at hm
  subst hm
  exact hQ M3 h3 k3
theorem afJ {T:Nat} {fv:AV} : SortG aZ T 3 fv Sort.reverseRange (fun _ a e=>a<e) fun args M Q=>∃ a0 a1 a2 a3,args=[a0,a1,a2,a3]∧jc a0 a1 a2 a3 M Q:=by
 intro M b a e d Q hat hsz hae he hP hQ
 refine⟨_,_,_,_,rfl, ?_⟩
 unfold jc
 rw[bu (by omega) (by omega)]
 rw[Sort.reverseRange] at hQ
 obtain⟨R,hR⟩ : ∃ R,R=Sort.reverseLoop a (e - 1) d:=⟨_,rfl⟩
 rw[← hR] at hQ
 refine aI (fun m ys M3=>∃ (i j:Nat) (d3:Array bK),m=j - i∧ys=[N .i64 (i:Int),N .i64 (j:Int)]∧j<d.size∧i≤d.size∧At aZ T b d3 M3∧ag [b] M M3∧d3.size=d.size∧R=Sort.reverseLoop i j d3) _ ⟨a,e - 1,d,rfl,rfl,by omega,by omega,hat,ag.refl _ _,rfl,hR⟩ ?_
 rintro next m ys M3 hnext ⟨i,j,d3,rfl,rfl,hj,hi,h3,k3,hs3,hm⟩
 dsimp only[aa]
 rw[ed]
 rw[Sort.reverseLoop] at hm
 refine aG (fun hlt=>?_) (fun hge=>?_)
 ·have hlt:i<j:=of_decide_eq_true hlt
  rw[if_pos hlt] at hm
  rw[h3.rd (z:=3) rfl hs3.symm (by omega),h3.rd (z:=3) rfl hs3.symm (by omega)]
  refine h3.swap (z:=3) rfl hs3.symm (by omega) (by omega) fun M4 h4 k4=>?_
  rw[add1 (by omega),bu (by omega) (by omega)]
  exact hnext _ _ _ (by omega) ⟨i + 1,j - 1,_,rfl,rfl,by omega,by omega,h4,k3.trans k4,by rw[bP]; exact hs3,hm⟩
 ·have hge:¬ i<j:=of_decide_eq_false hge
  rw[if_neg hge] at hm
  subst hm
  exact hQ M3 h3 k3
def Z0 (T:Nat) (fv:AV) (lt:bK→bK→Bool) (c:aj) : Prop:=∀ {M:RM} {b lo hi first:Nat} {d:Array bK} {Q:ak},At aZ T b d M→d.size≤60000→first + hi≤d.size→lo≤1000000→(∀ M',At aZ T b (Sort.siftDown lt hi first lo d) M'→ag [b] M M'→Q (.tup []) M') →
 c [sv b d.size 3,N .i64 (lo:Int),N .i64 (hi:Int),N .i64 (first:Int),fv] M Q
theorem aaQ {T:Nat} {fv:AV} {lt:bK→bK→Bool} {cv:FuncId→aj} (hl:oF aZ lt (bT cv fv)) : Z0 T fv lt fun args M Q=>∃ a0 a1 a2 a3 a4,args=[a0,a1,a2,a3,a4]∧kF cv a0 a1 a2 a3 a4 M Q:=by
 intro M b lo hi first d Q hat hsz hfe hlo hQ
 refine⟨_,_,_,_,_,rfl, ?_⟩
 unfold kF
 simp only[fB,dY,eP,bR]
 obtain⟨R,hR⟩ : ∃ R,R=Sort.siftDown lt hi first lo d:=⟨_,rfl⟩
 rw[← hR] at hQ
 refine aI (fun m ys M3=>∃ (r:Nat) (d3:Array bK),m=1000000 + hi - r∧ys=[N .i64 (r:Int)]∧(r≤1000000)∧At aZ T b d3 M3∧ag [b] M M3∧d3.size=d.size∧R=Sort.siftDown lt hi first r d3) _ ⟨lo,d,rfl,rfl,hlo,hat,ag.refl _ _,rfl,hR⟩ ?_
 rintro next m ys M3 hnext ⟨r,d3,rfl,rfl,hr,h3,k3,hs3,hm⟩
 dsimp only[aa]
 rw[afE (by omega),add1 (by omega),ja]
 rw[Sort.siftDown] at hm
 refine aG (fun hg=>?_) (fun hg=>?_)
 ·rw[dif_pos (of_decide_eq_true hg)] at hm
  subst hm
  exact hQ M3 h3 k3
 have hg:¬ 2 * r + 1 ≥ hi:=of_decide_eq_false hg
 rw[dif_neg hg] at hm
 refine aY (fun zs M'=>∃ c:Nat,zs=[N .i64 (c:Int)]∧At aZ T b d3 M'∧ag [b] M M'∧r<c∧c<hi∧R=if !lt d3[first + r]! d3[first + c]! then d3 else Sort.siftDown lt hi first c (Sort.swp d3 (first + r) (first + c))) ?_ ?_
 ·rintro zs M' ⟨c,rfl,h4,k4,hrc,akB,hm2⟩
  dsimp only[aa]
  rw[addN (by omega),h4.rd (z:=3) rfl hs3.symm (by omega),addN (by omega),h4.rd (z:=3) rfl hs3.symm (by omega)]
  refine hl.use fun M5 k5=>?_
  have h5:=h4.keep k5
  have k5':=k4.trans (k5.mono (cs:=[b]) (by simp))
  rw[bH]
  refine aG (fun h=>?_) (fun h=>?_)
  ·rw[if_pos h] at hm2
   subst hm2
   exact hQ M5 h5 k5'
  ·rw[if_neg (by rw[h]; decide)] at hm2
   rw[addN (by omega),addN (by omega),addN (by omega),h5.rd (z:=3) rfl hs3.symm (by omega),addN (by omega),h5.rd (z:=3) rfl hs3.symm (by omega)]
   refine h5.swap (z:=3) rfl hs3.symm (by omega) (by omega) fun M6 h6 k6=>?_
   exact hnext _ _ _ (by omega) ⟨c,_,rfl,rfl,by omega,h6,k5'.trans k6,by rw[bP]; exact hs3,hm2⟩
 intro J hJ
 rw[add1 (by omega),ed]
 refine pR (P:=fun M'=>At aZ T b d3 M'∧ag [b] M M') (p:=lt d3[first + (2 * r + 1)]! d3[first + (2 * r + 1) + 1]!) ⟨h3,k3⟩ (fun hc k hk=>?_) fun M4 ⟨h4,k4⟩=>?_
 ·have hc:2 * r + 1 + 1<hi:=of_decide_eq_true hc
  rw[addN (by omega),h3.rd (z:=3) rfl hs3.symm (by omega),addN (by omega),add1 (by omega),h3.rd (z:=3) rfl hs3.symm (by omega)]
  exact hl.use fun M5 k5=>hk M5 ⟨h3.keep k5,k3.trans (k5.mono (cs:=[b]) (by simp))⟩
 refine aG (fun h=>?_) (fun h=>?_)
 ·have hc:2 * r + 1 + 1<hi:=by
   rw[Bool.and_eq_true] at h
   exact of_decide_eq_true h.1
  rw[add1 (by omega)]
  refine hJ _ _ ⟨2 * r + 2,rfl,h4,k4,by omega,by omega, ?_⟩
  rw[if_pos h,dif_pos (by omega)] at hm
  exact hm
 ·refine hJ _ _ ⟨2 * r + 1,rfl,h4,k4,by omega,by omega, ?_⟩
  rw[if_neg (by rw[h]; decide)] at hm
  exact hm
theorem Zz {T:Nat} {fv:AV} {lt:bK→bK→Bool} {cs:aj} (hs:Z0 T fv lt cs) : SortG aZ T 3 fv (Sort.heapSort lt) (fun _ a e=>a<e) fun args M Q=>∃ a0 a1 a2 a3,args=[a0,a1,a2,a3]∧kI cs a0 a1 a2 a3 M Q:=by
 intro M b a e d Q hat hsz hae he hP hQ
 refine⟨_,_,_,_,rfl, ?_⟩
 unfold kI
 rw[Sort.heapSort] at hQ
 rw[dM hae (by omega),bu (by omega) (by omega),lc]
 refine⟨by decide, ?_⟩
 rw[show(2:Int)=((2:Nat) : Int) from rfl,oU,aW (by omega) (by omega)]
 obtain⟨R,hR⟩ : ∃ R,R=Sort.heapBuild lt (e - a) a ((e - a - 1) / 2 + 1) d:=⟨_,rfl⟩
 rw[← hR] at hQ
 refine aI (fun m ys M3=>∃ (k:Nat) (d3:Array bK),m=k + 1∧ys=[N .i64 ((k:Int) - 1)]∧k≤(e - a - 1) / 2 + 1∧At aZ T b d3 M3∧ag [b] M M3∧d3.size=d.size∧R=Sort.heapBuild lt (e - a) a k d3) _ ⟨(e - a - 1) / 2 + 1,d,rfl,by congr 3; omega,Nat.le_refl _,hat,ag.refl _ _,rfl,hR⟩ ?_
 rintro next m ys M3 hnext ⟨k,d3,rfl,rfl,hk,h3,k3,hs3,hm⟩
 dsimp only[aa]
 rw[iK]
 refine aG (fun hg=>?_) (fun hg=>?_)
 ·have hg:1≤k:=by
   have:(k:Int) - 1 ≥ 0:=of_decide_eq_true hg
   omega
  obtain⟨k',rfl⟩ : ∃ k',k=k' + 1:=⟨k - 1,by omega⟩
  rw[Sort.heapBuild] at hm
  rw[show((k' + 1:Nat) : Int) - 1=(k' : Int) by omega,← hs3]
  refine hs h3 (by omega) (by omega) (by omega) fun M4 h4 k4=>?_
  rw[ig,aW (by omega) (by omega)]
  exact hnext _ _ _ (by omega) ⟨k',_,rfl,rfl,by omega,h4,k3.trans k4,by rw[yL lt _ _ (e - a) _ _ (by omega)]; exact hs3,hm⟩
 ·have hk0:k=0:=by
   have:¬ (k:Int) - 1 ≥ 0:=of_decide_eq_false hg
   omega
  subst hk0
  rw[Sort.heapBuild] at hm
  rw[hm] at hQ
  rw[bu (by omega) (by omega)]
  obtain⟨R4,hR4⟩ : ∃ R4,R4=Sort.heapPop lt a (e - a) d3:=⟨_,rfl⟩
  rw[← hR4] at hQ
  refine aI (fun m ys M4=>∃ (k:Nat) (d4:Array bK),m=k + 1∧ys=[N .i64 ((k:Int) - 1)]∧k≤e - a∧At aZ T b d4 M4∧ag [b] M M4∧d4.size=d.size∧R4=Sort.heapPop lt a k d4) _ ⟨e - a,d3,rfl,by congr 3; omega,Nat.le_refl _,h3,k3,hs3,hR4⟩ ?_
  rintro gT m ys M4 dH ⟨k,d4,rfl,rfl,hk,h4,k4,hs4,hm4⟩
  dsimp only[aa]
  rw[iK]
  refine aG (fun hg=>?_) (fun hg=>?_)
  ·have hg:1≤k:=by
    have:(k:Int) - 1 ≥ 0:=of_decide_eq_true hg
    omega
   obtain⟨k',rfl⟩ : ∃ k',k=k' + 1:=⟨k - 1,by omega⟩
   rw[Sort.heapPop] at hm4
   rw[show((k' + 1:Nat) : Int) - 1=(k' : Int) by omega,addN (by omega),addN (by omega),h4.rd (z:=3) rfl hs4.symm (by omega),h4.rd (z:=3) rfl hs4.symm (by omega)]
   refine h4.swap (z:=3) rfl hs4.symm (by omega) (by omega) fun M5 h5 k5=>?_
   rw[show d.size=(Sort.swp d4 a (a + k')).size by rw[bP]; exact hs4.symm]
   refine hs (lo:=0) h5 (by rw[bP]; omega) (by rw[bP]; omega) (by decide) fun M6 h6 k6=>?_
   rw[ig,aW (by omega) (by omega)]
   exact dH _ _ _ (by omega) ⟨k',_,rfl,rfl,by omega,h6,(k4.trans k5).trans k6,by rw[yL lt _ _ k' _ _ (by omega),bP]; exact hs4,hm4⟩
  ·have hk0:k=0:=by
    have:¬ (k:Int) - 1 ≥ 0:=of_decide_eq_false hg
    omega
   subst hk0
   rw[Sort.heapPop] at hm4
   subst hm4
   exact hQ M4 h4 k4
def PT (T:Nat) (fv:AV) (lt:bK→bK→Bool) (c:aj) : Prop:=∀ {M:RM} {b a e pv:Nat} {d:Array bK} {Q:ak},At aZ T b d M→d.size≤60000→a≤pv→pv<e→e≤d.size→(∀ M',At aZ T b (Sort.partitionEqual lt d a e pv).2 M'→ag [b] M M'→Q (N .i64 (((Sort.partitionEqual lt d a e pv).1:Nat) : Int)) M') →
 c [sv b d.size 3,N .i64 (a:Int),N .i64 (e:Int),N .i64 (pv:Int),fv] M Q
theorem Pj {T:Nat} {fv:AV} {lt:bK→bK→Bool} {cv:FuncId→aj} (hl:oF aZ lt (bT cv fv)) : PT T fv lt fun args M Q=>∃ a0 a1 a2 a3 a4,args=[a0,a1,a2,a3,a4]∧iB cv a0 a1 a2 a3 a4 M Q:=by
 intro M b a e pv d Q hat hsz hap hpe he hQ
 refine⟨_,_,_,_,_,rfl, ?_⟩
 unfold iB
 simp only[fB,dY,eP]
 rw[Sort.partitionEqual] at hQ
 rw[hat.rd (z:=3) rfl rfl (by omega),hat.rd (z:=3) rfl rfl (by omega)]
 refine hat.swap (z:=3) rfl rfl (by omega) (by omega) fun M2 h2 k2=>?_
 rw[add1 (by omega),bu (by omega) (by omega)]
 obtain⟨R,hR⟩ : ∃ R,R=Sort.partEqLoop lt a (a + 1) (e - 1) (Sort.swp d a pv):=⟨_,rfl⟩
 rw[← hR] at hQ
 refine aI (fun m ys M3=>∃ (i j:Nat) (d3:Array bK),m=j + 1 - i∧ys=[N .i64 (i:Int),N .i64 (j:Int)]∧a + 1≤i∧i≤e + 1∧j<e∧At aZ T b d3 M3∧ag [b] M M3∧d3.size=d.size∧R=Sort.partEqLoop lt a i j d3) _ ⟨a + 1,e - 1,_,rfl,rfl,Nat.le_refl _,by omega,by omega,h2,k2,bP _ _ _,hR⟩ ?_
 rintro next m ys M3 hnext ⟨i,j,d3,rfl,rfl,hai,hie,hje,h3,k3,hs3,hm⟩
 dsimp only[aa]
 rw[Sort.partEqLoop] at hm
 refine zT (P:=fun M'=>At aZ T b d3 M'∧ag [b] M M') (p:=fun x=>!lt d3[a]! x) (d:=d3) (J:=j) ⟨h3,k3⟩ fun gT i2 M4 ⟨h4,k4⟩ h0 h1 hgo hstop=>?_
 dsimp only[aa]
 rw[jR]
 refine pR (P:=fun M'=>At aZ T b d3 M'∧ag [b] M M') (p:=!lt d3[a]! d3[i2]!) ⟨h4,k4⟩ (fun hc k hk=>?_) fun M5 h5=>?_
 ·have hc:i2≤j:=of_decide_eq_true hc
  rw[h4.rd (z:=3) rfl hs3.symm (by omega),h4.rd (z:=3) rfl hs3.symm (by omega)]
  refine hl.use fun M5 k5=>?_
  rw[bH]
  exact hk M5 ⟨h4.keep k5,k4.trans (k5.mono (cs:=[b]) (by simp))⟩
 refine aG (fun h=>?_) (fun h=>?_)
 ·rw[add1 (by omega)]
  exact hgo h M5 h5
 have hi2:=hstop h
 rw[← hi2] at hm
 refine uU (P:=fun M'=>At aZ T b d3 M'∧ag [b] M M') (p:=fun x=>lt d3[a]! x) (d:=d3) (i:=i2) h5 (by omega) fun qp j2 M6 ⟨h6,k6⟩ q0 q1 qN kE=>?_
 dsimp only[aa]
 rw[jR]
 refine pR (P:=fun M'=>At aZ T b d3 M'∧ag [b] M M') (p:=lt d3[a]! d3[j2]!) ⟨h6,k6⟩ (fun hc k hk=>?_) fun M7 ⟨h7,k7⟩=>?_
 ·have hc:i2≤j2:=of_decide_eq_true hc
  rw[h6.rd (z:=3) rfl hs3.symm (by omega),h6.rd (z:=3) rfl hs3.symm (by omega)]
  exact hl.use fun M5 k5=>hk M5 ⟨h6.keep k5,k6.trans (k5.mono (cs:=[b]) (by simp))⟩
 refine aG (fun h=>?_) (fun h=>?_)
 ·have hc:i2≤j2:=by
   rw[Bool.and_eq_true] at h
   exact of_decide_eq_true h.1
  rw[bu (by omega) (by omega)]
  exact qN h M7 ⟨h7,k7⟩
 have hj2:=kE h
 simp only[← hj2] at hm
 rw[pG]
 refine aG (fun hg=>?_) (fun hg=>?_)
 ·rw[if_pos (of_decide_eq_true hg)] at hm
  rw[hm] at hQ
  exact hQ M7 h7 k7
 ·have hg:¬ i2 > j2:=of_decide_eq_false hg
  rw[if_neg hg,dif_pos (by omega)] at hm
  rw[h7.rd (z:=3) rfl hs3.symm (by omega),h7.rd (z:=3) rfl hs3.symm (by omega)]
  refine h7.swap (z:=3) rfl hs3.symm (by omega) (by omega) fun M8 h8 k8=>?_
  rw[add1 (by omega),bu (by omega) (by omega)]
  exact hnext _ _ _ (by omega) ⟨i2 + 1,j2 - 1,_,rfl,rfl,by omega,by omega,by omega,h8,k7.trans k8,by rw[bP,hs3],hm⟩
def abq (T:Nat) (fv:AV) (lt:bK→bK→Bool) (c:aj) : Prop:=∀ {M:RM} {b a e pv:Nat} {d:Array bK} {Q:ak},At aZ T b d M→d.size≤60000→a≤pv→pv<e→e≤d.size→(∀ M',At aZ T b (Sort.partition lt d a e pv).2.2 M'→ag [b] M M'→Q (.tup [N .i64 (((Sort.partition lt d a e pv).1:Nat) : Int),Bo (Sort.partition lt d a e pv).2.1]) M') →
 c [sv b d.size 3,N .i64 (a:Int),N .i64 (e:Int),N .i64 (pv:Int),fv] M Q
theorem aao {T:Nat} {fv:AV} {lt:bK→bK→Bool} {cv:FuncId→aj} (hl:oF aZ lt (bT cv fv)) : abq T fv lt fun args M Q=>∃ a0 a1 a2 a3 a4,args=[a0,a1,a2,a3,a4]∧jM cv a0 a1 a2 a3 a4 M Q:=by
 intro M b a e pv d Q hat hsz hap hpe he hQ
 refine⟨_,_,_,_,_,rfl, ?_⟩
 unfold jM
 simp only[fB,dY,eP]
 have hs2:=bP d a pv
 rw[xu] at hQ
 rw[hat.rd (z:=3) rfl rfl (by omega),hat.rd (z:=3) rfl rfl (by omega)]
 refine hat.swap (z:=3) rfl rfl (by omega) (by omega) fun M2 h2 k2=>?_
 rw[add1 (by omega),bu (by omega) (by omega)]
 generalize Sort.swp d a pv=d2 at *
 refine zT (P:=fun M'=>At aZ T b d2 M'∧ag [b] M M') (p:=fun x=>lt x d2[a]!) (d:=d2) (J:=e - 1) ⟨h2,k2⟩ fun gT i M3 ⟨h3,k3⟩ h0 h1 hgo hstop=>?_
 dsimp only[aa]
 rw[jR]
 refine pR (P:=fun M'=>At aZ T b d2 M'∧ag [b] M M') (p:=lt d2[i]! d2[a]!) ⟨h3,k3⟩ (fun hc k hk=>?_) fun M4 h4=>?_
 ·have hc:i≤e - 1:=of_decide_eq_true hc
  rw[h3.rd (z:=3) rfl hs2.symm (by omega),h3.rd (z:=3) rfl hs2.symm (by omega)]
  exact hl.use fun M5 k5=>hk M5 ⟨h3.keep k5,k3.trans (k5.mono (cs:=[b]) (by simp))⟩
 refine aG (fun h=>?_) (fun h=>?_)
 ·rw[add1 (by omega)]
  exact hgo h M4 h4
 have hi2:i=pI lt d2 a e:=hstop h
 have Fh:pJ lt d2 a e=Sort.scanDown (fun x=>!lt x d2[a]!) d2 (pI lt d2 a e) (e - 1):=rfl
 have Fz:pL lt d2 a e=Sort.partLoop lt a (pI lt d2 a e + 1) (pJ lt d2 a e - 1) (Sort.swp d2 (pI lt d2 a e) (pJ lt d2 a e)):=rfl
 rw[← hi2] at Fh Fz hQ
 refine uU (P:=fun M'=>At aZ T b d2 M'∧ag [b] M M') (p:=fun x=>!lt x d2[a]!) (d:=d2) (i:=i) h4 (by omega) fun qp j M5 ⟨h5,k5⟩ q0 q1 qN kE=>?_
 dsimp only[aa]
 rw[jR]
 refine pR (P:=fun M'=>At aZ T b d2 M'∧ag [b] M M') (p:=!lt d2[j]! d2[a]!) ⟨h5,k5⟩ (fun hc k hk=>?_) fun M6 ⟨h6,k6⟩=>?_
 ·have hc:i≤j:=of_decide_eq_true hc
  rw[h5.rd (z:=3) rfl hs2.symm (by omega),h5.rd (z:=3) rfl hs2.symm (by omega)]
  refine hl.use fun M7 k7=>?_
  rw[bH]
  exact hk M7 ⟨h5.keep k7,k5.trans (k7.mono (cs:=[b]) (by simp))⟩
 refine aG (fun h=>?_) (fun h=>?_)
 ·have hc:i≤j:=by
   rw[Bool.and_eq_true] at h
   exact of_decide_eq_true h.1
  rw[bu (by omega) (by omega)]
  exact qN h M6 ⟨h6,k6⟩
 have hj2:=kE h
 rw[← hj2] at Fh
 rw[Fh] at Fz hQ
 rw[pG]
 refine aG (fun hg=>?_) (fun hg=>?_)
 ·rw[if_pos (of_decide_eq_true hg)] at hQ
  rw[h6.rd (z:=3) rfl hs2.symm (by omega),h6.rd (z:=3) rfl hs2.symm (by omega)]
  exact h6.swap (z:=3) rfl hs2.symm (by omega) (by omega) fun M7 h7 k7=>hQ M7 h7 (k6.trans k7)
 have hg:¬ i > j:=of_decide_eq_false hg
 rw[if_neg hg] at hQ
 rw[h6.rd (z:=3) rfl hs2.symm (by omega),h6.rd (z:=3) rfl hs2.symm (by omega)]
 refine h6.swap (z:=3) rfl hs2.symm (by omega) (by omega) fun M7 h7 k7=>?_
 rw[add1 (by omega),bu (by omega) (by omega)]
 generalize pL lt d2 a e=R at *
 refine aI (fun m ys M3=>∃ (i j:Nat) (d3:Array bK),m=j + 1 - i∧ys=[N .i64 (i:Int),N .i64 (j:Int)]∧a + 1≤i∧i≤e + 1∧j<e∧At aZ T b d3 M3∧ag [b] M M3∧d3.size=d.size∧R=Sort.partLoop lt a i j d3) _ ⟨i + 1,j - 1,_,rfl,rfl,by omega,by omega,by omega,h7,k6.trans k7,by rw[bP,hs2],Fz⟩ ?_
 rintro next m ys M3 hnext ⟨i,j,d3,rfl,rfl,hai,hie,hje,h3,k3,hs3,hm⟩
 dsimp only[aa]
 rw[Sort.partLoop] at hm
 refine zT (P:=fun M'=>At aZ T b d3 M'∧ag [b] M M') (p:=fun x=>lt x d3[a]!) (d:=d3) (J:=j) ⟨h3,k3⟩ fun gT i2 M4 ⟨h4,k4⟩ h0 h1 hgo hstop=>?_
 dsimp only[aa]
 rw[jR]
 refine pR (P:=fun M'=>At aZ T b d3 M'∧ag [b] M M') (p:=lt d3[i2]! d3[a]!) ⟨h4,k4⟩ (fun hc k hk=>?_) fun M5 h5=>?_
 ·have hc:i2≤j:=of_decide_eq_true hc
  rw[h4.rd (z:=3) rfl hs3.symm (by omega),h4.rd (z:=3) rfl hs3.symm (by omega)]
  exact hl.use fun M5 k5=>hk M5 ⟨h4.keep k5,k4.trans (k5.mono (cs:=[b]) (by simp))⟩
 refine aG (fun h=>?_) (fun h=>?_)
 ·rw[add1 (by omega)]
  exact hgo h M5 h5
 have hi2:=hstop h
 rw[← hi2] at hm
 refine uU (P:=fun M'=>At aZ T b d3 M'∧ag [b] M M') (p:=fun x=>!lt x d3[a]!) (d:=d3) (i:=i2) h5 (by omega) fun qp j2 M6 ⟨h6,k6⟩ q0 q1 qN kE=>?_
 dsimp only[aa]
 rw[jR]
 refine pR (P:=fun M'=>At aZ T b d3 M'∧ag [b] M M') (p:=!lt d3[j2]! d3[a]!) ⟨h6,k6⟩ (fun hc k hk=>?_) fun M7 ⟨h7,k7⟩=>?_
 ·have hc:i2≤j2:=of_decide_eq_true hc
  rw[h6.rd (z:=3) rfl hs3.symm (by omega),h6.rd (z:=3) rfl hs3.symm (by omega)]
  refine hl.use fun M8 k8=>?_
  rw[bH]
  exact hk M8 ⟨h6.keep k8,k6.trans (k8.mono (cs:=[b]) (by simp))⟩
 refine aG (fun h=>?_) (fun h=>?_)
 ·have hc:i2≤j2:=by
   rw[Bool.and_eq_true] at h
   exact of_decide_eq_true h.1
  rw[bu (by omega) (by omega)]
  exact qN h M7 ⟨h7,k7⟩
 have hj2:=kE h
 simp only[← hj2] at hm
 rw[pG]
 refine aG (fun hg=>?_) (fun hg=>?_)
 ·rw[if_pos (of_decide_eq_true hg)] at hm
  rw[hm] at hQ
  rw[h7.rd (z:=3) rfl hs3.symm (by omega),h7.rd (z:=3) rfl hs3.symm (by omega)]
  exact h7.swap (z:=3) rfl hs3.symm (by omega) (by omega) fun M8 h8 k8=>hQ M8 h8 (k7.trans k8)
 ·have hg:¬ i2 > j2:=of_decide_eq_false hg
  rw[if_neg hg,dif_pos (by omega)] at hm
  rw[h7.rd (z:=3) rfl hs3.symm (by omega),h7.rd (z:=3) rfl hs3.symm (by omega)]
  refine h7.swap (z:=3) rfl hs3.symm (by omega) (by omega) fun M8 h8 k8=>?_
  rw[add1 (by omega),bu (by omega) (by omega)]
  exact hnext _ _ _ (by omega) ⟨i2 + 1,j2 - 1,_,rfl,rfl,by omega,by omega,by omega,h8,k7.trans k8,by rw[bP,hs3],hm⟩
def OL (T TI b s:Nat) (d:Array bK) (k:Nat) (M:RM) : Prop:=At aZ T b d M∧M.heap s=some (.row [N .i64 (k:Int)] false TI 0)∧s<M.next
def PP (T TI:Nat) (fv:AV) (lt:bK→bK→Bool) (c:aj) : Prop:=∀ {M:RM} {b s k i j:Nat} {d:Array bK} {Q:ak},OL T TI b s d k M→s≠b→i<d.size→j<d.size→k≤1000 →
 (∀ M',OL T TI b s d (Sort.order2 lt d i j k).2.2 M'→ag [s] M M'→Q (.tup [N .i64 (((Sort.order2 lt d i j k).1:Nat) : Int),N .i64 (((Sort.order2 lt d i j k).2.1:Nat) : Int)]) M')→c [sv b d.size 3,N .i64 (i:Int),N .i64 (j:Int),.ptr s 0,fv] M Q
theorem O5 {T TI:Nat} {fv:AV} {lt:bK→bK→Bool} {cv:FuncId→aj} (hl:oF aZ lt (bT cv fv)) : PP T TI fv lt fun args M Q=>∃ a0 a1 a2 a3 a4,args=[a0,a1,a2,a3,a4]∧lL cv a0 a1 a2 a3 a4 M Q:=by
 intro M b s k i j d Q ⟨hat,hh,hlt⟩ hsb hi hj hk hQ
 refine⟨_,_,_,_,_,rfl, ?_⟩
 unfold lL
 rw[hat.rd (z:=3) rfl rfl (by omega),hat.rd (z:=3) rfl rfl (by omega)]
 refine hl.use fun M1 k1=>?_
 have h1:=hat.keep k1
 have hh1:=k1.aP hh hlt (by simp)
 have n1:=k1.next
 unfold Sort.order2 at hQ
 refine aG (fun h=>?_) (fun h=>?_)
 ·rw[if_pos h] at hQ
  rw[aM,az hh1 rfl,add1 (by omega),aM,fG hh1 (by simp) rfl rfl]
  have kk:ag [s] M1 (M1.put s (.row ([N .i64 (k:Int)].set 0 (N .i64 ((k + 1:Nat) : Int))) false TI 0)):=(ag.refl _ _).put _ (.inr (by simp))
  refine hQ _ ⟨h1.keep' kk (by simp; omega),aR _,by rw[lX]; omega⟩ ((k1.mono (by simp)).trans kk)
 ·rw[if_neg (by rw[h]; decide)] at hQ
  exact hQ M1 ⟨h1,hh1,by omega⟩ (k1.mono (by simp))
def Jg (T TI:Nat) (fv:AV) (lt:bK→bK→Bool) (c:aj) : Prop:=∀ {M:RM} {b s k i j h:Nat} {d:Array bK} {Q:ak},OL T TI b s d k M→s≠b→i<d.size→j<d.size→h<d.size→k≤900 →
 (∀ M',OL T TI b s d (Sort.median lt d i j h k).2 M'→ag [s] M M'→Q (N .i64 (((Sort.median lt d i j h k).1:Nat) : Int)) M')→c [sv b d.size 3,N .i64 (i:Int),N .i64 (j:Int),N .i64 (h:Int),.ptr s 0,fv] M Q
theorem IY {T TI:Nat} {fv:AV} {lt:bK→bK→Bool} {c2:aj} (h2:PP T TI fv lt c2) : Jg T TI fv lt fun args M Q=>∃ a0 a1 a2 a3 a4 a5,args=[a0,a1,a2,a3,a4,a5]∧lK c2 a0 a1 a2 a3 a4 a5 M Q:=by
 intro M b s k i j h d Q hsw hsb hi hj hh hk hQ
 refine⟨_,_,_,_,_,_,rfl, ?_⟩
 unfold lK
 unfold Sort.median at hQ
 have o1:=uL lt d i j k
 refine h2 hsw hsb hi hj (by omega) fun M1 s1 k1=>?_
 rw[lM,lH]
 dsimp only at hQ
 generalize Sort.order2 lt d i j k=r1 at *
 have o2:=uL lt d r1.2.1 h r1.2.2
 refine h2 s1 hsb (by omega) hh (by omega) fun M2 s2 k2=>?_
 rw[lM,lH]
 generalize Sort.order2 lt d r1.2.1 h r1.2.2=r2 at *
 refine h2 s2 hsb (by omega) (by omega) (by omega) fun M3 s3 k3=>?_
 rw[lM,lH]
 exact hQ M3 s3 ((k1.trans k2).trans k3)
def PE (T TI:Nat) (fv:AV) (lt:bK→bK→Bool) (c:aj) : Prop:=∀ {M:RM} {b s k i:Nat} {d:Array bK} {Q:ak},OL T TI b s d k M→s≠b→d.size≤60000→1≤i→i + 1<d.size→k≤900 →
 (∀ M',OL T TI b s d (Sort.medianAdjacent lt d i k).2 M'→ag [s] M M'→Q (N .i64 (((Sort.medianAdjacent lt d i k).1:Nat) : Int)) M')→c [sv b d.size 3,N .i64 (i:Int),.ptr s 0,fv] M Q
theorem Pb {T TI:Nat} {fv:AV} {lt:bK→bK→Bool} {cm:aj} (hm:Jg T TI fv lt cm) : PE T TI fv lt fun args M Q=>∃ a0 a1 a2 a3,args=[a0,a1,a2,a3]∧iF cm a0 a1 a2 a3 M Q:=by
 intro M b s k i d Q hsw hsb hsz h1 h2 hk hQ
 refine⟨_,_,_,_,rfl, ?_⟩
 unfold iF
 rw[bu (by omega) (by omega),add1 (by omega)]
 exact hm hsw hsb (by omega) (by omega) (by omega) hk fun M1 s1 k1=>hQ M1 s1 k1
def Ea (lt:bK→bK→Bool) (d:Array bK) (a e:Nat) : Nat × Nat :=
 if e - a ≥ 8 then(if e - a ≥ 50 then Sort.median lt d (Sort.medianAdjacent lt d (a + (e - a) / 4 * 1) 0).1 (Sort.medianAdjacent lt d (a + (e - a) / 4 * 2) (Sort.medianAdjacent lt d (a + (e - a) / 4 * 1) 0).2).1 (Sort.medianAdjacent lt d (a + (e - a) / 4 * 3) (Sort.medianAdjacent lt d (a + (e - a) / 4 * 2) (Sort.medianAdjacent lt d (a + (e - a) / 4 * 1) 0).2).2).1 (Sort.medianAdjacent lt d (a + (e - a) / 4 * 3) (Sort.medianAdjacent lt d (a + (e - a) / 4 * 2) (Sort.medianAdjacent lt d (a + (e - a) / 4 * 1) 0).2).2).2
  else Sort.median lt d (a + (e - a) / 4 * 1) (a + (e - a) / 4 * 2) (a + (e - a) / 4 * 3) 0) else(a + (e - a) / 4 * 2,0)
theorem afo (lt:bK→bK→Bool) (d:Array bK) (a e:Nat) : Sort.choosePivot lt d a e=((Ea lt d a e).1,if (Ea lt d a e).2=0 then .increasing else if (Ea lt d a e).2=12 then .decreasing else .unknown):=rfl
def Qs (T:Nat) (fv:AV) (lt:bK→bK→Bool) (c:aj) : Prop:=∀ {M:RM} {b a e:Nat} {d:Array bK} {Q:ak},At aZ T b d M→d.size≤60000→a<e→e≤d.size →
 (∀ M',At aZ T b d M'→ag [] M M'→Q (.tup [N .i64 (((Sort.choosePivot lt d a e).1:Nat) : Int),N .i64 (mr (Sort.choosePivot lt d a e).2)]) M')→c [sv b d.size 3,N .i64 (a:Int),N .i64 (e:Int),fv] M Q
theorem Qh {T TI:Nat} {fv:AV} {lt:bK→bK→Bool} {ca cm:aj} (ha:PE T TI fv lt ca) (hm:Jg T TI fv lt cm) : Qs T fv lt fun args M Q=>∃ a0 a1 a2 a3,args=[a0,a1,a2,a3]∧jg TI ca cm a0 a1 a2 a3 M Q:=by
 intro M b a e d Q hat hsz hae he hQ
 refine⟨_,_,_,_,rfl, ?_⟩
 unfold jg
 simp only[bR]
 rw[dM (by omega) (by omega),bB]
 have kk:ag [] M (M.push (.row [N .i64 0] false TI 0)):=(ag.refl _ _).push _
 have sw0:OL T TI b M.next d 0 (M.push (.row [N .i64 0] false TI 0)):=⟨hat.keep kk,RM.aS _,by simp[RM.push]⟩
 have hsb:M.next≠b:=by have:=hat.lt; omega
 have back:∀ M',ag [M.next] (M.push (.row [N .i64 0] false TI 0)) M'→ag [] M M':=fun M' k=>kk.dK k fun c hc=>.inl (by simp at hc; omega)
 generalize M.push (.row [N .i64 0] false TI 0)=M1 at *
 generalize M.next=s at *
 have hq:∀ (k:Nat) (c:Int),c=(k:Int)→k≤3→∀ (K:AV→Prop),(ae .quo (N .i64 ((e - a:Nat) : Int)) (N .i64 4) fun t18=>ae .mul t18 (N .i64 c) fun t19=>ae .add (N .i64 (a:Int)) t19 K)=K (N .i64 ((a + (e - a) / 4 * k:Nat) : Int)):=fun k c hc hk K=>by
  subst hc
  have hb:(e - a) / 4 * k≤(e - a) * 3:=Nat.mul_le_mul (Nat.div_le_self _ _) hk
  rw[lc,show(4:Int)=((4:Nat) : Int) from rfl,oU,aW (by omega) (by omega),uO,← Int.natCast_mul,aW (by omega) (by omega),addN (by omega)]
  exact propext ⟨fun h=>h.2,fun h=>⟨by decide,h⟩⟩
 rw[hq 1 1 rfl (by omega),hq 2 2 rfl (by omega),hq 3 3 rfl (by omega)]
 rw[afo] at hQ
 have hr:Ea lt d a e=Ea lt d a e:=rfl
 conv at hr=>rhs; unfold Ea
 generalize Ea lt d a e=r at *
 refine aY (fun zs M'=>zs=[N .i64 ((r.1:Nat) : Int)]∧OL T TI b s d r.2 M'∧ag [s] M1 M') ?_ ?_
 ·rintro zs M' ⟨rfl,⟨h3,hh,_⟩,k3⟩
  dsimp only[aa]
  have:=hQ M' h3 (back M' k3)
  rw[az hh rfl,bU]
  by_cases h0:r.2=0
  ·rw[show((r.2:Int) == 0)=true by rw[h0]; rfl,dD]
   rw[if_pos h0] at this
   exact this
  ·rw[show((r.2:Int) == 0)=false by rw[beq_eq_false_iff_ne]; omega,bD,bU]
   rw[if_neg h0] at this
   by_cases h12:r.2=12
   ·rw[show((r.2:Int) == 12)=true by rw[h12]; rfl,dD]
    rw[if_pos h12] at this
    exact this
   ·rw[show((r.2:Int) == 12)=false by rw[beq_eq_false_iff_ne]; omega,bD]
    rw[if_neg h12] at this
    exact this
 intro J hJ
 rw[show(8:Int)=((8:Nat) : Int) from rfl,ja]
 refine aG (fun h8=>?_) (fun h8=>?_)
 ·have h8:e - a ≥ 8:=of_decide_eq_true h8
  rw[if_pos h8] at hr
  refine aY (fun zs M'=>∃ x y z k:Nat,zs=[N .i64 (x:Int),N .i64 (y:Int),N .i64 (z:Int)]∧OL T TI b s d k M'∧ag [s] M1 M'∧x<d.size∧y<d.size∧z<d.size∧k≤900∧r=Sort.median lt d x y z k) ?_ ?_
  ·rintro zs M' ⟨x,y,z,k,rfl,s3,k3,hx,hy,hz,hk,rfl⟩
   dsimp only[aa]
   exact hm s3 hsb hx hy hz hk fun M4 s4 k4=>hJ _ _ ⟨rfl,s4,k3.trans k4⟩
  intro J0 hJ0
  rw[show(50:Int)=((50:Nat) : Int) from rfl,ja]
  refine aG (fun h50=>?_) (fun h50=>?_)
  ·have h50:e - a ≥ 50:=of_decide_eq_true h50
   rw[if_pos h50] at hr
   have m1:=xw lt d (i:=a + (e - a) / 4 * 1 - 1) (j:=a + (e - a) / 4 * 1) (h:=a + (e - a) / 4 * 1 + 1) (k:=0) (n:=d.size) (by omega) (by omega) (by omega)
   have r1:(Sort.medianAdjacent lt d (a + (e - a) / 4 * 1) 0).1<d.size∧(Sort.medianAdjacent lt d (a + (e - a) / 4 * 1) 0).2≤0 + 3:=m1
   refine ha sw0 hsb hsz (by omega) (by omega) (by omega) fun M2 s2 k2=>?_
   generalize Sort.medianAdjacent lt d (a + (e - a) / 4 * 1) 0=q1 at *
   have m2:=xw lt d (i:=a + (e - a) / 4 * 2 - 1) (j:=a + (e - a) / 4 * 2) (h:=a + (e - a) / 4 * 2 + 1) (k:=q1.2) (n:=d.size) (by omega) (by omega) (by omega)
   have r2:(Sort.medianAdjacent lt d (a + (e - a) / 4 * 2) q1.2).1<d.size∧(Sort.medianAdjacent lt d (a + (e - a) / 4 * 2) q1.2).2≤q1.2 + 3:=m2
   refine ha s2 hsb hsz (by omega) (by omega) (by omega) fun M3 s3 k3=>?_
   generalize Sort.medianAdjacent lt d (a + (e - a) / 4 * 2) q1.2=q2 at *
   have m3:=xw lt d (i:=a + (e - a) / 4 * 3 - 1) (j:=a + (e - a) / 4 * 3) (h:=a + (e - a) / 4 * 3 + 1) (k:=q2.2) (n:=d.size) (by omega) (by omega) (by omega)
   have r3:(Sort.medianAdjacent lt d (a + (e - a) / 4 * 3) q2.2).1<d.size∧(Sort.medianAdjacent lt d (a + (e - a) / 4 * 3) q2.2).2≤q2.2 + 3:=m3
   refine ha s3 hsb hsz (by omega) (by omega) (by omega) fun M4 s4 k4=>?_
   generalize Sort.medianAdjacent lt d (a + (e - a) / 4 * 3) q2.2=q3 at *
   exact hJ0 _ _ ⟨q1.1,q2.1,q3.1,q3.2,rfl,s4,(k2.trans k3).trans k4,r1.1,r2.1,r3.1,by omega,hr⟩
  ·have h50:¬ e - a ≥ 50:=of_decide_eq_false h50
   rw[if_neg h50] at hr
   exact hJ0 _ _ ⟨_,_,_,0,rfl,sw0,ag.refl _ _,by omega,by omega,by omega,by omega,hr⟩
 ·have h8:¬ e - a ≥ 8:=of_decide_eq_false h8
  rw[if_neg h8] at hr
  subst hr
  exact hJ _ _ ⟨rfl,sw0,ag.refl _ _⟩
def Lu (T:Nat) (fv:AV) (lt:bK→bK→Bool) (c:aj) : Prop:=∀ {M:RM} {b a e:Nat} {d:Array bK} {Q:ak},At aZ T b d M→d.size≤60000→a<e→e≤d.size→(∀ M',At aZ T b (Sort.partialInsertionSort lt d a e).1 M'→ag [b] M M'→Q (Bo (Sort.partialInsertionSort lt d a e).2) M') →
 c [sv b d.size 3,N .i64 (a:Int),N .i64 (e:Int),fv] M Q
theorem KL {T:Nat} {fv:AV} {lt:bK→bK→Bool} {cv:FuncId→aj} (hl:oF aZ lt (bT cv fv)) : Lu T fv lt fun args M Q=>∃ a0 a1 a2 a3,args=[a0,a1,a2,a3]∧fU cv a0 a1 a2 a3 M Q:=by
 intro M b a e d Q hat hsz hae he hQ
 refine⟨_,_,_,_,rfl, ?_⟩
 unfold fU
 simp only[fB,dY,eP,bR]
 rw[add1 (by omega)]
 unfold Sort.partialInsertionSort at hQ
 obtain⟨R,hR⟩ : ∃ R,R=Sort.partialIns lt a e 5 (a + 1) d:=⟨_,rfl⟩
 rw[← hR] at hQ
 refine aI (fun m ys M3=>∃ (i s:Nat) (d3:Array bK),m=s∧s≤5∧ys=[N .i64 (i:Int),N .i64 ((5 - s:Nat) : Int)]∧a + 1≤i∧i≤e∧At aZ T b d3 M3∧ag [b] M M3∧d3.size=d.size∧R=Sort.partialIns lt a e s i d3) _ ⟨a + 1,5,d,rfl,by omega,rfl,by omega,by omega,hat,ag.refl _ _,rfl,hR⟩ ?_
 rintro next m ys M3 hnext ⟨i,s,d3,hms,hs5,rfl,hai,hie,h3,k3,hs3,hm⟩
 dsimp only[aa]
 rw[show(5:Int)=((5:Nat) : Int) from rfl,ed]
 refine aG (fun hg=>?_) (fun hg=>?_)
 ·have hg:5 - s<5:=of_decide_eq_true hg
  obtain⟨s',rfl⟩ : ∃ s',s=s' + 1:=⟨s - 1,by omega⟩
  rw[vU] at hm
  refine aY (fun zs M'=>∃ (i' : Nat) (d4:Array bK),zs=[N .i64 (i' : Int)]∧a + 1≤i'∧i'≤e∧At aZ T b d4 M'∧ag [b] M M'∧d4.size=d.size∧R=Sort.partialIns lt a e s' i' d4) ?_ ?_
  ·rintro zs M' ⟨i',d4,rfl,h1,h2,h4,k4,h5,h6⟩
   dsimp only[aa]
   rw[add1 (by omega)]
   exact hnext _ _ _ (by omega) ⟨i',s',d4,rfl,by omega,by congr 4; omega,h1,h2,h4,k4,h5,h6⟩
  intro J hJ
  obtain⟨R5,hR5⟩ : ∃ R5,R5=Sort.scanSorted lt d3 e i:=⟨_,rfl⟩
  rw[← hR5] at hm
  refine aI (fun m ys M5=>∃ (j:Nat),m=e - j∧ys=[N .i64 (j:Int)]∧i≤j∧j≤e∧At aZ T b d3 M5∧ag [b] M M5∧R5=Sort.scanSorted lt d3 e j) _ ⟨i,rfl,rfl,Nat.le_refl _,hie,h3,k3,hR5⟩ ?_
  rintro gT m ys M5 dH ⟨j,rfl,rfl,hij,hje,h5,k5,hm5⟩
  dsimp only[aa]
  rw[Sort.scanSorted] at hm5
  rw[ed]
  refine pR (P:=fun M'=>At aZ T b d3 M'∧ag [b] M M') (p:=!lt d3[j]! d3[j - 1]!) ⟨h5,k5⟩ (fun hc k hk=>?_) fun M6 ⟨h6,k6⟩=>?_
  ·have hc:j<e:=of_decide_eq_true hc
   rw[h5.rd (z:=3) rfl hs3.symm (by omega),bu (by omega) (by omega),h5.rd (z:=3) rfl hs3.symm (by omega)]
   refine hl.use fun M7 k7=>?_
   rw[bH]
   exact hk M7 ⟨h5.keep k7,k5.trans (k7.mono (cs:=[b]) (by simp))⟩
  refine aG (fun h=>?_) (fun h=>?_)
  ·have hc:j<e:=by
    rw[Bool.and_eq_true] at h
    exact of_decide_eq_true h.1
   rw[if_pos h] at hm5
   rw[add1 (by omega)]
   exact dH _ _ _ (by omega) ⟨j + 1,rfl,rfl,by omega,by omega,h6,k6,hm5⟩
  rw[if_neg (by rw[h]; decide)] at hm5
  subst hm5
  rw[Qv]
  refine aG (fun qZ=>?_) (fun qZ=>?_)
  ·rw[if_pos (of_decide_eq_true qZ)] at hm
   rw[hm] at hQ
   exact hQ M6 h6 k6
  have qZ:¬ R5=e:=of_decide_eq_false qZ
  rw[if_neg qZ] at hm
  rw[dM (by omega) (by omega),show(50:Int)=((50:Nat) : Int) from rfl,ed]
  refine aG (fun h50=>?_) (fun h50=>?_)
  ·rw[if_pos (of_decide_eq_true h50)] at hm
   rw[hm] at hQ
   exact hQ M6 h6 k6
  rw[if_neg (of_decide_eq_false h50)] at hm
  rw[bu (by omega) (by omega),bu (by omega) (by omega),h6.rd (z:=3) rfl hs3.symm (by omega),h6.rd (z:=3) rfl hs3.symm (by omega)]
  refine h6.swap (z:=3) rfl hs3.symm (by omega) (by omega) fun M7 h7 k7'=>?_
  have k7:=k6.trans k7'
  have hs6:(Sort.swp d3 R5 (R5 - 1)).size=d.size:=by rw[bP,hs3]
  generalize Sort.swp d3 R5 (R5 - 1)=d6 at *
  refine aY (fun zs M'=>zs=[]∧At aZ T b (if R5 - a ≥ 2 then Sort.shiftDown lt (R5 - 1) d6 else d6) M'∧ag [b] M M') ?_ ?_
  ·rintro zs M8 ⟨rfl,h8,k8⟩
   have hs7:(if R5 - a ≥ 2 then Sort.shiftDown lt (R5 - 1) d6 else d6).size=d.size:=by
    split
    ·rw[xX,hs6]
    ·exact hs6
   generalize (if R5 - a ≥ 2 then Sort.shiftDown lt (R5 - 1) d6 else d6)=d7 at *
   rw[dM (by omega) (by omega),show(2:Int)=((2:Nat) : Int) from rfl,ja]
   refine aG (fun h2=>?_) (fun h2=>?_)
   ·rw[if_pos (of_decide_eq_true h2)] at hm
    rw[add1 (by omega)]
    obtain⟨R8,hR8⟩ : ∃ R8,R8=Sort.shiftUp lt e (R5 + 1) d7:=⟨_,rfl⟩
    rw[← hR8] at hm
    refine aI (fun m ys M8=>∃ (j:Nat) (d8:Array bK),m=e - j∧ys=[N .i64 (j:Int)]∧R5 + 1≤j∧j≤e∧At aZ T b d8 M8∧ag [b] M M8∧d8.size=d.size∧R8=Sort.shiftUp lt e j d8) _ ⟨R5 + 1,d7,rfl,rfl,Nat.le_refl _,by omega,h8,k8,hs7,hR8⟩ ?_
    rintro qp m ys M9 rG ⟨j,d8,rfl,rfl,hj1,hj2,h9,k9,dZ,hm8⟩
    dsimp only[aa]
    rw[Sort.shiftUp] at hm8
    rw[ed]
    refine aG (fun hl1=>?_) (fun hl1=>?_)
    ·have hl1:j<e:=of_decide_eq_true hl1
     rw[if_pos hl1] at hm8
     rw[h9.rd (z:=3) rfl dZ.symm (by omega),bu (by omega) (by omega),h9.rd (z:=3) rfl dZ.symm (by omega)]
     refine hl.use fun M10 ru=>?_
     have h10:=h9.keep ru
     have k10:=k9.trans (ru.mono (cs:=[b]) (by simp))
     rw[bH]
     refine aG (fun hn=>?_) (fun hn=>?_)
     ·rw[if_pos hn] at hm8
      subst hm8
      exact hJ _ _ ⟨R5,R8,rfl,by omega,by omega,h10,k10,dZ,hm⟩
     ·rw[if_neg (by rw[hn]; decide)] at hm8
      rw[bu (by omega) (by omega),bu (by omega) (by omega),h10.rd (z:=3) rfl dZ.symm (by omega),h10.rd (z:=3) rfl dZ.symm (by omega)]
      refine h10.swap (z:=3) rfl dZ.symm (by omega) (by omega) fun M11 h11 k11=>?_
      rw[add1 (by omega)]
      exact rG _ _ _ (by omega) ⟨j + 1,_,rfl,rfl,by omega,by omega,h11,k10.trans k11,by rw[bP,dZ],hm8⟩
    ·rw[if_neg (of_decide_eq_false hl1)] at hm8
     subst hm8
     exact hJ _ _ ⟨R5,R8,rfl,by omega,by omega,h9,k9,dZ,hm⟩
   ·rw[if_neg (of_decide_eq_false h2)] at hm
    exact hJ _ _ ⟨R5,d7,rfl,by omega,by omega,h8,k8,hs7,hm⟩
  intro J2 hJ2
  rw[dM (by omega) (by omega),show(2:Int)=((2:Nat) : Int) from rfl,ja]
  refine aG (fun h2=>?_) (fun h2=>?_)
  ·rw[if_pos (of_decide_eq_true h2)] at hJ2
   rw[bu (by omega) (by omega)]
   obtain⟨R8,hR8⟩ : ∃ R8,R8=Sort.shiftDown lt (R5 - 1) d6:=⟨_,rfl⟩
   rw[← hR8] at hJ2
   refine aI (fun m ys M8=>∃ (j:Nat) (d8:Array bK),m=j + 1∧ys=[N .i64 (j:Int)]∧j<R5∧At aZ T b d8 M8∧ag [b] M M8∧d8.size=d.size∧R8=Sort.shiftDown lt j d8) _ ⟨R5 - 1,d6,rfl,rfl,by omega,h7,k7,hs6,hR8⟩ ?_
   rintro qp m ys M8 rG ⟨j,d8,rfl,rfl,hj1,h8,k8,dZ,hm8⟩
   dsimp only[aa]
   rw[show(1:Int)=((1:Nat) : Int) from rfl,ja]
   refine aG (fun hl1=>?_) (fun hl1=>?_)
   ·have hl1:j ≥ 1:=of_decide_eq_true hl1
    obtain⟨j',rfl⟩ : ∃ j',j=j' + 1:=⟨j - 1,by omega⟩
    rw[Sort.shiftDown] at hm8
    rw[h8.rd (z:=3) rfl dZ.symm (by omega),dM (by omega) (by omega),Nat.add_sub_cancel,h8.rd (z:=3) rfl dZ.symm (by omega)]
    refine hl.use fun M10 ru=>?_
    have h10:=h8.keep ru
    have k10:=k8.trans (ru.mono (cs:=[b]) (by simp))
    rw[bH]
    refine aG (fun hn=>?_) (fun hn=>?_)
    ·rw[if_pos hn] at hm8
     subst hm8
     exact hJ2 _ _ ⟨rfl,h10,k10⟩
    ·rw[if_neg (by rw[hn]; decide)] at hm8
     rw[dM (by omega) (by omega),dM (by omega) (by omega),Nat.add_sub_cancel,h10.rd (z:=3) rfl dZ.symm (by omega),h10.rd (z:=3) rfl dZ.symm (by omega)]
     refine h10.swap (z:=3) rfl dZ.symm (by omega) (by omega) fun M11 h11 k11=>?_
     rw[dM (by omega) (by omega),Nat.add_sub_cancel]
     exact rG _ _ _ (by omega) ⟨j',_,rfl,rfl,by omega,h11,k10.trans k11,by rw[bP,dZ],hm8⟩
   ·have hl1:¬ j ≥ 1:=of_decide_eq_false hl1
    have h0:j=0:=by omega
    subst h0
    rw[Sort.shiftDown] at hm8
    subst hm8
    exact hJ2 _ _ ⟨rfl,h8,k8⟩
  ·rw[if_neg (of_decide_eq_false h2)] at hJ2
   exact hJ2 _ _ ⟨rfl,h7,k7⟩
 ·have hg:¬ 5 - s<5:=of_decide_eq_false hg
  have h0:s=0:=by omega
  subst h0
  rw[Sort.partialIns] at hm
  rw[hm] at hQ
  exact hQ M3 h3 k3
theorem WC {T TX:Nat} {fv:AV} {cp cx:aj} (hp:Un cp) (hx:abA TX cx) : SortG aZ T 3 fv Sort.breakPatterns (fun _ _ _=>True) fun args M Q=>∃ a0 a1 a2 a3,args=[a0,a1,a2,a3]∧iM TX cp cx a0 a1 a2 a3 M Q:=by
 intro M b a e d Q hat hsz hae he _ hQ
 refine⟨_,_,_,_,rfl, ?_⟩
 unfold iM
 simp only[bR]
 rw[dM hae (by omega),show(8:Int)=((8:Nat) : Int) from rfl,ja]
 unfold Sort.breakPatterns at hQ
 refine aG (fun h8=>?_) (fun h8=>?_)
 ·have h8:e - a ≥ 8:=of_decide_eq_true h8
  rw[if_pos h8] at hQ
  have hbl:=xg (x:=e - a) (by omega) (by omega)
  rw[nJ,je (by omega) (by omega),bB]
  have kk:ag [] M (M.push (.row [(N .u64 0)] false TX 0)):=(ag.refl _ _).push _
  have hsb:M.next≠b:=by have:=hat.lt; omega
  have hh0:(M.push (.row [(N .u64 0)] false TX 0)).heap M.next=some (.row [N .u64 0] false TX 0):=RM.aS _
  have Xg:(UInt64.ofNat (e - a)).toNat=e - a:=by rw[UInt64.toNat_ofNat']; omega
  have hn0:M.next<(M.push (.row [(N .u64 0)] false TX 0)).next:=by simp[RM.push]
  rw[fG hh0 (by simp) rfl rfl]
  have kS:ag [] M ((M.push (.row [(N .u64 0)] false TX 0)).put M.next (.row (([N .u64 0] : List AV).set 0 (N .u64 ((e - a:Nat) : Int))) false TX 0)):=kk.new _ (Nat.le_refl _)
  have hs1:((M.push (.row [(N .u64 0)] false TX 0)).put M.next (.row (([N .u64 0] : List AV).set 0 (N .u64 ((e - a:Nat) : Int))) false TX 0)).heap M.next=some (.row [N .u64 ((UInt64.ofNat (e - a)).toNat:Int)] false TX 0):=by
   rw[aR,Xg]; rfl
  have hn1:M.next<((M.push (.row [(N .u64 0)] false TX 0)).put M.next (.row (([N .u64 0] : List AV).set 0 (N .u64 ((e - a:Nat) : Int))) false TX 0)).next:=hn0
  generalize (M.push (.row [(N .u64 0)] false TX 0)).put M.next (.row (([N .u64 0] : List AV).set 0 (N .u64 ((e - a:Nat) : Int))) false TX 0)=M1 at *
  have aew:=hat.keep kS
  have back:∀ M',ag [b,M.next] M1 M'→ag [b] M M':=fun M' k=>(kS.mono (cs:=[b]) (by simp)).dK k fun c hc=>by simp at hc; rcases hc with h | h <;> simp[h]
  generalize M.next=s at *
  refine hp (by omega) (by omega) ?_
  have hq:∀ (c:Int),c=((2:Nat) : Int)→∀ (K:AV→Prop),(ae .quo (N .i64 ((e - a:Nat) : Int)) (N .i64 4) fun t18=>ae .mul t18 (N .i64 c) fun t19=>ae .add (N .i64 (a:Int)) t19 K)=K (N .i64 ((a + (e - a) / 4 * 2:Nat) : Int)):=fun c hc K=>by
   subst hc
   rw[lc,show(4:Int)=((4:Nat) : Int) from rfl,oU,aW (by omega) (by omega),uO,← Int.natCast_mul,aW (by omega) (by omega),addN (by omega)]
   exact propext ⟨fun h=>h.2,fun h=>⟨by decide,h⟩⟩
  rw[hq 2 rfl,bu (by omega) (by omega)]
  have UR:(Sort.breakStep a (e - a) (1 <<< Sort.bitsLen (e - a)) (Sort.breakStep a (e - a) (1 <<< Sort.bitsLen (e - a)) (Sort.breakStep a (e - a) (1 <<< Sort.bitsLen (e - a)) (UInt64.ofNat (e - a),d) (a + (e - a) / 4 * 2 - 1)) (a + (e - a) / 4 * 2 - 1 + 1)) (a + (e - a) / 4 * 2 - 1 + 2)).2=(tQ a (e - a) (2 ^ Sort.bitsLen (e - a)) (a + (e - a) / 4 * 2 - 1) d 3).2:=by
   rw[Nat.shiftLeft_eq,Nat.one_mul]; rfl
  have hQ:∀ M',At aZ T b (tQ a (e - a) (2 ^ Sort.bitsLen (e - a)) (a + (e - a) / 4 * 2 - 1) d 3).2 M'→ag [b] M M'→Q (.tup []) M':=fun M' h k=>hQ M' (by rw[UR]; exact h) k
  generalize hmd:2 ^ Sort.bitsLen (e - a)=md at *
  generalize hi0:a + (e - a) / 4 * 2 - 1=i0 at *
  refine aI (fun m ys M3=>∃ (k:Nat),m=3 - k∧k≤3∧ys=[N .i64 ((i0 + k:Nat) : Int)]∧At aZ T b (tQ a (e - a) md i0 d k).2 M3∧M3.heap s=some (.row [N .u64 ((tQ a (e - a) md i0 d k).1.toNat:Int)] false TX 0)∧s<M3.next∧ag [b,s] M1 M3) _ ⟨0,rfl,by omega,rfl,aew,hs1,hn1,ag.refl _ _⟩ ?_
  rintro next m ys M3 hnext ⟨k,rfl,hk,rfl,h3,hh3,hn3,k3⟩
  dsimp only[aa]
  have hsk:=Vo a (e - a) md i0 d k
  have Xd:tQ a (e - a) md i0 d (k + 1)=Sort.breakStep a (e - a) md (tQ a (e - a) md i0 d k) (i0 + k):=rfl
  generalize WI:tQ a (e - a) md i0 d k=st at *
  rw[hq 2 rfl,add1 (by omega),jR]
  refine aG (fun hg=>?_) (fun hg=>?_)
  ·have hg:i0 + k≤a + (e - a) / 4 * 2 + 1:=of_decide_eq_true hg
   refine aY (fun zs M'=>At aZ T b (tQ a (e - a) md i0 d (k + 1)).2 M'∧M'.heap s=some (.row [N .u64 ((tQ a (e - a) md i0 d (k + 1)).1.toNat:Int)] false TX 0)∧s<M'.next∧ag [b,s] M1 M') ?_ ?_
   ·rintro zs M' ⟨c1,c2,c3,c4⟩
    rw[add1 (by omega)]
    exact hnext _ _ _ (by omega) ⟨k + 1,rfl,by omega,rfl,c1,c2,c3,c4⟩
   intro J hJ
   refine hx hh3 hn3 fun M4 hh4 k4 n4=>?_
   have h4:=h3.keep' k4 (by simp; omega)
   rw[Xd] at hJ
   unfold Sort.breakStep at hJ
   dsimp only at hJ
   generalize Sort.xorNext st.1=r at *
   rw[ig,je (by omega) (by omega),show(md:Int) - 1=((md - 1:Nat) : Int) by omega,LW,Li rfl]
   have hlt:r.toNat &&& (md - 1)<md:=by
    rw[← hmd,Nat.and_two_pow_sub_one_eq_mod]
    exact Nat.mod_lt _ (by rw[hmd]; omega)
   rw[Nat.mod_eq_of_lt (show r.toNat &&& (md - 1)<2 ^ zx .u64 by show _<2 ^ 64; omega)]
   generalize r.toNat &&& (md - 1)=o at *
   rw[nJ,aW (by omega) (by omega)]
   refine aY (fun zs M'=>zs=[N .i64 (((if o ≥ e - a then o - (e - a) else o) : Nat) : Int)]∧M'=M4) ?_ ?_
   ·rintro zs M' ⟨rfl,rfl⟩
    dsimp only[aa]
    have ho:(if o ≥ e - a then o - (e - a) else o)<e - a:=by split <;> omega
    generalize (if o ≥ e - a then o - (e - a) else o)=o2 at *
    rw[addN (by omega),addN (by omega),h4.rd (z:=3) rfl hsk.symm (by omega),h4.rd (z:=3) rfl hsk.symm (by omega)]
    refine h4.swap (z:=3) rfl hsk.symm (by omega) (by omega) fun M5 h5 k5=>?_
    exact hJ _ _ ⟨h5,k5.aP hh4 (by omega) (by simp; omega),by have:=k5.next; omega,(k3.trans (k4.mono (cs:=[b,s]) (by simp))).trans (k5.mono (cs:=[b,s]) (by simp))⟩
   intro J4 hJ4
   rw[ja]
   refine aG (fun hg2=>?_) (fun hg2=>?_)
   ·have hg2:o ≥ e - a:=of_decide_eq_true hg2
    rw[dM (by omega) (by omega)]
    exact hJ4 _ _ ⟨by rw[if_pos hg2],rfl⟩
   ·exact hJ4 _ _ ⟨by rw[if_neg (of_decide_eq_false hg2)],rfl⟩
  ·have hg:¬ i0 + k≤a + (e - a) / 4 * 2 + 1:=of_decide_eq_false hg
   have hk3:k=3:=by omega
   subst hk3
   rw[WI] at hQ
   exact hQ M3 h3 (back M3 k3)
 ·rw[if_neg (of_decide_eq_false h8)] at hQ
  exact hQ M hat (ag.refl _ _)
def ZU (T m:Nat) (fv:AV) (lt:bK→bK→Bool) (c:aj) : Prop:=∀ {M:RM} {b a e limit:Nat} {d:Array bK} {Q:ak},At aZ T b d M→d.size≤60000→a≤e→e≤d.size→e - a<m→limit≤1000000→(∀ M',At aZ T b (Sort.pdq lt d a e limit true true) M'→ag [b] M M'→Q (.tup []) M') →
 c [sv b d.size 3,N .i64 (a:Int),N .i64 (e:Int),N .i64 (limit:Int),fv] M Q
theorem abJ {T m:Nat} {fv:AV} {lt:bK→bK→Bool} {cv:FuncId→aj} {ci ch cb cc cr cp ce ct cq:aj} (hlt:Sort.SWO lt) (hi:SortG aZ T 3 fv (Sort.insertionSort lt) (fun _ _ _=>True) ci) (hh:SortG aZ T 3 fv (Sort.heapSort lt) (fun _ a e=>a<e) ch) (hb:SortG aZ T 3 fv Sort.breakPatterns (fun _ _ _=>True) cb) (hc:Qs T fv lt cc) (hr:SortG aZ T 3 fv Sort.reverseRange (fun _ a e=>a<e) cr)
  (hp:Lu T fv lt cp) (hl:oF aZ lt (bT cv fv)) (he:PT T fv lt ce) (ht:abq T fv lt ct) (hq:ZU T m fv lt cq) : ZU T (m + 1) fv lt fun args M Q=>∃ a0 a1 a2 a3 a4,args=[a0,a1,a2,a3,a4]∧fT ci ch cb cc cr cp cv ce ct cq a0 a1 a2 a3 a4 M Q:=by
 intro M b a e limit d Q hat hsz hae hed hm hlim hQ
 refine⟨_,_,_,_,_,rfl, ?_⟩
 unfold fT
 simp only[fB,dY,eP,bR]
 obtain⟨R,hR⟩ : ∃ R,R=Sort.pdq lt d a e limit true true:=⟨_,rfl⟩
 rw[← hR] at hQ
 refine aI (fun m' ys M3=>∃ (a e limit:Nat) (wb wp:Bool) (d3:Array bK),m'=e - a∧ys=[N .i64 (a:Int),N .i64 (e:Int),N .i64 (limit:Int),Bo wb,Bo wp]∧a≤e∧e≤d.size∧e - a<m + 1∧limit≤1000000∧At aZ T b d3 M3∧ag [b] M M3∧d3.size=d.size∧R=Sort.pdq lt d3 a e limit wb wp) _
  ⟨a,e,limit,true,true,d,rfl,rfl,hae,hed,hm,hlim,hat,ag.refl _ _,rfl,hR⟩ ?_
 clear hR hae hed hm hlim
 rintro next m' ys M4 hnext ⟨a,e,limit,wb,wp,d3,rfl,rfl,hae,hed,hm,hlim,h4,k4,hs3,hR⟩
 dsimp only[aa]
 rw[Be] at hR
 rw[dM hae (by omega),show(12:Int)=((12:Nat) : Int) from rfl,jR]
 refine aG (fun hg=>?_) (fun hg=>?_)
 ·rw[if_pos (of_decide_eq_true hg)] at hR
  rw[← hs3]
  refine hi h4 (by omega) hae (by omega) trivial fun M5 h5 k5=>?_
  rw[← hR] at h5
  exact hQ M5 h5 (k4.trans k5)
 have hg:¬ e - a≤12:=of_decide_eq_false hg
 rw[if_neg hg] at hR
 rw[show(0:Int)=((0:Nat) : Int) from rfl,Qv]
 refine aG (fun hg0=>?_) (fun hg0=>?_)
 ·rw[if_pos (of_decide_eq_true hg0)] at hR
  rw[← hs3]
  refine hh h4 (by omega) hae (by omega) (by omega) fun M5 h5 k5=>?_
  rw[← hR] at h5
  exact hQ M5 h5 (k4.trans k5)
 have hg0:¬ limit=0:=of_decide_eq_false hg0
 rw[if_neg hg0] at hR
 refine aY (fun zs M'=>zs=[N .i64 (((if !wb then limit - 1 else limit) : Nat) : Int)]∧At aZ T b (if !wb then Sort.breakPatterns d3 a e else d3) M'∧ag [b] M M') ?_ ?_
 ·rintro zs M5 ⟨rfl,h5,k5⟩
  dsimp only[aa]
  have hs5:(if !wb then Sort.breakPatterns d3 a e else d3).size=d.size:=by
   split
   ·rw[PX,hs3]
   ·exact hs3
  have hl5:(if !wb then limit - 1 else limit)≤1000000:=by split <;> omega
  generalize (if !wb then Sort.breakPatterns d3 a e else d3)=d5 at *
  generalize (if !wb then limit - 1 else limit)=lim at *
  rw[← hs5]
  refine hc h5 (by omega) (by omega) (by omega) fun M6 h6 k6=>?_
  rw[hs5]
  have hcr:=Sort.choosePivot_holds lt d5 a e (by omega)
  unfold gA at hR
  generalize Sort.choosePivot lt d5 a e=cpv at *
  have k6':=k5.trans (k6.mono (cs:=[b]) (by simp))
  rw[lM,lH]
  refine aY (fun zs M'=>zs=[N .i64 (((if cpv.2=.decreasing then(e - 1) - (cpv.1 - a) else cpv.1) : Nat) : Int),N .i64 (mr (if cpv.2=.decreasing then .increasing else cpv.2))]∧At aZ T b (if cpv.2=.decreasing then Sort.reverseRange d5 a e else d5) M'∧ag [b] M M') ?_ ?_
  ·rintro zs M7 ⟨rfl,h7,k7⟩
   dsimp only[aa]
   have hs7:(if cpv.2=.decreasing then Sort.reverseRange d5 a e else d5).size=d.size:=by
    split
    ·rw[abx,hs5]
    ·exact hs5
   have hpv:a≤(if cpv.2=.decreasing then(e - 1) - (cpv.1 - a) else cpv.1)∧(if cpv.2=.decreasing then(e - 1) - (cpv.1 - a) else cpv.1)<e:=by
    split <;> omega
   generalize (if cpv.2=.decreasing then Sort.reverseRange d5 a e else d5)=d7 at *
   generalize (if cpv.2=.decreasing then(e - 1) - (cpv.1 - a) else cpv.1)=pv at *
   generalize (if cpv.2=.decreasing then Sort.Hint.increasing else cpv.2)=hint at *
   unfold gB gP at hR
   refine aY (fun zs M'=>∃ d8:Array bK,At aZ T b d8 M'∧ag [b] M M'∧d8.size=d.size∧R=gC lt d8 a e pv lim wb wp) ?_ ?_
   ·rintro zs M8 ⟨d8,h8,k8,hs8,hR8⟩
    unfold gC at hR8
    rw[pG]
    refine pR (P:=fun M'=>At aZ T b d8 M'∧ag [b] M M') (p:=!lt d8[a - 1]! d8[pv]!) ⟨h8,k8⟩ (fun hc k hk=>?_) fun M9 ⟨h9,k9⟩=>?_
    ·have hc:a > 0:=of_decide_eq_true hc
     rw[bu (by omega) (by omega),h8.rd (z:=3) rfl hs8.symm (by omega),h8.rd (z:=3) rfl hs8.symm (by omega)]
     refine hl.use fun M10 k10=>?_
     rw[bH]
     exact hk M10 ⟨h8.keep k10,k8.trans (k10.mono (cs:=[b]) (by simp))⟩
    refine aG (fun h=>?_) (fun h=>?_)
    ·rw[if_pos h] at hR8
     rw[← hs8]
     have hE:=Qc lt d8 a e pv (by omega)
     refine he h9 (by omega) hpv.1 hpv.2 (by omega) fun M10 h10 k10=>?_
     generalize Sort.partitionEqual lt d8 a e pv=pe at *
     dsimp only at hR8
     rw[dif_pos ⟨hE.2.1,hE.2.2⟩] at hR8
     exact hnext _ _ _ (by omega) ⟨pe.1,e,lim,wb,wp,pe.2,rfl,rfl,hE.2.2,hed,by omega,hl5,h10,k9.trans k10,by rw[hE.1,hs8],hR8⟩
    ·rw[if_neg (by rw[h]; decide)] at hR8
     rw[← hs8]
     have hT:=Sort.partition_holds lt hlt d8 a e pv hpv.1 hpv.2 (by omega)
     have hTs:=SV lt d8 a e pv
     refine ht h9 (by omega) hpv.1 hpv.2 (by omega) fun M10 h10 k10=>?_
     have ru:=k9.trans k10
     generalize Sort.partition lt d8 a e pv=pp at *
     obtain⟨mid,ap,d9⟩:=pp
     dsimp only at hR8 hT hTs h10 ⊢
     rw[dif_pos ⟨hT.1,hT.2.1⟩] at hR8
     have hT1:=hT.1
     have hT2:=hT.2.1
     rw[lM,lH,dM hT1 (by omega),dM (by omega) (by omega),lc]
     refine⟨by decide, ?_⟩
     rw[show(8:Int)=((8:Nat) : Int) from rfl,oU,aW (by omega) (by omega),ed]
     refine aG (fun hc1=>?_) (fun hc1=>?_)
     ·have hc1:mid - a<e - mid:=of_decide_eq_true hc1
      rw[if_pos hc1] at hR8
      rw[ja,← hTs]
      refine hq h10 (by omega) hT1 (by omega) (by omega) hl5 fun M11 h11 k11=>?_
      rw[add1 (by omega)]
      exact hnext _ _ _ (by omega) ⟨mid + 1,e,lim,_,ap,_,rfl,rfl,by omega,hed,by omega,hl5,h11,ru.trans k11,by rw[zL lt _ _ _ _ _ _ _ (Nat.le_refl _),hTs,hs8],hR8⟩
     ·have hc1:¬ mid - a<e - mid:=of_decide_eq_false hc1
      rw[if_neg hc1] at hR8
      rw[ja,add1 (by omega),← hTs]
      refine hq h10 (by omega) (by omega) (by omega) (by omega) hl5 fun M11 h11 k11=>?_
      exact hnext _ _ _ (by omega) ⟨a,mid,lim,_,ap,_,rfl,rfl,hT1,by omega,by omega,hl5,h11,ru.trans k11,by rw[zL lt _ _ _ _ _ _ _ (Nat.le_refl _),hTs,hs8],hR8⟩
   intro J10 Iu
   have no:¬ (wb && wp && decide (hint=.increasing))=true→J10 [] M7:=fun hn=>by
    have hpi:(if (wb && wp && decide (hint=.increasing))=true then Sort.partialInsertionSort lt d7 a e else(d7,false))=(d7,false):=if_neg hn
    rw[hpi] at hR
    exact Iu _ _ ⟨d7,h7,k7,hs7,hR⟩
   cases wb with
   | false =>
     rw[bS]
     dsimp only
     rw[df,bS]
     dsimp only
     rw[bS]
     dsimp only
     rw[df,bD]
     exact no (by simp)
   | true =>
     rw[dx]
     dsimp only
     rw[eT]
     cases wp with
     | false =>
       rw[bS]
       dsimp only
       rw[bS]
       dsimp only
       rw[df,bD]
       exact no (by simp)
     | true =>
       rw[dx]
       dsimp only
       rw[dx]
       dsimp only
       rw[bU,eT]
       by_cases hin:hint=.increasing
       ·rw[show(mr hint == 1)=true by rw[hin]; rfl,dD]
        have hpi:(if (true && true && decide (hint=.increasing))=true then Sort.partialInsertionSort lt d7 a e else(d7,false))=Sort.partialInsertionSort lt d7 a e:=if_pos (by simp[hin])
        rw[hpi] at hR
        rw[← hs7]
        have hs8:(Sort.partialInsertionSort lt d7 a e).1.size=d.size:=by
         rw[Sort.partialInsertionSort,BH,hs7]
        refine hp h7 (by omega) (by omega) (by omega) fun M8 h8 k8=>?_
        generalize Sort.partialInsertionSort lt d7 a e=pi at *
        refine aG (fun h=>?_) (fun h=>?_)
        ·rw[if_pos h] at hR
         rw[← hR] at h8
         exact hQ M8 h8 (k7.trans k8)
        ·rw[if_neg (by rw[h]; decide)] at hR
         exact Iu _ _ ⟨pi.1,h8,k7.trans k8,hs8,hR⟩
       ·rw[show(mr hint == 1)=false by cases hint <;> first | rfl | exact absurd rfl hin,bD]
        exact no (by simp[hin])
  intro J6 hJ6
  rw[bU]
  by_cases hdec:cpv.2=.decreasing
  ·rw[show(mr cpv.2 == 2)=true by rw[hdec]; rfl,dD,← hs5]
   refine hr h6 (by omega) hae (by omega) (by omega) fun M7 h7 k7=>?_
   rw[bu (by omega) (by omega),dM (by omega) (by omega),dM (by omega) (by omega)]
   exact hJ6 _ _ ⟨by rw[if_pos hdec,if_pos hdec]; rfl,by rw[if_pos hdec]; exact h7,k6'.trans k7⟩
  ·rw[show(mr cpv.2 == 2)=false by cases h:cpv.2 <;> first | rfl | exact absurd h hdec,bD]
   exact hJ6 _ _ ⟨by rw[if_neg hdec,if_neg hdec],by rw[if_neg hdec]; exact h6,k6'⟩
 intro J hJ
 rw[bH]
 cases wb with
 | true =>
   rw[Bool.not_true,bD]
   exact hJ _ _ ⟨rfl,h4,k4⟩
 | false =>
   rw[Bool.not_false,dD,← hs3]
   refine hb h4 (by omega) hae (by omega) trivial fun M5 h5 k5=>?_
   rw[bu (by omega) (by omega)]
   exact hJ _ _ ⟨rfl,h5,k4.trans k5⟩
def P9 (c:aj) : Prop:=∀ {M:RM} {v fv:AV} {Q:ak},Q (.tup []) M→c [v,N .i64 0,N .i64 ((0:Nat) : Int),fv] M Q
theorem PK {cv:FuncId→aj} : P9 fun args M Q=>∃ a0 a1 a2 a3,args=[a0,a1,a2,a3]∧dX cv a0 a1 a2 a3 M Q:=by
 intro M v fv Q hQ
 refine⟨_,_,_,_,rfl, ?_⟩
 unfold dX
 rw[cZ,show IntKind.i64.wrap ((0:Int) + 1)=1 from rfl]
 refine aI (fun m ys M3=>m=0∧ys=[N .i64 1]∧M3=M) 0 ⟨rfl,rfl,rfl⟩ ?_
 rintro next m ys M3 hnext ⟨rfl,rfl,rfl⟩
 dsimp only[aa]
 rw[dB,show decide ((1:Int)<((0:Nat) : Int))=false from rfl,bD]
 exact hQ
def OZ (c:aj) : Prop:=∀ {M:RM} {v fv:AV} {Q:ak},Q (.tup []) M→c [v,N .i64 0,N .i64 ((0:Nat) : Int),N .i64 ((0:Nat) : Int),fv] M Q
theorem PY {cv:FuncId→aj} {ci c2 c3 cc c4 cp c6 c7 c8:aj} (hi:P9 ci) : OZ fun args M Q=>∃ a0 a1 a2 a3 a4,args=[a0,a1,a2,a3,a4]∧fT ci c2 c3 cc c4 cp cv c6 c7 c8 a0 a1 a2 a3 a4 M Q:=by
 intro M v fv Q hQ
 refine⟨_,_,_,_,_,rfl, ?_⟩
 unfold fT
 refine aI (fun m ys M3=>m=0∧ys=[N .i64 0,N .i64 ((0:Nat) : Int),N .i64 ((0:Nat) : Int),Bo true,Bo true]∧M3=M) 0 ⟨rfl,rfl,rfl⟩ ?_
 rintro next m ys M3 hnext ⟨rfl,rfl,rfl⟩
 dsimp only[aa]
 rw[ig,show IntKind.i64.wrap (((0:Nat) : Int) - 0)=0 from rfl,lV,show decide ((0:Int)≤12)=true from rfl,dD]
 exact hi hQ
def zD (lt:bK→bK→Bool) (xs:List bK) : List bK:=(Sort.sort lt xs.toArray).toList
theorem ace (lt:bK→bK→Bool) : zD lt []=[]:=by
 unfold zD Sort.sort
 rw[Be,if_pos (by simp),Sort.insertionSort,Sort.insOuter,if_neg (by simp)]
theorem NG {lt:bK→bK→Bool} (hlt:Sort.SWO lt) (xs:List bK) : (zD lt xs).Perm xs:=by
 have h:=(Sort.sort_sorts lt hlt xs.toArray).1
 have h2:=h.2.2
 rw[Array.extract_eq_self_of_le (by rw[h.1]; exact Nat.le_refl _),Array.extract_eq_self_of_le (Nat.le_refl _)] at h2
 exact h2
def Qe (fv:AV) (lt:bK→bK→Bool) (T:Nat) (c:aj) : Prop:=∀ {M:RM} {base:Nat} {v:AV} {xs:List bK} {Q:ak},Ow aZ M base T v xs→xs.length≤60000→(∀ M',Ow aZ M' base T v (zD lt xs)→ag (aH v) M M'→Q (.tup []) M')→c [v,fv] M Q
theorem QO {T:Nat} {fv:AV} {lt:bK→bK→Bool} {cl cp:aj} (hlt:Sort.SWO lt) (hl:EE cl) (hp:∀ m,ZU T m fv lt cp) (h0:OZ cp) : Qe fv lt T fun args M Q=>∃ a0 a1,args=[a0,a1]∧jh cl cp a0 a1 M Q:=by
 intro M base v xs Q ho hx hQ
 have hs:Sl aZ M v xs:=ho.jq
 refine⟨_,_,rfl, ?_⟩
 unfold jh
 rw[aL.len hs,nJ,je (by omega) (by omega)]
 refine hl (by omega) ?_
 rcases Nat.eq_zero_or_pos xs.length with hn | hn
 ·rw[hn,show Sort.bitsLen 0=0 from rfl]
  refine h0 ?_
  have:=List.length_eq_zero_iff.1 hn
  subst this
  exact hQ M (by rw[ace]; exact ho) (ag.refl _ _)
 ·obtain⟨b,rfl,h1,h2,h3,h4⟩:=Own.yJ ho hn
  have hb:=xg hn (by omega)
  have hsz:xs.toArray.size=xs.length:=by simp
  have hat:At aZ T b xs.toArray M:=⟨by rw[h3],h2⟩
  have hsl:(zD lt xs).length=xs.length:=(NG hlt xs).length_eq
  have:=hp (xs.length + 1) (M:=M) (b:=b) (a:=0) (e:=xs.toArray.size) (limit:=Sort.bitsLen xs.length) (d:=xs.toArray) (Q:=fun bW M_0=>Q (.tup []) M_0) hat (by omega) (by omega) (Nat.le_refl _) (by omega) (by omega) fun M' h' k'=>?_
  ·have e5:aZ.size=3:=rfl
   rw[e5]
   simpa using this
  ·have e:(Sort.pdq lt xs.toArray 0 xs.toArray.size (Sort.bitsLen xs.length) true true)=Sort.sort lt xs.toArray:=by rw[Sort.sort]; simp
   rw[e] at h'
   refine hQ _ ?_ (by simpa [aH] using k')
   have hlast:Own M' base T 3 (.slc b 0 xs.length (.op 3)) (aZ.row (zD lt xs)) xs.length:=.op _ _ _ h1 h'.lt h'.heap (by rw[Enc.eY,hsl]; rfl)
   show Own M' base T 3 (.slc b 0 xs.length (.op 3)) (aZ.row (zD lt xs)) (zD lt xs).length
   rw[hsl]; exact hlast
end Go.Ab.Crw
namespace Go.Ab.Crw.Viw
open Go Go.Ab Go.Ab.aD Go.Ab.Vw
theorem PS {M:RM} {v:AV} {xs:List JB} (h:Sl iR M v xs) {i:Nat} (hi:i<xs.length) {kd:IntKind} {j:Nat} {x:AV} (hx:(iR.cells xs[i])[j]?=some x) {K:AV→Prop} : (ai v (N kd (i:Int)) 3 fun p=>aJ p j fun q=>au M q K)=K x:=by
 obtain⟨b,o,_,_,hidx,hld⟩:=Sl.at (E:=iR) (i:=i) h 3 (i:Int) hi rfl rfl
 rw[hidx,aU,gL]
 rw[uf hld hx]
 simp
def zN (es:List aF) (c:List UInt8) : bK:=(c,(lastT c (bO es c),(bO es c).length))
def gI (es:List aF) : List bK:=zD wM ((kQ es).map (zN es))
def ZO (TS T TL:Nat) (c:aj) : Prop:=∀ {M:RM} {t:Nat} {C:Nat→Prop} {ps:List Pt} {es:List aF} {Q:ak},pY TS T C M t ps es→es.length≤50000→(∀ v M',Ow aZ M' M.next TL v (gI es)→ag [] M M'→Q v M')→c [.ptr t 0] M Q
theorem aaK (c:List UInt8) (fs:List JB) (f:JB) : lastT c (fs++[f])=if f.1=Wz then f.2.1 else lastT c fs:=by
 rw[lastT,List.foldl_append]; rfl
theorem acA {TS T TF T9 TL n:Nat} {cc cf cs:aj} (hc:Ca TS T T9 cc) (hf:Jl TS T TF cf) (hs:Qe (.fn (.func n) [] []) wM TL cs) : ZO TS T TL fun args M Q=>∃ a0,args=[a0]∧Cy cc TL cf TF cs n a0 M Q:=by
 intro M t C ps es Q hst hlen hQ
 refine⟨_,rfl, ?_⟩
 unfold Cy
 simp only[j6,fB,dY,eP,bR]
 refine hc hst hlen fun v2 M2 o2 k2=>?_
 have n2:=k2.next
 rw[Ka] at o2
 have hcl:=YX es
 rw[aL.len o2.jq]
 refine aI (fun z ys M3=>∃ (i:Nat) (dv:AV),z=(kQ es).length - i∧ys=[dv,N .i64 (i:Int)]∧i≤(kQ es).length∧ag [] M2 M3∧Ow aZ M3 M2.next TL dv (((kQ es).take i).map (zN es))) _
  ⟨0,bZ,rfl,rfl,Nat.zero_le _,ag.refl _ _,.nil⟩ ?_
 rintro next z ys M3 hnext ⟨i,dv,rfl,rfl,hil,k3,o3⟩
 dsimp only[aa]
 rw[ed]
 refine aG (fun hlt=>?_) (fun hge=>?_)
 ·have hlt:i<(kQ es).length:=of_decide_eq_true hlt
  have n3:=k3.next
  have hml:(((kQ es).take i).map (zN es)).length≤i:=by rw[List.length_map,List.length_take]; omega
  have hts:((kQ es).take (i + 1)).map (zN es)=((kQ es).take i).map (zN es)++[zN es (kQ es)[i]]:=by
   rw[List.take_succ_eq_append_getElem hlt,List.map_append,List.map_singleton]
  rw[akc (aL.keep o2.jq k3 (by simp)) hlt]
  generalize (kQ es)[i]=c at *
  rw[qY]
  refine⟨iR.cells (c,(c,0)),rfl, ?_⟩
  refine Y5 fun M4 n4 k4 h4=>?_
  have k04:=(k2.trans k3).trans k4
  refine hf (hst.keep k04 (by simp) (by simp)) hlen fun v5 M5 o5 k5=>?_
  have n5:=k5.next
  rw[aL.len o5.jq]
  have hfsl:=Yh es c
  have h5:=k5.aP h4 (by omega) (by simp)
  refine aI (fun z ys M6=>∃ (j:Nat),z=(bO es c).length - j∧ys=[N .i64 (j:Int)]∧j≤(bO es c).length∧ag [] M3 M6∧M5.next≤M6.next∧Sl iR M6 v5 (bO es c)∧M6.heap M3.next=some (.row (iR.cells (c,(lastT c ((bO es c).take j),j))) false TL 0)) _
   ⟨0,rfl,rfl,Nat.zero_le _,k4.trans k5,Nat.le_refl _,o5.jq,h5⟩ ?_
  rintro gT z ys M6 dH ⟨j,rfl,rfl,hjl,k6,n6,s6,h6⟩
  dsimp only[aa]
  rw[ed]
  refine aG (fun hlt2=>?_) (fun sP=>?_)
  ·have hlt2:j<(bO es c).length:=of_decide_eq_true hlt2
   have hls:lastT c ((bO es c).take (j + 1))=if (bO es c)[j].1=Wz then(bO es c)[j].2.1 else lastT c ((bO es c).take j):=by
    rw[List.take_succ_eq_append_getElem hlt2,aaK]
   refine aY (fun zs M'=>zs=[]∧ag [] M3 M'∧M5.next≤M'.next∧Sl iR M' v5 (bO es c)∧M'.heap M3.next=some (.row (iR.cells (c,(lastT c ((bO es c).take (j + 1)),j + 1))) false TL 0)) ?_ ?_
   ·rintro zs M' ⟨rfl,a1,a2,a3,a4⟩
    rw[add1 (by omega)]
    exact dH _ _ _ (by omega) ⟨j + 1,rfl,rfl,by omega,a1,a2,a3,a4⟩
   intro J hJ
   rw[ahY s6 hlt2]
   generalize (bO es c)[j]=f at *
   generalize lastT c ((bO es c).take j)=tt at *
   refine Y5 fun M7 n7 k7 h7=>?_
   have h67:=k7.aP h6 (by omega) (by simp)
   have k37:=k6.trans k7
   have s7:=aL.keep s6 k7 (by simp)
   have hob:M3.next ∉ aH v5:=fun hm=>by have:=(o5.blk _ hm).1; omega
   rw[aU,az (i:=0 + 2) (x:=N .i64 (j:Int)) h67 rfl,add1 (by omega),aU,
    yS (iR.cells (c,(tt,j + 1))) h67 (by simp[iR]) rfl rfl rfl]
   have kp:ag [M3.next] M7 (M7.put M3.next (.row (iR.cells (c,(tt,j + 1))) false TL 0)):=(ag.refl _ _).put _ (.inr (by simp))
   have h8:(M7.put M3.next (.row (iR.cells (c,(tt,j + 1))) false TL 0)).heap M3.next=some (.row (iR.cells (c,(tt,j + 1))) false TL 0):=aR _
   have h78:=qi (z:=.row (iR.cells (c,(tt,j + 1))) false TL 0) (c:=M3.next) h7 (by omega)
   have n8:(M7.put M3.next (.row (iR.cells (c,(tt,j + 1))) false TL 0)).next=M7.next:=rfl
   have k38:=k37.put (.row (iR.cells (c,(tt,j + 1))) false TL 0) (b:=M3.next) (.inl (Nat.le_refl _))
   have s8:=aL.keep s7 kp (fun b hb hm=>hob (by simp at hm; subst hm; exact hb))
   generalize M7.put M3.next (.row (iR.cells (c,(tt,j + 1))) false TL 0)=M8 at *
   rw[bG,az (x:=St f.1) h78 rfl,FD]
   refine aG (fun hc=>?_) (fun hc=>?_)
   ·have hc:f.1=Wz:=by simpa [Wz] using hc
    rw[aU,az (i:=0 + 1) (x:=St f.2.1) h78 rfl,aU,yS (iR.cells (c,(f.2.1,j + 1))) h8 (by simp[iR]) rfl rfl rfl]
    refine hJ _ _ ⟨rfl,k38.put _ (.inl (Nat.le_refl _)),by rw[lX]; omega,aL.keep s8 ((ag.refl [M3.next] _).put _ (.inr (by simp))) (fun b hb hm=>hob (by simp at hm; subst hm; exact hb)), ?_⟩
    rw[hls,if_pos hc]; exact aR _
   ·have hc:¬ f.1=Wz:=by simpa [Wz] using hc
    refine hJ _ _ ⟨rfl,k38,by omega,s8, ?_⟩
    rw[hls,if_neg hc]; exact h8
  ·have he:j=(bO es c).length:=by
    have:¬ j<(bO es c).length:=of_decide_eq_false sP
    omega
   subst he
   rw[List.take_length] at h6
   rw[fA (n:=3) h6 rfl,rP (x:=.agg (iR.cells (c,(lastT c (bO es c),(bO es c).length)))) (size:=3) rfl rfl rfl,bB]
   refine xz (E:=aZ) (a:=zN es c) (o3.keep k6 (by simp)) (by have:=k6.next; omega) (by decide) (by omega) (by omega) fun v9 M9 o9 k9 n9 _=>?_
   rw[add1 (by omega)]
   refine hnext _ _ _ (by omega) ⟨i + 1,v9,rfl,rfl,by omega,(k3.trans k6).dK k9 (fun d hd=>.inl (o3.blk d hd).1), ?_⟩
   rw[hts]; exact o9
 ·have he:i=(kQ es).length:=by
   have:¬ i<(kQ es).length:=of_decide_eq_false hge
   omega
  subst he
  rw[List.take_length] at o3
  have hml:((kQ es).map (zN es)).length≤60000:=by rw[List.length_map]; omega
  refine hs o3 hml fun M9 o9 k9=>?_
  exact hQ dv M9 (Own.mono o9 n2) ((k2.trans k3).dK k9 (fun d hd=>.inl (by have:=(o3.blk d hd).1; omega)))
end Go.Ab.Crw.Viw
namespace Go.Ab.Crw
open Go Go.Ab Go.Ab.aD
theorem RO (l:List Ev) : ∀ x∈uE l,dO x.1 x.2=true:=Rf l [] (by simp)
end Go.Ab.Crw
namespace Go.Ab.Crw.Viw
open Go Go.Ab Go.Ab.aD Go.Ab.Vw
def aak (TS T:Nat) (c:aj) : Prop:=∀ {M:RM} {v:AV} {l:List Ev} {Q:ak},iy yK M v l (fun d=>d<M.next)→l.length≤60 →
 (∀ t M',M.next≤t→pY TS T (fun d=>M.next≤d∧d<M'.next∧d≠t) M' t (mO l).1 (mO l).2→ag [] M M'→Q (.ptr t 0) M')→c [v] M Q
theorem YC {TS T:Nat} {cn cA:aj} (hn:TK TS T cn) (hA:WH TS T cA) : aak TS T fun args M Q=>∃ a0,args=[a0]∧FI cn cA a0 M Q:=by
 intro M v l Q hv hl hQ
 refine⟨_,rfl, ?_⟩
 unfold FI
 simp only[j6,fB,dY,eP,bR]
 refine hn fun t M1 ht st1 k1=>?_
 refine aI (fun z ys M3=>∃ i:Nat,z=l.length - i∧ys=[N .i64 (i:Int)]∧i≤l.length∧ag [] M M3∧pY TS T (fun d=>M.next≤d∧d<M3.next∧d≠t) M3 t (mO (l.take i)).1 (mO (l.take i)).2) _
  ⟨0,rfl,rfl,Nat.zero_le _,k1,(st1.mono (B':=fun d=>M.next≤d∧d≠t) (fun d hd=>⟨hd.1,by omega⟩) (fun h=>h.2 rfl)).below.mono (fun d hd=>⟨hd.1.1,hd.2,hd.1.2⟩) (fun h=>h.2.2 rfl)⟩ ?_
 rintro next z ys M3 hnext ⟨i,rfl,rfl,hi,k3,st3⟩
 dsimp only[aa]
 have hv3:iy yK M3 v l (fun d=>d<M.next):=hv.keep k3 (by simp)
 rw[PR,dx]
 try dsimp only
 rw[hv3.len,ed]
 try dsimp only
 rw[eT]
 refine aG (fun hlt=>?_) (fun hge=>?_)
 ·have hlt:i<l.length:=of_decide_eq_true hlt
  have n3:=k3.next
  have hI:JE i (mO (l.take i)):=by
   have:=adf (l.take i)
   rwa [List.length_take,Nat.min_eq_left hi] at this
  have htk:mO (l.take (i + 1))=ug (mO (l.take i)) l[i]:=by rw[List.take_succ_eq_append_getElem hlt,Rv]
  have fin:∀ M',ag [] M M'→pY TS T (fun d=>M.next≤d∧d<M'.next∧d≠t) M' t (mO (l.take (i + 1))).1 (mO (l.take (i + 1))).2→next [N .i64 ((i + 1:Nat) : Int)] M':=fun M' k' st' =>
   hnext _ _ _ (by omega) ⟨i + 1,rfl,rfl,by omega,k',st'⟩
  rw[htk] at fin
  generalize mO (l.take i)=s at *
  obtain⟨b,o,kv,hidx,hl7,_,hkv,hkb⟩:=Sv hv3 hlt
  rw[hidx,hl7]
  generalize l[i]=x at *
  have hne:t ∉ aH kv:=fun h=>by have:=hkb t h; omega
  refine hA st3 hI.si (by omega) (by have:=hI.few; omega) hkv hne (fun hb M4 k4=>?_) (fun hg M4 st4 k4=>?_)
  ·rw[add1 (by omega)]
   refine fin M4 (k3.trans k4) ?_
   unfold ug
   rw[if_neg (by rw[hb]; decide)]
   have n4:=k4.next
   exact(st3.keep k4 (by simp) (by simp)).mono (fun d hd=>⟨hd.1,by omega,hd.2.2⟩) (fun h=>h.2.2 rfl)
  ·rw[add1 (by omega)]
   refine fin M4 (k3.dK k4 (fun d hd=>by simp at hd; omega)) ?_
   unfold ug
   rw[if_pos hg]
   have lt3:=st3.lt
   have n4:=k4.next
   refine(st4.below.mono (B':=fun d=>M.next≤d∧d<M4.next∧d≠t) (fun d hd=>?_) (fun h=>h.2.2 rfl))
   obtain⟨h | h,h'⟩:=hd
   ·exact⟨h.1,h',h.2.2⟩
   ·exact⟨by omega,h',by omega⟩
 ·have he:i=l.length:=by
   have:¬ i<l.length:=of_decide_eq_false hge
   omega
  subst he
  rw[List.take_length] at st3
  exact hQ t M3 ht st3 k3
def NeE (es:List aF) : Prop:=∀ x∈es,x.2.2.1≠[]
structure VI (es:List aF) : Prop where
 st:uZ es
 bd:BdE es
 ne:NeE es
 len:es.length≤60
theorem ane {w:List Ev} (hg:∀ x∈w,dO x.1 x.2=true) (h1:w.Pairwise fun x y=>x.1.1≠y.1.1) (hl:w.length≤60) : VI (mO w).2∧wT w w.length=(mO w).2:=by
 have hch:=Ch.run hg h1 hl
 have hI:TH w (mO w).1 (mO w).2:=⟨hch,h1,hg,hl⟩
 refine⟨⟨ajV hch.up hch.one,fun x hx=>?_,fun x hx=>?_,hI.few⟩,hI.FZ⟩
 ·have:=hI.ok x hx
  exact⟨this.2.2.2.1,this.2.2.2.2.1,this.2.2.2.2.2⟩
 ·obtain⟨e,he,ho,rfl,_⟩:=(hch.FZ x).1 hx
  have:=hg e he
  simp only[dO,Bool.and_eq_true] at this
  have h2:=this.2
  simp only[Cw,Bool.or_eq_true,Bool.and_eq_true,decide_eq_true_eq] at h2
  rcases h2 with h2 | h2
  ·exact h2.2
  ·rw[ho] at h2; exact absurd h2.1 (by decide)
theorem ajy {M:RM} {v:AV} {xs:List bK} (h:Sl aZ M v xs) {i:Nat} (hi:i<xs.length) :
  ∃ b o,(∀ (kd:IntKind) (K:AV→Prop),ai v (N kd (i:Int)) 3 K=K (.ptr b o))∧∀ (M' : RM),ag [] M M'→∀ (j:Nat) (y:AV),(aZ.cells xs[i])[j]?=some y→∀ K:AV→Prop,au M' (.ptr b (o + j)) K=K y:=by
 obtain⟨b,o,hb,_,hidx,hld⟩:=Sl.at (E:=aZ) (i:=i) h 3 (i:Int) hi rfl rfl
 refine⟨b,o,hidx,fun M' k j y hy K=>?_⟩
 rw[gL,uf ((k.loads hb (by simp)).trans hld) hy]
 simp
theorem Zb {M:RM} {v:AV} {xs:List bK} (h:Sl aZ M v xs) {i:Nat} (hi:i<xs.length) {kd:IntKind} {j:Nat} {x:AV} (hx:(aZ.cells xs[i])[j]?=some x) {K:AV→Prop} : (ai v (N kd (i:Int)) 3 fun p=>aJ p j fun q=>au M q K)=K x:=by
 obtain⟨b,o,hidx,hl⟩:=ajy h hi
 rw[hidx,aU,hl M (ag.refl _ _) j x hx]
theorem Eu (es:List aF) : (gI es).Perm ((kQ es).map (zN es)):=NG Qm _
theorem acy (es:List aF) : (gI es).length=(kQ es).length:=by rw[(Eu es).length_eq,List.length_map]
theorem adG {l m:List Nat} (h:l.Perm m) : l.sum=m.sum:=by
 induction h with
 | nil=>rfl
 | cons x _ ih=>simp[ih]
 | swap x y l=>simp; omega
 | trans _ _ ih1 ih2=>exact ih1.trans ih2
theorem afK (l:List Nat) (i:Nat) : (l.take i).sum≤l.sum:=by
 conv=>rhs; rw[← List.take_append_drop i l]
 rw[List.sum_append]; omega
theorem aeu {es:List aF} (hs:uZ es) : ((gI es).map fun y:bK=>y.2.2).sum=(bY es).length:=by
 rw[← ah6 es hs,adG ((Eu es).map fun y:bK=>y.2.2),List.map_map]
 refine congrArg List.sum (List.map_congr_left fun c _=>?_)
 show(bO es c).length=_
 rw[bO,List.length_map]
theorem aeJ {es:List aF} {i:Nat} (hi:i<(gI es).length) : (gI es)[i].1∈kQ es∧(gI es)[i].2.2=(bO es (gI es)[i].1).length:=by
 have:=(Eu es).mem_iff.1 (List.getElem_mem hi)
 obtain⟨c,hc,e⟩:=List.mem_map.1 this
 rw[← e]
 exact⟨hc,rfl⟩
theorem aai {es:List aF} (hs:uZ es) {c:List UInt8} {f:JB} (hf:f∈bO es c) : 1≤f.2.2:=by
 obtain⟨g,hg,rfl⟩:=List.mem_map.1 hf
 have hne:=(yO _ (Ng hs c)).ne g hg
 obtain⟨x,hx⟩:=List.exists_mem_of_ne_nil g hne
 have:=(ab4 x.2.2.2 g).2 ⟨x,hx,rfl⟩
 exact List.length_pos_of_mem this
def ahR (B:Base) (c:aj) : Prop:=∀ {M:RM} {v:AV} {l:List Ev} {Q:ak},M.base=B→iy yK M v l (fun d=>d<M.next)→(∀ M',Q (Bo true) M')→c [v] M Q
theorem PI {B:Base} {TS T TN T9 TL TF TE TM:Nat} {ca co cof cc cl cg cd ce:aj} (ha:abT B ca) (ho:aeV TE co) (hof:aak TS T cof) (hc:Ca TS T T9 cc) (hl:ZO TS T TL cl) (hg:afw TS T TF cg) (hd:Uf TS T TN cd) (he:Fw TS T TM ce) :
  ahR B fun args M Q=>∃ a0,args=[a0]∧sW ca co cof cc cl cg cd ce a0 M Q:=by
 intro M v l Q hB hv hQ
 refine⟨_,rfl, ?_⟩
 unfold sW
 simp only[j6,fB,dY,eP,bR]
 refine ha hB ?_
 rw[bH,Bool.not_true,bD,hv.len,show(N .i64 (50:Int))=N .i64 ((50:Nat) : Int) from rfl,pG]
 refine aG (fun _=>hQ _) (fun aqo=>?_)
 have hl50:l.length≤50:=by
  have:¬ l.length > 50:=of_decide_eq_false aqo
  omega
 refine ho hv (by omega) fun v1 M1 d1 k1=>?_
 have hwl:(uE l).length≤60:=Nat.le_trans (Yo l) (by omega)
 refine hof d1 hwl fun t M2 ht2 st2 k2=>?_
 obtain⟨hvi,_⟩:=ane (RO l) (afu l) hwl
 generalize (mO (uE l)).2=es at *
 generalize (mO (uE l)).1=ps at *
 have hes:=hvi.len
 refine hc st2 (by omega) fun v3 M3 o3 k3=>?_
 rw[Ka] at o3
 have st3:=st2.keep k3 (by simp) (by simp)
 refine hl st3 (by omega) fun v4 M4 o4 k4=>?_
 have k24:=k3.trans k4
 have hcl:=YX es
 have hLl:=acy es
 rw[aL.len (aL.keep o3.jq k4 (by simp)),aL.len o4.jq,hLl,ll,show((((kQ es).length:Nat) : Int) != (((kQ es).length:Nat) : Int))=false by simp,bD]
 have stk:∀ {M' : RM},ag [] M4 M'→pY TS T _ M' t ps es:=fun k=>st2.keep (k24.trans k) (by simp) (by simp)
 have slk:∀ {M' : RM},ag [] M4 M'→Sl aZ M' v4 (gI es):=fun k=>aL.keep o4.jq k (by simp)
 have hsum:=aeu hvi.st
 have hcf:=aev hvi.st
 have Oo:=fun i=>afK ((gI es).map fun y:bK=>y.2.2) i
 rw[hsum] at Oo
 refine aI (fun z ys M8=>∃ (i:Nat),z=(gI es).length - i∧ys=[N .i64 ((((((gI es).map fun y:bK=>y.2.2).take i).sum:Nat)) : Int),N .i64 (i:Int)]∧i≤(gI es).length∧ag [] M4 M8) _
  ⟨0,rfl,rfl,Nat.zero_le _,ag.refl _ _⟩ ?_
 rintro next z ys M8 hnext ⟨i,rfl,rfl,hil,k8⟩
 dsimp only[aa]
 rw[aL.len (slk k8),ed]
 refine aG (fun hlt=>?_) (fun hge=>?_)
 ·have hlt:i<(gI es).length:=of_decide_eq_true hlt
  obtain⟨hm1,hm2⟩:=aeJ hlt
  have hts:(((gI es).map fun y:bK=>y.2.2).take (i + 1)).sum=(((gI es).map fun y:bK=>y.2.2).take i).sum + (gI es)[i].2.2:=by
   rw[List.take_succ_eq_append_getElem (by rw[List.length_map]; exact hlt),List.sum_append]
   simp
  have hp1:=Oo (i + 1)
  rw[hts] at hp1
  have hne:=ab1 hvi.st hm1
  rw[Zb (slk k8) hlt (j:=0) (x:=St (gI es)[i].1) rfl]
  refine hg (stk k8) (by omega) (fun h _ _=>absurd h hne) fun _ v9 M9 o9 k9=>?_
  have k89:=k8.trans k9
  rw[lM,lH,ll,show((0:Int) != 0)=false from rfl]
  simp only[iq,df]
  rw[aL.len o9.jq,Zb (slk k89) hlt (j:=2) (x:=N .i64 ((gI es)[i].2.2:Int)) rfl,hm2,ll,show((((bO es (gI es)[i].1).length:Nat) : Int) != (((bO es (gI es)[i].1).length:Nat) : Int))=false by simp]
  simp only[iq,df]
  rw[aL.len o9.jq,bU]
  have hpos:=List.length_pos_iff.2 hne
  rw[show((((bO es (gI es)[i].1).length:Nat) : Int) == 0)=false by rw[beq_eq_false_iff_ne]; omega,bD]
  rw[hm2] at hts hp1
  have hup:=aeR hvi.st (gI es)[i].1
  have hvp:=fun f (hf:f∈bO es (gI es)[i].1)=>aai hvi.st hf
  generalize hfs:bO es (gI es)[i].1=fs at *
  generalize hsn:(((gI es).map fun y:bK=>y.2.2).take i).sum=sn at *
  refine aI (fun z ys Ma=>∃ (j:Nat),z=fs.length - j∧ys=[N .i64 ((sn + j:Nat) : Int),N .i64 (j:Int)]∧j≤fs.length∧ag [] M9 Ma) _
   ⟨0,rfl,rfl,Nat.zero_le _,ag.refl _ _⟩ ?_
  rintro gT z ys Ma dH ⟨j,rfl,rfl,hjl,ka⟩
  dsimp only[aa]
  have s9:=aL.keep o9.jq ka (by simp)
  rw[aL.len s9,ed]
  refine aG (fun hlt2=>?_) (fun sP=>?_)
  ·have hlt2:j<fs.length:=of_decide_eq_true hlt2
   have hv1:=hvp fs[j] (List.getElem_mem hlt2)
   rw[PS s9 hlt2 (j:=2) (x:=N .i64 (fs[j].2.2:Int)) rfl,dB,show decide (((fs[j].2.2:Nat) : Int)<1)=false from decide_eq_false (by omega)]
   simp only[qV,df]
   rw[jS,show decide (((j:Nat) : Int) > 0)=decide (j > 0) by simp]
   have fin:gT [N .i64 ((sn + (j + 1) : Nat) : Int),N .i64 ((j + 1:Nat) : Int)] Ma:=dH _ _ _ (by omega) ⟨j + 1,rfl,rfl,by omega,ka⟩
   have fin:ae .add (N .i64 ((sn + j:Nat) : Int)) (N .i64 1) fun t=>ae .add (N .i64 (j:Int)) (N .i64 1) fun t2=>gT [t,t2] Ma:=by
    rw[add1 (by omega),add1 (by omega)]; exact fin
   cases j with
   | zero =>
     simp only[Nat.lt_irrefl,gt_iff_lt,decide_false,pq,qV,df,bD]
     exact fin
   | succ k =>
     have hk:=List.pairwise_iff_getElem.1 hup k (k + 1) (by omega) hlt2 (by omega)
     rw[decide_eq_true (by omega)]
     simp only[o8,qV,eT,df]
     rw[PS s9 hlt2 (j:=0) (x:=St fs[k + 1].1) rfl,bu (by omega) (by omega),Nat.add_sub_cancel,PS s9 (i:=k) (by omega) (j:=0) (x:=St fs[k].1) rfl,afq,ou,
      decide_eq_false (fun h=>List.lt_irrefl _ (List.lt_trans h hk)),show(fs[k + 1].1 == fs[k].1)=false by
       rw[beq_eq_false_iff_ne]; intro e; rw[e] at hk; exact List.lt_irrefl _ hk]
     rw[Bool.or_self,bD]
     exact fin
  ·have he2:j=fs.length:=by
    have:¬ j<fs.length:=of_decide_eq_false sP
    omega
   subst he2
   rw[add1 (by omega)]
   refine hnext _ _ _ (by omega) ⟨i + 1,rfl, ?_,by omega,k89.trans ka⟩
   rw[hts]
 ·have he2:i=(gI es).length:=by
   have:¬ i<(gI es).length:=of_decide_eq_false hge
   omega
  subst he2
  rw[List.take_of_length_le (by rw[List.length_map]; exact Nat.le_refl _),hsum]
  refine hd (stk k8) (by omega) hvi.st fun va Ma oa ka=>?_
  refine he (stk (k8.trans ka)) (by omega) fun vb Mb ob kb=>?_
  obtain⟨q1,q2,q3⟩:=hcf
  rw[aL.len (aL.keep oa.jq kb (by simp)),aL.len ob.jq,jR,decide_eq_true q1]
  simp only[dx,eT]
  rw[aL.len ob.jq,aL.len (aL.keep oa.jq kb (by simp)),dM q1 (by omega),jR,decide_eq_true (by omega)]
  simp only[dx,eT]
  rw[aL.len ob.jq,jR,decide_eq_true q3]
  exact hQ Mb
structure ari (es es' : List aF) (c f a:List UInt8) : Prop where
 st:uZ es'
 len:es'.length≤60
 seen:(f,(a,1))∈bO es' c
 else_:∀ d,d≠c→bO es' d=bO es d
end Go.Ab.Crw.Viw
