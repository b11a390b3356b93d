/- Part 5 of the ground of the proofs of this seat (texts Q6 to C4). By an AI agent. -/
import Derived.Test.YtngfappichkflaaGreatFin4
set_option maxRecDepth 10000
set_option linter.unusedVariables false
set_option linter.unusedSimpArgs false
namespace Go.Ab.aB
open Go Go.Ab
theorem Sc:Sort.SWO lN where
 irrefl x:=by simp[lN]
 trans x y z:=by simp[lN]; omega
 ntrans x y z:=by simp[lN]; omega
def Sk (d3:Array Nat) (a e pv limit:Nat) (wb wp:Bool) : Array Nat :=
 if a > 0 && !lN d3[a - 1]! d3[pv]! then
  match Sort.partitionEqual lN d3 a e pv with
  | (mid,d4)=>if _h:a<mid∧mid≤e then Sort.pdq lN d4 mid e limit wb wp else d4
 else
  match Sort.partition lN d3 a e pv with
  | (mid,ap,d4) =>
    if _h:a≤mid∧mid<e then
     if mid - a<e - mid then Sort.pdq lN (Sort.pdq lN d4 a mid limit true true) (mid + 1) e limit (decide (mid - a ≥ (e - a) / 8)) ap
     else Sort.pdq lN (Sort.pdq lN d4 (mid + 1) e limit true true) a mid limit (decide (e - mid ≥ (e - a) / 8)) ap
    else d4
def aa9 (pi:Array Nat × Bool) (a e pv limit:Nat) (wb wp:Bool) : Array Nat:=if pi.2 then pi.1 else Sk pi.1 a e pv limit wb wp
def abA (d2:Array Nat) (a e pv:Nat) (hint:Sort.Hint) (limit:Nat) (wb wp:Bool) : Array Nat :=
 aa9 (if wb && wp && hint=.increasing then Sort.partialInsertionSort lN d2 a e else(d2,false)) a e pv limit wb wp
def acw (d1:Array Nat) (a e limit:Nat) (wb wp:Bool) : Array Nat :=
 abA (if (Sort.choosePivot lN d1 a e).2=.decreasing then Sort.reverseRange d1 a e else d1) a e (if (Sort.choosePivot lN d1 a e).2=.decreasing then(e - 1) - ((Sort.choosePivot lN d1 a e).1 - a) else(Sort.choosePivot lN d1 a e).1)
  (if (Sort.choosePivot lN d1 a e).2=.decreasing then .increasing else(Sort.choosePivot lN d1 a e).2) limit wb wp
theorem pdq_eq (d:Array Nat) (a e limit:Nat) (wb wp:Bool) : Sort.pdq lN d a e limit wb wp =
  if e - a≤12 then Sort.insertionSort lN d a e else if limit=0 then Sort.heapSort lN d a e else acw (if !wb then Sort.breakPatterns d a e else d) a e (if !wb then limit - 1 else limit) wb wp:=by
 rw[Sort.pdq]; rfl
theorem Ht (a e:Nat) : ∀ (k i:Nat) (d:Array Nat),e - i≤k→(Sort.insOuter lN a e i d).size=d.size
 | 0,i,d,h=>by rw[Sort.insOuter,if_neg (by omega)]
 | k + 1,i,d,h=>by
   rw[Sort.insOuter]
   split
   ·rw[Ht a e k _ _ (by omega),H7]
   ·rfl
theorem agX (d:Array Nat) (a e:Nat) : (Sort.insertionSort lN d a e).size=d.size:=Ht a e _ _ _ (Nat.le_refl _)
theorem ZL (first:Nat) : ∀ (k:Nat) (d:Array Nat),(Sort.heapPop lN first k d).size=d.size
 | 0,d=>rfl
 | k + 1,d=>by rw[Sort.heapPop,ZL first k,xI _ _ k _ _ (by omega),dS]
theorem aaM (d:Array Nat) (a e:Nat) : (Sort.heapSort lN d a e).size=d.size:=by rw[Sort.heapSort,ZL,RD]
theorem Lm:∀ (k i j:Nat) (d:Array Nat),j - i≤k→(Sort.reverseLoop i j d).size=d.size
 | 0,i,j,d,h=>by rw[Sort.reverseLoop,if_neg (by omega)]
 | k + 1,i,j,d,h=>by
   rw[Sort.reverseLoop]
   split
   ·rw[Lm k _ _ _ (by omega),dS]
   ·rfl
theorem Zo (d:Array Nat) (a e:Nat) : (Sort.reverseRange d a e).size=d.size:=Lm _ _ _ _ (Nat.le_refl _)
theorem yZ (a l m:Nat) (st:UInt64 × Array Nat) (i:Nat) : (Sort.breakStep a l m st i).2.size=st.2.size:=dS _ _ _
theorem QZ (d:Array Nat) (a e:Nat) : (Sort.breakPatterns d a e).size=d.size:=by
 unfold Sort.breakPatterns
 dsimp only
 split
 ·rw[yZ,yZ,yZ]
 ·rfl
theorem Rm (d:Array Nat) (a e pv:Nat) (h:a<e) : (Sort.partitionEqual lN d a e pv).2.size=d.size∧a<(Sort.partitionEqual lN d a e pv).1∧(Sort.partitionEqual lN d a e pv).1≤e:=by
 unfold Sort.partitionEqual
 have:=BI a _ (a + 1) (e - 1) (Sort.swp d a pv) (Nat.le_refl _)
 rw[dS] at this
 omega
theorem U3 (d:Array Nat) (a e pv:Nat) : (Sort.partition lN d a e pv).2.2.size=d.size:=by
 rw[FT]
 split
 ·show(Sort.swp _ _ _).size=_
  rw[dS,dS]
 ·show(Sort.swp _ _ _).size=_
  rw[dS,(Hm a _ _ _ _ (Nat.le_refl _)).2,dS,dS]
theorem yN:∀ (n:Nat) (d:Array Nat) (a e limit:Nat) (wb wp:Bool),e - a≤n→(Sort.pdq lN d a e limit wb wp).size=d.size
 | n,d,a,e,limit,wb,wp,hn=>by
   rw[pdq_eq]
   split
   ·exact agX d a e
   split
   ·exact aaM d a e
   have h1:(if !wb then Sort.breakPatterns d a e else d).size=d.size:=by split; exact QZ d a e; rfl
   rw[← h1]
   generalize (if !wb then Sort.breakPatterns d a e else d)=d1
   unfold acw
   have h2:(if (Sort.choosePivot lN d1 a e).2=.decreasing then Sort.reverseRange d1 a e else d1).size=d1.size:=by split; exact Zo d1 a e; rfl
   rw[← h2]
   generalize (if (Sort.choosePivot lN d1 a e).2=.decreasing then Sort.reverseRange d1 a e else d1)=d2
   generalize (if (Sort.choosePivot lN d1 a e).2=.decreasing then(e - 1) - ((Sort.choosePivot lN d1 a e).1 - a) else(Sort.choosePivot lN d1 a e).1)=pv
   generalize (if (Sort.choosePivot lN d1 a e).2=.decreasing then Sort.Hint.increasing else(Sort.choosePivot lN d1 a e).2)=hint
   unfold abA
   have h3:(if wb && wp && hint=.increasing then Sort.partialInsertionSort lN d2 a e else(d2,false)).1.size=d2.size:=by
    split
    ·exact Dq a e _ _ _
    ·rfl
   rw[← h3]
   generalize (if wb && wp && hint=.increasing then Sort.partialInsertionSort lN d2 a e else(d2,false))=pi
   unfold aa9
   split
   ·rfl
   unfold Sk
   have hE:=Rm pi.1 a e pv
   have hP:=U3 pi.1 a e pv
   generalize Sort.partitionEqual lN pi.1 a e pv=pe at *
   generalize Sort.partition lN pi.1 a e pv=pp at *
   obtain⟨mid,d4⟩:=pe
   obtain⟨anf,ap,d5⟩:=pp
   cases n with
   | zero=>omega
   | succ n =>
     split
     ·dsimp only
      split
      ·rw[yN n _ _ _ _ _ _ (by omega)]
       exact(hE (by omega)).1
      ·exact(hE (by omega)).1
     ·dsimp only at hP ⊢
      split
      ·split
       ·rw[yN n _ _ _ _ _ _ (by omega),yN n _ _ _ _ _ _ (by omega)]; exact hP
       ·rw[yN n _ _ _ _ _ _ (by omega),yN n _ _ _ _ _ _ (by omega)]; exact hP
      ·exact hP
def Xm (T m:Nat) (c:au) : Prop:=∀ {M:RM} {b a e limit:Nat} {d:Array Nat} {Q:ai},b<M.next→d.size≤60000→a≤e→e≤d.size→e - a<m→limit≤1000000→(∀ M',ag [] M M'→Q (.tup []) (PM M' b T (Sort.pdq lN d a e limit true true))) →
 c [vv b d.size,N .i64 (a:Int),N .i64 (e:Int),N .i64 (limit:Int)] (PM M b T d) Q
theorem ZO {T m:Nat} {ci ch cb cc cr cp cl ce ct cq:au} (hi:xh T (Sort.insertionSort lN) (fun _ _ _=>True) ci) (hh:xh T (Sort.heapSort lN) (fun _ a e=>a<e) ch) (hb:Sv T cb) (hc:L9 T cc) (hr:xh T Sort.reverseRange (fun _ a e=>a<e) cr)
  (hp:JH T cp) (hl:vJ cl) (he:MV T ce) (ht:WY T ct) (hq:Xm T m cq) : Xm T (m + 1) fun args M Q=>∃ a0 a1 a2 a3,args=[a0,a1,a2,a3]∧gq ci ch cb cc cr cp cl ce ct cq a0 a1 a2 a3 M Q:=by
 intro M b a e limit d Q hbn hsz hae hed hm hlim hQ
 refine⟨_,_,_,_,rfl, ?_⟩
 unfold gq
 simp only[gQ,fC,gp,bZ]
 obtain⟨R,hR⟩ : ∃ R,R=Sort.pdq lN d a e limit true true:=⟨_,rfl⟩
 rw[← hR] at hQ
 refine aJ (fun m' ys M3=>∃ (a e limit:Nat) (wb wp:Bool) (d3:Array Nat) (M4:RM),m'=e - a∧ys=[N .i64 (a:Int),N .i64 (e:Int),N .i64 (limit:Int),Bo wb,Bo wp]∧a≤e∧e≤d.size∧e - a<m + 1∧limit≤1000000∧M3=PM M4 b T d3∧ag [] M M4∧d3.size=d.size∧R=Sort.pdq lN d3 a e limit wb wp) _
  ⟨a,e,limit,true,true,d,M,rfl,rfl,hae,hed,hm,hlim,rfl,ag.refl _ _,rfl,hR⟩ ?_
 clear hR hae hed hm hlim
 rintro next m' ys M3 hnext ⟨a,e,limit,wb,wp,d3,M4,rfl,rfl,hae,hed,hm,hlim,rfl,k4,hs3,hR⟩
 dsimp only[aa]
 have hb4:b<M4.next:=Nat.lt_of_lt_of_le hbn k4.next
 rw[pdq_eq] at hR
 rw[gG hae (by omega),show(12:Int)=((12:Nat) : Int) from rfl,qo]
 refine aH (fun hg=>?_) (fun hg=>?_)
 ·rw[if_pos (of_decide_eq_true hg)] at hR
  rw[← hs3]
  refine hi hb4 (by omega) hae (by omega) trivial ?_
  rw[← hR]
  exact hQ M4 k4
 have hg:¬ e - a≤12:=of_decide_eq_false hg
 rw[if_neg hg] at hR
 rw[show(0:Int)=((0:Nat) : Int) from rfl,Wj]
 refine aH (fun hg0=>?_) (fun hg0=>?_)
 ·rw[if_pos (of_decide_eq_true hg0)] at hR
  rw[← hs3]
  refine hh hb4 (by omega) hae (by omega) (by omega) ?_
  rw[← hR]
  exact hQ M4 k4
 have hg0:¬ limit=0:=of_decide_eq_false hg0
 rw[if_neg hg0] at hR
 refine bA (fun zs M'=>∃ (M5:RM),zs=[N .i64 (((if !wb then limit - 1 else limit) : Nat) : Int)]∧M'=PM M5 b T (if !wb then Sort.breakPatterns d3 a e else d3)∧ag [] M M5) ?_ ?_
 ·rintro zs M' ⟨M5,rfl,rfl,k5⟩
  dsimp only[aa]
  have hs5:(if !wb then Sort.breakPatterns d3 a e else d3).size=d.size:=by
   split
   ·rw[QZ,hs3]
   ·exact hs3
  have hl5:(if !wb then limit - 1 else limit)≤1000000:=by split <;> omega
  generalize (if !wb then Sort.breakPatterns d3 a e else d3)=d5 at *
  generalize (if !wb then limit - 1 else limit)=lim at *
  have hb5:b<M5.next:=Nat.lt_of_lt_of_le hbn k5.next
  rw[← hs5]
  refine hc hb5 (by omega) (by omega) (by omega) fun M6 k6=>?_
  rw[hs5]
  have hcr:=Sort.choosePivot_holds lN d5 a e (by omega)
  unfold acw at hR
  generalize Sort.choosePivot lN d5 a e=cpv at *
  have k6':=k5.trans k6
  have hb6:b<M6.next:=Nat.lt_of_lt_of_le hbn k6'.next
  rw[oW,o8]
  refine bA (fun zs M'=>zs=[N .i64 (((if cpv.2=.decreasing then(e - 1) - (cpv.1 - a) else cpv.1) : Nat) : Int),N .i64 (qM (if cpv.2=.decreasing then .increasing else cpv.2))]∧M'=PM M6 b T (if cpv.2=.decreasing then Sort.reverseRange d5 a e else d5)) ?_ ?_
  ·rintro zs M' ⟨rfl,rfl⟩
   dsimp only[aa]
   have hs7:(if cpv.2=.decreasing then Sort.reverseRange d5 a e else d5).size=d.size:=by
    split
    ·rw[Zo,hs5]
    ·exact hs5
   have hpv:a≤(if cpv.2=.decreasing then(e - 1) - (cpv.1 - a) else cpv.1)∧(if cpv.2=.decreasing then(e - 1) - (cpv.1 - a) else cpv.1)<e:=by
    split <;> omega
   generalize (if cpv.2=.decreasing then Sort.reverseRange d5 a e else d5)=d7 at *
   generalize (if cpv.2=.decreasing then(e - 1) - (cpv.1 - a) else cpv.1)=pv at *
   generalize (if cpv.2=.decreasing then Sort.Hint.increasing else cpv.2)=hint at *
   unfold abA aa9 at hR
   -- behind the short insertion sort
   have rest:∀ d8:Array Nat,d8.size=d.size→R=Sk d8 a e pv lim wb wp→∀ (J:ai),True→ae .gtr (N .i64 (a:Int)) (N .i64 ((0:Nat) : Int)) fun t74 =>
     af t74 true (fun k'=>ae .sub (N .i64 (a:Int)) (N .i64 1) fun t78=>ax (vv b d.size) t78 1 fun t79=>aj (PM M6 b T d8) t79 fun t80=>ax (vv b d.size) (N .i64 (pv:Int)) 1 fun t83=>aj (PM M6 b T d8) t83 fun t84=>cl [t80,t84] (PM M6 b T d8) fun t85 y8=>dQ t85 fun t86=>k' t86 y8 none) (fun k=>k .undef (PM M6 b T d8) none) fun Ro gK PK =>
     aK t74 Ro (Bo false) fun t87=>ay t87 (
      ce [vv b d.size,N .i64 (a:Int),N .i64 (e:Int),N .i64 (pv:Int)] gK fun t92 yH=>next [t92,N .i64 (e:Int),N .i64 (lim:Int),Bo wb,Bo wp] yH) (
      ct [vv b d.size,N .i64 (a:Int),N .i64 (e:Int),N .i64 (pv:Int)] gK fun t99 kg=>gu t99 0 fun kF=>gu t99 1 fun nP=>ae .sub kF (N .i64 (a:Int)) fun t105=>ae .sub (N .i64 (e:Int)) kF fun nO =>
      ae .quo (N .i64 ((e - a:Nat) : Int)) (N .i64 8) fun xX=>ae .lss t105 nO fun wI=>ay wI (ae .geq t105 xX fun t116=>cq [vv b d.size,N .i64 (a:Int),kF,N .i64 (lim:Int)] kg fun Cv lZ=>ae .add kF (N .i64 1) fun CK=>next [CK,N .i64 (e:Int),N .i64 (lim:Int),t116,nP] lZ) (
      ae .geq nO xX fun CF=>ae .add kF (N .i64 1) fun uD=>cq [vv b d.size,uD,N .i64 (e:Int),N .i64 (lim:Int)] kg fun Ca FE=>next [N .i64 (a:Int),kF,N .i64 (lim:Int),CF,nP] FE)):=fun d8 hs8 hR8 _ _=>by
    unfold Sk at hR8
    rw[wK]
    refine Rs (p:=!lN d8[a - 1]! d8[pv]!) (fun hc k hk=>?_) ?_
    ·have hc:a > 0:=of_decide_eq_true hc
     rw[bL (by omega) (by omega),PM.rd hs8.symm (by omega),PM.rd hs8.symm (by omega)]
     refine hl ?_
     rw[bK]
     exact hk
    refine aH (fun h=>?_) (fun h=>?_)
    ·rw[if_pos h] at hR8
     rw[← hs8]
     refine he hb6 (by omega) hpv.1 hpv.2 (by omega) ?_
     have hE:=Rm d8 a e pv (by omega)
     generalize Sort.partitionEqual lN d8 a e pv=pe at *
     dsimp only at hR8
     rw[dif_pos ⟨hE.2.1,hE.2.2⟩] at hR8
     exact hnext _ _ _ (by omega) ⟨pe.1,e,lim,wb,wp,pe.2,M6,rfl,rfl,hE.2.2,hed,by omega,hl5,rfl,k6',by rw[hE.1,hs8],hR8⟩
    ·rw[if_neg (by rw[h]; decide)] at hR8
     rw[← hs8]
     refine ht hb6 (by omega) hpv.1 hpv.2 (by omega) ?_
     have hT:=Sort.partition_holds lN Sc d8 a e pv hpv.1 hpv.2 (by omega)
     have hTs:=U3 d8 a e pv
     generalize Sort.partition lN d8 a e pv=pp at *
     obtain⟨mid,ap,d9⟩:=pp
     dsimp only at hR8 hT hTs ⊢
     rw[dif_pos ⟨hT.1,hT.2.1⟩] at hR8
     have hT1:=hT.1
     have hT2:=hT.2.1
     rw[oW,o8,gG hT1 (by omega),gG (by omega) (by omega),nW]
     refine⟨by decide, ?_⟩
     rw[show(8:Int)=((8:Nat) : Int) from rfl,uN,bi (by omega) (by omega),eO]
     refine aH (fun hc1=>?_) (fun hc1=>?_)
     ·have hc1:mid - a<e - mid:=of_decide_eq_true hc1
      rw[if_pos hc1] at hR8
      rw[mG,← hTs]
      refine hq hb6 (by omega) hT1 (by omega) (by omega) hl5 fun M7 k7=>?_
      rw[add1 (by omega)]
      exact hnext _ _ _ (by omega) ⟨mid + 1,e,lim,_,ap,_,M7,rfl,rfl,by omega,hed,by omega,hl5,rfl,k6'.trans k7,by rw[yN _ _ _ _ _ _ _ (Nat.le_refl _),hTs,hs8],hR8⟩
     ·have hc1:¬ mid - a<e - mid:=of_decide_eq_false hc1
      rw[if_neg hc1] at hR8
      rw[mG,add1 (by omega),← hTs]
      refine hq hb6 (by omega) (by omega) (by omega) (by omega) hl5 fun M7 k7=>?_
      exact hnext _ _ _ (by omega) ⟨a,mid,lim,_,ap,_,M7,rfl,rfl,hT1,by omega,by omega,hl5,rfl,k6'.trans k7,by rw[yN _ _ _ _ _ _ _ (Nat.le_refl _),hTs,hs8],hR8⟩
   refine bA (fun zs M'=>∃ d8:Array Nat,M'=PM M6 b T d8∧d8.size=d.size∧R=Sk d8 a e pv lim wb wp) ?_ ?_
   ·rintro zs M' ⟨d8,rfl,hs8,hR8⟩
    exact rest d8 hs8 hR8 (fun _ _=>True) trivial
   intro J10 QY
   have no:¬ (wb && wp && decide (hint=.increasing))=true→J10 [] (PM M6 b T d7):=fun hn=>by
    have hpi:(if (wb && wp && decide (hint=.increasing))=true then Sort.partialInsertionSort lN d7 a e else(d7,false))=(d7,false):=if_neg hn
    rw[hpi] at hR
    exact QY _ _ ⟨d7,rfl,hs7,hR⟩
   cases wb with
   | false =>
     rw[bN]
     dsimp only
     rw[dh,bN]
     dsimp only
     rw[bN]
     dsimp only
     rw[dh,bG]
     exact no (by simp)
   | true =>
     rw[dG]
     dsimp only
     rw[eT]
     cases wp with
     | false =>
       rw[bN]
       dsimp only
       rw[bN]
       dsimp only
       rw[dh,bG]
       exact no (by simp)
     | true =>
       rw[dG]
       dsimp only
       rw[dG]
       dsimp only
       rw[cO,eT]
       by_cases hin:hint=.increasing
       ·rw[show(qM hint == 1)=true by rw[hin]; rfl,dH]
        have hpi:(if (true && true && decide (hint=.increasing))=true then Sort.partialInsertionSort lN d7 a e else(d7,false))=Sort.partialInsertionSort lN d7 a e:=if_pos (by simp[hin])
        rw[hpi] at hR
        rw[← hs7]
        refine hp hb6 (by omega) (by omega) (by omega) ?_
        have hs8:(Sort.partialInsertionSort lN d7 a e).1.size=d.size:=by
         rw[Sort.partialInsertionSort,Dq,hs7]
        generalize Sort.partialInsertionSort lN d7 a e=pi at *
        refine aH (fun h=>?_) (fun h=>?_)
        ·rw[if_pos h] at hR
         rw[← hR]
         exact hQ M6 k6'
        ·rw[if_neg (by rw[h]; decide)] at hR
         exact QY _ _ ⟨pi.1,rfl,hs8,hR⟩
       ·rw[show(qM hint == 1)=false by cases hint <;> first | rfl | exact absurd rfl hin,bG]
        exact no (by simp[hin])
  intro J6 hJ6
  rw[cO]
  by_cases hdec:cpv.2=.decreasing
  ·rw[show(qM cpv.2 == 2)=true by rw[hdec]; rfl,dH,← hs5]
   refine hr hb6 (by omega) hae (by omega) (by omega) ?_
   rw[bL (by omega) (by omega),gG (by omega) (by omega),gG (by omega) (by omega)]
   exact hJ6 _ _ ⟨by rw[if_pos hdec,if_pos hdec]; rfl,by rw[if_pos hdec]⟩
  ·rw[show(qM cpv.2 == 2)=false by cases h:cpv.2 <;> first | rfl | exact absurd h hdec,bG]
   exact hJ6 _ _ ⟨by rw[if_neg hdec,if_neg hdec],by rw[if_neg hdec]⟩
 intro J hJ
 rw[bK]
 cases wb with
 | true =>
   rw[Bool.not_true,bG]
   exact hJ _ _ ⟨M4,rfl,rfl,k4⟩
 | false =>
   rw[Bool.not_false,dH,← hs3]
   refine hb hb4 (by omega) hae (by omega) fun M5 k5=>?_
   rw[bL (by omega) (by omega)]
   exact hJ _ _ ⟨M5,rfl,rfl,k4.trans k5⟩
end Go.Ab.aB
namespace Go.Ab.Crw
open Go Go.Ab Go.Ab.aB
section
variable {α:Type} [Inhabited α] {E:Enc α} {M M' : RM} {T b z n i j:Nat} {d:Array α}
structure At (E:Enc α) (T b:Nat) (d:Array α) (M:RM) : Prop where
 heap:M.heap b=some (.row (E.row d.toList) true T 0)
 lt:b<M.next
abbrev sv (b n z:Nat) : AV:=.slc b 0 n (.op z)
theorem At.keep {α:Type} {E:Enc α} {d:Array α} (h:At E T b d M) (k:ag [] M M') : At E T b d M':=⟨k.aR h.heap h.lt (by simp),Nat.lt_of_lt_of_le h.lt k.next⟩
theorem Nq (hi:i<d.size) : d[i]! = d[i]:=getElem!_pos d i hi
theorem At.idx {kd:IntKind} {K:AV→Prop} (hi:i<n) : ax (sv b n z) (N kd (i:Int)) z K=K (.ptr b (i * z)):=by
 rw[lS]
 simp only[Int.toNat_natCast]
 rw[Nat.zero_add]
 exact propext ⟨fun h=>h.2.2,fun h=>⟨by omega,by omega,h⟩⟩
theorem At.ld (h:At E T b d M) (hz:E.size=z) (hi:i<d.size) {K:AV→Prop} : aF M (.ptr b (i * z)) z K=K (.agg (E.cells d[i]!)):=by
 subst hz
 have hl:M.loads b (i * E.size) E.size=some (E.cells d[i]!):=by
  have hlen:(E.row d.toList).length=d.size * E.size:=by rw[Enc.dX,Array.length_toList]
  have hsum:i * E.size + E.size≤d.size * E.size:=by rw[← Nat.succ_mul]; exact Nat.mul_le_mul_right _ hi
  rw[RM.bW h.heap (by omega),E.Mm (by rw[Array.length_toList]; exact hi),Nq hi]
  simp
 rw[fK,hl]
 simp
theorem At.rd (h:At E T b d M) (hz:E.size=z) (hn:n=d.size) (hi:i<d.size) {kd:IntKind} {K:AV→Prop} : (ax (sv b n z) (N kd (i:Int)) z fun p=>aF M p z K)=K (.agg (E.cells d[i]!)):=by
 rw[At.idx (by omega),h.ld hz hi]
theorem Mo {α:Type} {E:Enc α} {l:List α} {i:Nat} {x:α} (hi:i<l.length) : (E.row l).take (i * E.size)++E.cells x++(E.row l).drop (i * E.size + E.size)=E.row (l.set i x):=by
 rw[List.set_eq_take_append_cons_drop,if_pos hi,E.pU,E.jE,E.qX,← Nat.succ_mul,E.rO,List.append_assoc]
theorem At.st {α:Type} {E:Enc α} {d:Array α} (h:At E T b d M) (hz:E.size=z) (hi:i<d.size) {x:α} {K:RM→Prop} (hK:∀ M',At E T b (d.setIfInBounds i x) M'→ag [b] M M'→M'.next=M.next→K M') : aG M (.ptr b (i * z)) (.agg (E.cells x)) z K:=by
 subst hz
 have hlen:(E.row d.toList).length=d.size * E.size:=by rw[Enc.dX,Array.length_toList]
 have hsum:i * E.size + E.size≤d.size * E.size:=by rw[← Nat.succ_mul]; exact Nat.mul_le_mul_right _ hi
 rw[tY]
 refine⟨E.len x,_,RM.xc h.heap (by show i * E.size + (E.cells x).length≤_; rw[E.len]; omega) (Nat.zero_le _) (E.one x), ?_⟩
 refine hK _ ⟨?_,h.lt⟩ ((ag.refl _ _).put _ (.inr (by simp))) rfl
 rw[aU]
 have hi' : i<d.toList.length:=by rw[Array.length_toList]; exact hi
 have:=Mo (E:=E) (x:=x) hi'
 rw[Array.toList_setIfInBounds,← this]
 show some (RB.row ((E.row d.toList).take (i * E.size)++E.cells x++(E.row d.toList).drop (i * E.size + (E.cells x).length)) true T 0)=_
 rw[E.len]
theorem dC (d:Array α) (i j:Nat) : (Sort.swp d i j).size=d.size:=by simp[Sort.swp]
theorem At.swap (h:At E T b d M) (hz:E.size=z) (hn:n=d.size) (hi:i<d.size) (hj:j<d.size) {k1 k2:IntKind} {K:RM→Prop} (hK:∀ M',At E T b (Sort.swp d i j) M'→ag [b] M M'→K M') :
  ax (sv b n z) (N k1 (i:Int)) z fun p=>aG M p (.agg (E.cells d[j]!)) z fun M1=>ax (sv b n z) (N k2 (j:Int)) z fun q=>aG M1 q (.agg (E.cells d[i]!)) z K:=by
 rw[At.idx (by omega)]
 refine h.st hz hi fun M1 h1 k1 _=>?_
 rw[At.idx (by omega)]
 refine h1.st hz (by simpa using hj) fun M2 h2 k2 _=>?_
 exact hK M2 h2 (k1.trans k2)
def yM (E:Enc α) (lt:α→α→Bool) (c:List AV→RM→ai→Prop) : Prop:=∀ {M:RM} {x y:α} {Q:ai},(∀ (n:Int) M',decide (n<0)=lt x y→ag [] M M'→Q (N .i64 n) M')→c [.agg (E.cells x),.agg (E.cells y)] M Q
theorem yM.use {α:Type} {E:Enc α} {lt:α→α→Bool} {c:List AV→RM→ai→Prop} (h:yM E lt c) {M:RM} {x y:α} {K:AV→RM→Prop} (hK:∀ M',ag [] M M'→K (Bo (lt x y)) M') :
  c [.agg (E.cells x),.agg (E.cells y)] M fun t M'=>ae .lss t (N .i64 0) fun u=>K u M':=by
 refine h fun n M' hn k=>?_
 rw[cK,hn]
 exact hK M' k
def SortG (E:Enc α) (T z:Nat) (fv:AV) (f:Array α→Nat→Nat→Array α) (P:Array α→Nat→Nat→Prop) (c:au) : Prop:=∀ {M:RM} {b a e:Nat} {d:Array α} {Q:ai},At E T b d M→d.size≤60000→a≤e→e≤d.size→P d a e→(∀ M',At E T b (f d a e) M'→ag [b] M M'→Q (.tup []) M') →
 c [sv b d.size z,N .i64 (a:Int),N .i64 (e:Int),fv] M Q
end
section
variable {α:Type} [Inhabited α] (lt:α→α→Bool)
theorem Ll (a:Nat) : ∀ (j:Nat) (d:Array α),(Sort.insInner lt a j d).size=d.size
 | 0,d=>rfl
 | j + 1,d=>by
   rw[Sort.insInner]
   split
   ·rw[Ll a j,dC]
   ·rfl
theorem K7 (a e:Nat) : ∀ (k i:Nat) (d:Array α),e - i≤k→(Sort.insOuter lt a e i d).size=d.size
 | 0,i,d,h=>by rw[Sort.insOuter,if_neg (by omega)]
 | k + 1,i,d,h=>by
   rw[Sort.insOuter]
   split
   ·rw[K7 a e k _ _ (by omega),Ll]
   ·rfl
theorem ak8 (d:Array α) (a e:Nat) : (Sort.insertionSort lt d a e).size=d.size:=K7 lt a e _ _ _ (Nat.le_refl _)
theorem BO (hi first:Nat) : ∀ (k lo:Nat) (d:Array α),hi - lo≤k→(Sort.siftDown lt hi first lo d).size=d.size
 | 0,lo,d,h=>by rw[Sort.siftDown,dif_pos (by omega)]
 | k + 1,lo,d,h=>by
   rw[Sort.siftDown]
   split
   ·rfl
   ·split
    ·split
     ·rfl
     ·split
      ·rw[BO hi first k _ _ (by omega),dC]
      ·rfl
    ·split
     ·rfl
     ·rw[BO hi first k _ _ (by omega),dC]
theorem UU (hi first:Nat) : ∀ (k:Nat) (d:Array α),(Sort.heapBuild lt hi first k d).size=d.size
 | 0,d=>rfl
 | k + 1,d=>by rw[Sort.heapBuild,UU hi first k,BO lt hi first hi _ _ (by omega)]
theorem acH (first:Nat) : ∀ (k:Nat) (d:Array α),(Sort.heapPop lt first k d).size=d.size
 | 0,d=>rfl
 | k + 1,d=>by rw[Sort.heapPop,acH first k,BO lt _ _ k _ _ (by omega),dC]
theorem agB (d:Array α) (a e:Nat) : (Sort.heapSort lt d a e).size=d.size:=by rw[Sort.heapSort,acH,UU]
theorem Ou:∀ (k i j:Nat) (d:Array α),j - i≤k→(Sort.reverseLoop i j d).size=d.size
 | 0,i,j,d,h=>by rw[Sort.reverseLoop,if_neg (by omega)]
 | k + 1,i,j,d,h=>by
   rw[Sort.reverseLoop]
   split
   ·rw[Ou k _ _ _ (by omega),dC]
   ·rfl
theorem adg (d:Array α) (a e:Nat) : (Sort.reverseRange d a e).size=d.size:=Ou _ _ _ _ (Nat.le_refl _)
theorem vL (a l m:Nat) (st:UInt64 × Array α) (i:Nat) : (Sort.breakStep a l m st i).2.size=st.2.size:=dC _ _ _
theorem Vl (d:Array α) (a e:Nat) : (Sort.breakPatterns d a e).size=d.size:=by
 unfold Sort.breakPatterns
 dsimp only
 split
 ·rw[vL,vL,vL]
 ·rfl
theorem Ba:∀ (j:Nat) (d:Array α),(Sort.shiftDown lt j d).size=d.size
 | 0,d=>rfl
 | j + 1,d=>by
   rw[Sort.shiftDown]
   split
   ·rfl
   ·rw[Ba j,dC]
theorem Oj (e:Nat) : ∀ (k j:Nat) (d:Array α),e - j≤k→(Sort.shiftUp lt e j d).size=d.size
 | 0,j,d,h=>by rw[Sort.shiftUp,if_neg (by omega)]
 | k + 1,j,d,h=>by
   rw[Sort.shiftUp]
   split
   ·split
    ·rfl
    ·rw[Oj e k _ _ (by omega),dC]
   ·rfl
theorem zm (a b s i:Nat) (d:Array α) : Sort.partialIns lt a b (s + 1) i d =
  if Sort.scanSorted lt d b i=b then(d,true) else if b - a<50 then(d,false) else
   Sort.partialIns lt a b s (Sort.scanSorted lt d b i) (if b - Sort.scanSorted lt d b i ≥ 2 then Sort.shiftUp lt b (Sort.scanSorted lt d b i + 1) (if Sort.scanSorted lt d b i - a ≥ 2 then Sort.shiftDown lt (Sort.scanSorted lt d b i - 1) (Sort.swp d (Sort.scanSorted lt d b i) (Sort.scanSorted lt d b i - 1)) else Sort.swp d (Sort.scanSorted lt d b i) (Sort.scanSorted lt d b i - 1))
    else(if Sort.scanSorted lt d b i - a ≥ 2 then Sort.shiftDown lt (Sort.scanSorted lt d b i - 1) (Sort.swp d (Sort.scanSorted lt d b i) (Sort.scanSorted lt d b i - 1)) else Sort.swp d (Sort.scanSorted lt d b i) (Sort.scanSorted lt d b i - 1))):=rfl
theorem FC (a e:Nat) : ∀ (s i:Nat) (d:Array α),(Sort.partialIns lt a e s i d).1.size=d.size
 | 0,i,d=>rfl
 | s + 1,i,d=>by
   rw[zm]
   split
   ·rfl
   ·split
    ·rfl
    ·rw[FC a e s]
     have h1:∀ x,(if x - a ≥ 2 then Sort.shiftDown lt (x - 1) (Sort.swp d x (x - 1)) else Sort.swp d x (x - 1)).size=d.size:=fun x=>by
      split
      ·rw[Ba,dC]
      ·rw[dC]
     split
     ·rw[Oj lt e e _ _ (by omega),h1]
     ·rw[h1]
theorem Jl (p:α→Bool) (d:Array α) (J:Nat) : ∀ (n i:Nat),J + 1 - i≤n→i≤Sort.scanUp p d J i∧Sort.scanUp p d J i≤max (J + 1) i
 | 0,i,h=>by
   rw[Sort.scanUp,if_neg (by simp; omega)]; omega
 | n + 1,i,h=>by
   rw[Sort.scanUp]
   split
   ·rename_i hc
    rw[Bool.and_eq_true] at hc
    have:=of_decide_eq_true hc.1
    have:=Jl p d J n (i + 1) (by omega)
    omega
   ·omega
theorem Dv (p:α→Bool) (d:Array α) (i:Nat) : ∀ j,Sort.scanDown p d i j≤j
 | 0=>Nat.le_refl _
 | j + 1=>by
   rw[Sort.scanDown]
   split
   ·have:=Dv p d i j; omega
   ·omega
theorem Fe (a:Nat) : ∀ (n i j:Nat) (d:Array α),j + 1 - i≤n→i≤(Sort.partEqLoop lt a i j d).1∧(Sort.partEqLoop lt a i j d).1≤max (j + 1) i∧(Sort.partEqLoop lt a i j d).2.size=d.size
 | n,i,j,d,h=>by
   have h1:=Jl (fun x=>!lt d[a]! x) d j _ i (Nat.le_refl _)
   have h2:=Dv (fun x=>lt d[a]! x) d (Sort.scanUp (fun x=>!lt d[a]! x) d j i) j
   rw[Sort.partEqLoop]
   generalize Sort.scanUp (fun x=>!lt d[a]! x) d j i=i2 at *
   generalize Sort.scanDown (fun x=>lt d[a]! x) d i2 j=j2 at *
   split
   ·exact⟨h1.1,h1.2,rfl⟩
   ·split
    ·cases n with
     | zero=>omega
     | succ n =>
       have h3:=Fe a n (i2 + 1) (j2 - 1) (Sort.swp d i2 j2) (by omega)
       rw[dC] at h3
       omega
    ·exact⟨h1.1,h1.2,rfl⟩
theorem Kz (a:Nat) : ∀ (n i j:Nat) (d:Array α),j + 1 - i≤n→(Sort.partLoop lt a i j d).1≤j∧(Sort.partLoop lt a i j d).2.size=d.size
 | n,i,j,d,h=>by
   have h1:=Jl (fun x=>lt x d[a]!) d j _ i (Nat.le_refl _)
   have h2:=Dv (fun x=>!lt x d[a]!) d (Sort.scanUp (fun x=>lt x d[a]!) d j i) j
   rw[Sort.partLoop]
   generalize Sort.scanUp (fun x=>lt x d[a]!) d j i=i2 at *
   generalize Sort.scanDown (fun x=>!lt x d[a]!) d i2 j=j2 at *
   split
   ·exact⟨h2,rfl⟩
   ·split
    ·cases n with
     | zero=>omega
     | succ n =>
       have h3:=Kz a n (i2 + 1) (j2 - 1) (Sort.swp d i2 j2) (by omega)
       rw[dC] at h3
       exact⟨by omega,h3.2⟩
    ·exact⟨h2,rfl⟩
theorem Vs (d:Array α) (a e pv:Nat) (h:a<e) : (Sort.partitionEqual lt d a e pv).2.size=d.size∧a<(Sort.partitionEqual lt d a e pv).1∧(Sort.partitionEqual lt d a e pv).1≤e:=by
 unfold Sort.partitionEqual
 have:=Fe lt a _ (a + 1) (e - 1) (Sort.swp d a pv) (Nat.le_refl _)
 rw[dC] at this
 omega
def pI (d2:Array α) (a e:Nat) : Nat:=Sort.scanUp (fun x=>lt x d2[a]!) d2 (e - 1) (a + 1)
def pJ (d2:Array α) (a e:Nat) : Nat:=Sort.scanDown (fun x=>!lt x d2[a]!) d2 (pI lt d2 a e) (e - 1)
def pL (d2:Array α) (a e:Nat) : Nat × Array α:=Sort.partLoop lt a (pI lt d2 a e + 1) (pJ lt d2 a e - 1) (Sort.swp d2 (pI lt d2 a e) (pJ lt d2 a e))
theorem Bq (d:Array α) (a e pv:Nat) : Sort.partition lt d a e pv =
  if pI lt (Sort.swp d a pv) a e > pJ lt (Sort.swp d a pv) a e then(pJ lt (Sort.swp d a pv) a e,true,Sort.swp (Sort.swp d a pv) (pJ lt (Sort.swp d a pv) a e) a)
  else((pL lt (Sort.swp d a pv) a e).1,false,Sort.swp (pL lt (Sort.swp d a pv) a e).2 (pL lt (Sort.swp d a pv) a e).1 a):=rfl
theorem YM (d:Array α) (a e pv:Nat) : (Sort.partition lt d a e pv).2.2.size=d.size:=by
 rw[Bq]
 split
 ·show(Sort.swp _ _ _).size=_
  rw[dC,dC]
 ·show(Sort.swp _ _ _).size=_
  rw[dC,pL,(Kz lt a _ _ _ _ (Nat.le_refl _)).2,dC,dC]
def gC (d3:Array α) (a e pv limit:Nat) (wb wp:Bool) : Array α :=
 if a > 0 && !lt d3[a - 1]! d3[pv]! then
  match Sort.partitionEqual lt d3 a e pv with
  | (mid,d4)=>if _h:a<mid∧mid≤e then Sort.pdq lt d4 mid e limit wb wp else d4
 else
  match Sort.partition lt d3 a e pv with
  | (mid,ap,d4) =>
    if _h:a≤mid∧mid<e then
     if mid - a<e - mid then Sort.pdq lt (Sort.pdq lt d4 a mid limit true true) (mid + 1) e limit (decide (mid - a ≥ (e - a) / 8)) ap
     else Sort.pdq lt (Sort.pdq lt d4 (mid + 1) e limit true true) a mid limit (decide (e - mid ≥ (e - a) / 8)) ap
    else d4
def gP (pi:Array α × Bool) (a e pv limit:Nat) (wb wp:Bool) : Array α:=if pi.2 then pi.1 else gC lt pi.1 a e pv limit wb wp
def gB (d2:Array α) (a e pv:Nat) (hint:Sort.Hint) (limit:Nat) (wb wp:Bool) : Array α :=
 gP lt (if wb && wp && hint=.increasing then Sort.partialInsertionSort lt d2 a e else(d2,false)) a e pv limit wb wp
def gA (d1:Array α) (a e limit:Nat) (wb wp:Bool) : Array α :=
 gB lt (if (Sort.choosePivot lt d1 a e).2=.decreasing then Sort.reverseRange d1 a e else d1) a e (if (Sort.choosePivot lt d1 a e).2=.decreasing then(e - 1) - ((Sort.choosePivot lt d1 a e).1 - a) else(Sort.choosePivot lt d1 a e).1)
  (if (Sort.choosePivot lt d1 a e).2=.decreasing then .increasing else(Sort.choosePivot lt d1 a e).2) limit wb wp
theorem IX (d:Array α) (a e limit:Nat) (wb wp:Bool) : Sort.pdq lt d a e limit wb wp =
  if e - a≤12 then Sort.insertionSort lt d a e else if limit=0 then Sort.heapSort lt d a e else gA lt (if !wb then Sort.breakPatterns d a e else d) a e (if !wb then limit - 1 else limit) wb wp:=by
 rw[Sort.pdq]; rfl
theorem CW:∀ (n:Nat) (d:Array α) (a e limit:Nat) (wb wp:Bool),e - a≤n→(Sort.pdq lt d a e limit wb wp).size=d.size
 | n,d,a,e,limit,wb,wp,hn=>by
   rw[IX]
   split
   ·exact ak8 lt d a e
   split
   ·exact agB lt d a e
   have h1:(if !wb then Sort.breakPatterns d a e else d).size=d.size:=by split; exact Vl d a e; rfl
   rw[← h1]
   generalize (if !wb then Sort.breakPatterns d a e else d)=d1
   unfold gA
   have h2:(if (Sort.choosePivot lt d1 a e).2=.decreasing then Sort.reverseRange d1 a e else d1).size=d1.size:=by split; exact adg d1 a e; rfl
   rw[← h2]
   generalize (if (Sort.choosePivot lt d1 a e).2=.decreasing then Sort.reverseRange d1 a e else d1)=d2
   generalize (if (Sort.choosePivot lt d1 a e).2=.decreasing then(e - 1) - ((Sort.choosePivot lt d1 a e).1 - a) else(Sort.choosePivot lt d1 a e).1)=pv
   generalize (if (Sort.choosePivot lt d1 a e).2=.decreasing then Sort.Hint.increasing else(Sort.choosePivot lt d1 a e).2)=hint
   unfold gB
   have h3:(if wb && wp && hint=.increasing then Sort.partialInsertionSort lt d2 a e else(d2,false)).1.size=d2.size:=by
    split
    ·exact FC lt a e _ _ _
    ·rfl
   rw[← h3]
   generalize (if wb && wp && hint=.increasing then Sort.partialInsertionSort lt d2 a e else(d2,false))=pi
   unfold gP
   split
   ·rfl
   unfold gC
   have hE:=Vs lt pi.1 a e pv
   have hP:=YM lt pi.1 a e pv
   generalize Sort.partitionEqual lt pi.1 a e pv=pe at *
   generalize Sort.partition lt pi.1 a e pv=pp at *
   obtain⟨mid,d4⟩:=pe
   obtain⟨anf,ap,d5⟩:=pp
   cases n with
   | zero=>omega
   | succ n =>
     split
     ·dsimp only
      split
      ·rw[CW n _ _ _ _ _ _ (by omega)]
       exact(hE (by omega)).1
      ·exact(hE (by omega)).1
     ·dsimp only at hP ⊢
      split
      ·split
       ·rw[CW n _ _ _ _ _ _ (by omega),CW n _ _ _ _ _ _ (by omega)]; exact hP
       ·rw[CW n _ _ _ _ _ _ (by omega),CW n _ _ _ _ _ _ (by omega)]; exact hP
      ·exact hP
theorem ze (d:Array α) (i j k:Nat) : (((Sort.order2 lt d i j k).1=i∧(Sort.order2 lt d i j k).2.1=j)∨((Sort.order2 lt d i j k).1=j∧(Sort.order2 lt d i j k).2.1=i))∧k≤(Sort.order2 lt d i j k).2.2∧(Sort.order2 lt d i j k).2.2≤k + 1:=by
 unfold Sort.order2
 split <;> simp
theorem JI (d:Array α) {i j h k n:Nat} (hi:i<n) (hj:j<n) (hh:h<n) : (Sort.median lt d i j h k).1<n∧(Sort.median lt d i j h k).2≤k + 3:=by
 unfold Sort.median
 dsimp only
 have o1:=ze lt d i j k
 generalize Sort.order2 lt d i j k=r1 at *
 have o2:=ze lt d r1.2.1 h r1.2.2
 generalize Sort.order2 lt d r1.2.1 h r1.2.2=r2 at *
 have o3:=ze lt d r1.1 r2.1 r2.2.2
 omega
end
section
variable {α:Type} [Inhabited α] {E:Enc α} {M M' : RM} {T b z n i j:Nat} {d:Array α} {ks:List Nat}
theorem At.keep' {α:Type} {E:Enc α} {d:Array α} (h:At E T b d M) (k:ag ks M M') (hb:b ∉ ks) : At E T b d M':=⟨k.aR h.heap h.lt hb,Nat.lt_of_lt_of_le h.lt k.next⟩
theorem A7 {c p:Bool} {f:KR→Prop} {P:RM→Prop} {G:AV→RM→Prop} (h0:P M) (hf:c=true→∀ k:KR,(∀ M',P M'→k (Bo p) M' none)→f k) (hG:∀ M',P M'→G (Bo (c && p)) M') :
  af (Bo c) true f (fun k=>k .undef M none) (fun t M' b=>aK (Bo c) t (Bo false) fun u=>G u M'):=by
 cases c with
 | false=>rw[rQ]; dsimp only; rw[dh]; exact hG M h0
 | true=>rw[r9]; exact hf rfl _ fun M' h=>by rw[eT]; exact hG M' h
variable {body:(List AV→RM→Prop)→List AV→RM→Prop} {p:α→Bool} {P:RM→Prop}
theorem MK {J i0:Nat} (hP:P M) (h:∀ (next:List AV→RM→Prop) (i:Nat) (M' : RM),P M'→i0≤i→i≤max (J + 1) i0→((decide (i≤J) && p d[i]!)=true→∀ M'',P M''→next [N .i64 ((i + 1:Nat) : Int)] M'')→((decide (i≤J) && p d[i]!)=false→i=Sort.scanUp p d J i0)→body next [N .i64 (i:Int)] M') :
  aV body [N .i64 (i0:Int)] M:=by
 obtain⟨R,hR⟩ : ∃ R,R=Sort.scanUp p d J i0:=⟨_,rfl⟩
 refine aJ (fun m ys M3=>∃ (i:Nat),m=J + 1 - i∧ys=[N .i64 (i:Int)]∧i0≤i∧i≤max (J + 1) i0∧P M3∧R=Sort.scanUp p d J i) _ ⟨i0,rfl,rfl,Nat.le_refl _,by omega,hP,hR⟩ ?_
 rintro next m ys M3 hnext ⟨i,rfl,rfl,h0,hi,h3,hm⟩
 rw[Sort.scanUp] at hm
 refine h next i M3 h3 h0 hi (fun hc M4 h4=>?_) (fun hc=>?_)
 ·rw[if_pos hc] at hm
  have hij:i≤J:=by
   rw[Bool.and_eq_true] at hc
   exact of_decide_eq_true hc.1
  exact hnext _ _ _ (by omega) ⟨i + 1,rfl,rfl,by omega,by omega,h4,hm⟩
 ·rw[if_neg (by rw[hc]; decide)] at hm
  rw[← hR]; exact hm.symm
theorem F8 {i j0:Nat} (hP:P M) (h1:1≤i) (h:∀ (next:List AV→RM→Prop) (j:Nat) (M' : RM),P M'→j≤j0→(j=j0∨i≤j + 1)→((decide (i≤j) && p d[j]!)=true→∀ M'',P M''→next [N .i64 ((j - 1:Nat) : Int)] M'')→((decide (i≤j) && p d[j]!)=false→j=Sort.scanDown p d i j0)→body next [N .i64 (j:Int)] M') :
  aV body [N .i64 (j0:Int)] M:=by
 obtain⟨R,hR⟩ : ∃ R,R=Sort.scanDown p d i j0:=⟨_,rfl⟩
 refine aJ (fun m ys M3=>∃ (j:Nat),m=j + 1∧ys=[N .i64 (j:Int)]∧j≤j0∧(j=j0∨i≤j + 1)∧P M3∧R=Sort.scanDown p d i j) _ ⟨j0,rfl,rfl,Nat.le_refl _,.inl rfl,hP,hR⟩ ?_
 rintro next m ys M3 hnext ⟨j,rfl,rfl,h0,hi,h3,hm⟩
 refine h next j M3 h3 h0 hi (fun hc M4 h4=>?_) (fun hc=>?_)
 ·have hij:i≤j:=by
   rw[Bool.and_eq_true] at hc
   exact of_decide_eq_true hc.1
  obtain⟨k,rfl⟩ : ∃ k,j=k + 1:=⟨j - 1,by omega⟩
  rw[Sort.scanDown,if_pos hc] at hm
  exact hnext _ _ _ (by omega) ⟨k,rfl,rfl,by omega,by omega,h4,hm⟩
 ·rw[← hR]
  cases j with
  | zero=>exact hm.symm
  | succ k=>rw[Sort.scanDown,if_neg (by rw[hc]; decide)] at hm; exact hm.symm
end
def aae (TX:Nat) (c:au) : Prop:=∀ {M:RM} {s:Nat} {r:UInt64} {Q:ai},M.heap s=some (.row [N .u64 (r.toNat:Int)] false TX 0)→s<M.next→(∀ M',M'.heap s=some (.row [N .u64 ((Sort.xorNext r).toNat:Int)] false TX 0)→ag [s] M M'→M'.next=M.next→Q (N .u64 ((Sort.xorNext r).toNat:Int)) M')→c [.ptr s 0] M Q
theorem YN {TX:Nat} : aae TX fun args M Q=>∃ a0,args=[a0]∧lh a0 M Q:=by
 intro M s r Q hh hlt hQ
 refine⟨_,rfl, ?_⟩
 unfold lh
 have st:∀ (M:RM) (r r' : UInt64) (K:RM→Prop),M.heap s=some (.row [N .u64 (r.toNat:Int)] false TX 0)→(∀ M',M'.heap s=some (.row [N .u64 (r'.toNat:Int)] false TX 0)→ag [s] M M'→M'.next=M.next→K M')→aG M (.ptr s 0) (N .u64 (r'.toNat:Int)) 1 K:=fun M r r' K h hK=>by
  rw[fT h (by simp) rfl rfl]
  exact hK _ (aU _) ((ag.refl _ _).put _ (.inr (by simp))) rfl
 rw[aM,av hh rfl,aM,av hh rfl,BL]
 refine⟨by decide, ?_⟩
 rw[show(13:Int)=((13:Nat) : Int) from rfl,Gh (k:=13) (n:=13) rfl (by decide),vB,u64_xor,aM]
 refine st _ _ _ _ hh fun M1 h1 k1 n1=>?_
 rw[aM,av h1 rfl,aM,av h1 rfl,GK]
 refine⟨by decide, ?_⟩
 rw[show(7:Int)=((7:Nat) : Int) from rfl,U0 (k:=7) (n:=7) rfl (by decide),vB,u64_xor,aM]
 refine st _ _ _ _ h1 fun M2 h2 k2 n2=>?_
 rw[aM,av h2 rfl,aM,av h2 rfl,BL]
 refine⟨by decide, ?_⟩
 rw[show(17:Int)=((17:Nat) : Int) from rfl,Gh (k:=17) (n:=17) rfl (by decide),vB,u64_xor,aM]
 refine st _ _ _ _ h2 fun M3 h3 k3 n3=>?_
 rw[aM,av h3 rfl]
 exact hQ M3 h3 ((k1.trans k2).trans k3) (by omega)
def Ei {α:Type} [Inhabited α] (a l m i0:Nat) (d:Array α) : Nat→UInt64 × Array α
 | 0=>(UInt64.ofNat l,d)
 | k + 1=>Sort.breakStep a l m (Ei a l m i0 d k) (i0 + k)
theorem YD {α:Type} [Inhabited α] (a l m i0:Nat) (d:Array α) : ∀ k,(Ei a l m i0 d k).2.size=d.size
 | 0=>rfl
 | k + 1=>by
   rw[Ei,vL,YD a l m i0 d k]
abbrev aC:=aB × (List UInt8 × List UInt8 × List UInt8)
def aA:Enc aC:=⟨5,fun x=>aP x.1++[St x.2.1,St x.2.2.1,St x.2.2.2],fun _=>rfl,fun _=>rfl⟩
theorem aaA {T:Nat} {fv:AV} {lt:aC→aC→Bool} {cv:FuncId→au} (hl:yM aA lt (eG cv fv)) : SortG aA T 5 fv (Sort.insertionSort lt) (fun _ _ _=>True) fun args M Q=>∃ a0 a1 a2 a3,args=[a0,a1,a2,a3]∧eB cv a0 a1 a2 a3 M Q:=by
 intro M b a e d Q hat hsz hae he _ hQ
 refine⟨_,_,_,_,rfl, ?_⟩
 unfold eB
 simp only[gQ,fC,gp]
 rw[add1 (by omega)]
 rw[Sort.insertionSort] at hQ
 obtain⟨R,hR⟩ : ∃ R,R=Sort.insOuter lt a e (a + 1) d:=⟨_,rfl⟩
 rw[← hR] at hQ
 refine aJ (fun m ys M3=>∃ (i:Nat) (d3:Array aC),m=d.size - i∧ys=[N .i64 (i:Int)]∧i≤d.size + 1∧At aA T b d3 M3∧ag [b] M M3∧d3.size=d.size∧R=Sort.insOuter lt a e i d3) _ ⟨a + 1,d,rfl,rfl,by omega,hat,ag.refl _ _,rfl,hR⟩ ?_
 rintro next m ys M3 hnext ⟨i,d3,rfl,rfl,hi,h3,k3,hs3,hm⟩
 dsimp only[aa]
 rw[eO]
 refine aH (fun hlt=>?_) (fun hge=>?_)
 ·have hlt:i<e:=of_decide_eq_true hlt
  rw[Sort.insOuter,if_pos hlt] at hm
  obtain⟨R5,hR5⟩ : ∃ R5,R5=Sort.insInner lt a i d3:=⟨_,rfl⟩
  rw[← hR5] at hm
  refine aJ (fun m ys M5=>∃ (j:Nat) (d5:Array aC),m=j + 1∧ys=[N .i64 (j:Int)]∧j≤i∧At aA T b d5 M5∧ag [b] M M5∧d5.size=d.size∧R5=Sort.insInner lt a j d5) _ ⟨i,d3,rfl,rfl,Nat.le_refl _,h3,k3,hs3,hR5⟩ ?_
  rintro kT m ys M5 eu ⟨j,d5,rfl,rfl,hj,h5,k5,hs5,hm5⟩
  dsimp only[aa]
  rw[wK]
  have out:∀ M6,At aA T b d5 M6→ag [b] M M6→Sort.insInner lt a j d5=d5→ae .add (N .i64 (i:Int)) (N .i64 1) (fun t14=>next [t14] M6):=fun M6 h6 k6 h=>by
   rw[add1 (by omega)]
   refine hnext _ _ _ (by omega) ⟨i + 1,d5,rfl,rfl,by omega,h6,k6,hs5, ?_⟩
   rw[hm,hm5,h]
  by_cases hg:j > a
  ·obtain⟨k,rfl⟩ : ∃ k,j=k + 1:=⟨j - 1,by omega⟩
   rw[decide_eq_true hg,r9]
   dsimp only
   rw[h5.rd (z:=5) rfl hs5.symm (by omega),bL (by omega) (by omega),Nat.add_sub_cancel,h5.rd (z:=5) rfl hs5.symm (by omega)]
   refine hl.use fun M6 k6=>?_
   have h6:=h5.keep k6
   have k6':=k5.trans (k6.mono (cs:=[b]) (by simp))
   rw[eT]
   rw[Sort.insInner] at hm5 out
   refine aH (fun h=>?_) (fun h=>?_)
   ·rw[if_pos (by simp[hg,h])] at hm5
    rw[bL (by omega) (by omega),bL (by omega) (by omega),Nat.add_sub_cancel,h6.rd (z:=5) rfl hs5.symm (by omega),h6.rd (z:=5) rfl hs5.symm (by omega)]
    refine h6.swap (z:=5) rfl hs5.symm (by omega) (by omega) fun M7 h7 k7=>?_
    rw[bL (by omega) (by omega),Nat.add_sub_cancel]
    exact eu _ _ _ (by omega) ⟨k,_,rfl,rfl,by omega,h7,k6'.trans k7,by rw[dC]; exact hs5,hm5⟩
   ·exact out M6 h6 k6' (by rw[if_neg (by simp[h])])
  ·rw[decide_eq_false hg,rQ]
   dsimp only
   rw[dh,bG]
   refine out M5 h5 k5 ?_
   cases j with
   | zero=>rfl
   | succ k=>rw[Sort.insInner,if_neg (by simp[hg])]
 ·have hge:¬ i<e:=of_decide_eq_false hge
  rw[Sort.insOuter,if_neg hge] at hm
  subst hm
  exact hQ M3 h3 k3
theorem abC {T:Nat} {fv:AV} : SortG aA T 5 fv Sort.reverseRange (fun _ a e=>a<e) fun args M Q=>∃ a0 a1 a2 a3,args=[a0,a1,a2,a3]∧jk a0 a1 a2 a3 M Q:=by
 intro M b a e d Q hat hsz hae he hP hQ
 refine⟨_,_,_,_,rfl, ?_⟩
 unfold jk
 rw[bL (by omega) (by omega)]
 rw[Sort.reverseRange] at hQ
 obtain⟨R,hR⟩ : ∃ R,R=Sort.reverseLoop a (e - 1) d:=⟨_,rfl⟩
 rw[← hR] at hQ
 refine aJ (fun m ys M3=>∃ (i j:Nat) (d3:Array aC),m=j - i∧ys=[N .i64 (i:Int),N .i64 (j:Int)]∧j<d.size∧i≤d.size∧At aA T b d3 M3∧ag [b] M M3∧d3.size=d.size∧R=Sort.reverseLoop i j d3) _ ⟨a,e - 1,d,rfl,rfl,by omega,by omega,hat,ag.refl _ _,rfl,hR⟩ ?_
 rintro next m ys M3 hnext ⟨i,j,d3,rfl,rfl,hj,hi,h3,k3,hs3,hm⟩
 dsimp only[aa]
 rw[eO]
 rw[Sort.reverseLoop] at hm
 refine aH (fun hlt=>?_) (fun hge=>?_)
 ·have hlt:i<j:=of_decide_eq_true hlt
  rw[if_pos hlt] at hm
  rw[h3.rd (z:=5) rfl hs3.symm (by omega),h3.rd (z:=5) rfl hs3.symm (by omega)]
  refine h3.swap (z:=5) rfl hs3.symm (by omega) (by omega) fun M4 h4 k4=>?_
  rw[add1 (by omega),bL (by omega) (by omega)]
  exact hnext _ _ _ (by omega) ⟨i + 1,j - 1,_,rfl,rfl,by omega,by omega,h4,k3.trans k4,by rw[dC]; exact hs3,hm⟩
 ·have hge:¬ i<j:=of_decide_eq_false hge
  rw[if_neg hge] at hm
  subst hm
  exact hQ M3 h3 k3
def Ya (T:Nat) (fv:AV) (lt:aC→aC→Bool) (c:au) : Prop:=∀ {M:RM} {b lo hi first:Nat} {d:Array aC} {Q:ai},At aA T b d M→d.size≤60000→first + hi≤d.size→lo≤1000000→(∀ M',At aA T b (Sort.siftDown lt hi first lo d) M'→ag [b] M M'→Q (.tup []) M') →
 c [sv b d.size 5,N .i64 (lo:Int),N .i64 (hi:Int),N .i64 (first:Int),fv] M Q
theorem Xo {T:Nat} {fv:AV} {lt:aC→aC→Bool} {cv:FuncId→au} (hl:yM aA lt (eG cv fv)) : Ya T fv lt fun args M Q=>∃ a0 a1 a2 a3 a4,args=[a0,a1,a2,a3,a4]∧kZ cv a0 a1 a2 a3 a4 M Q:=by
 intro M b lo hi first d Q hat hsz hfe hlo hQ
 refine⟨_,_,_,_,_,rfl, ?_⟩
 unfold kZ
 simp only[gQ,fC,gp,bZ]
 obtain⟨R,hR⟩ : ∃ R,R=Sort.siftDown lt hi first lo d:=⟨_,rfl⟩
 rw[← hR] at hQ
 refine aJ (fun m ys M3=>∃ (r:Nat) (d3:Array aC),m=1000000 + hi - r∧ys=[N .i64 (r:Int)]∧(r≤1000000)∧At aA T b d3 M3∧ag [b] M M3∧d3.size=d.size∧R=Sort.siftDown lt hi first r d3) _ ⟨lo,d,rfl,rfl,hlo,hat,ag.refl _ _,rfl,hR⟩ ?_
 rintro next m ys M3 hnext ⟨r,d3,rfl,rfl,hr,h3,k3,hs3,hm⟩
 dsimp only[aa]
 rw[aiL (by omega),add1 (by omega),mG]
 rw[Sort.siftDown] at hm
 refine aH (fun hg=>?_) (fun hg=>?_)
 ·rw[dif_pos (of_decide_eq_true hg)] at hm
  subst hm
  exact hQ M3 h3 k3
 have hg:¬ 2 * r + 1 ≥ hi:=of_decide_eq_false hg
 rw[dif_neg hg] at hm
 refine bA (fun zs M'=>∃ c:Nat,zs=[N .i64 (c:Int)]∧At aA T b d3 M'∧ag [b] M M'∧r<c∧c<hi∧R=if !lt d3[first + r]! d3[first + c]! then d3 else Sort.siftDown lt hi first c (Sort.swp d3 (first + r) (first + c))) ?_ ?_
 ·rintro zs M' ⟨c,rfl,h4,k4,hrc,anH,hm2⟩
  dsimp only[aa]
  rw[addN (by omega),h4.rd (z:=5) rfl hs3.symm (by omega),addN (by omega),h4.rd (z:=5) rfl hs3.symm (by omega)]
  refine hl.use fun M5 k5=>?_
  have h5:=h4.keep k5
  have k5':=k4.trans (k5.mono (cs:=[b]) (by simp))
  rw[bK]
  refine aH (fun h=>?_) (fun h=>?_)
  ·rw[if_pos h] at hm2
   subst hm2
   exact hQ M5 h5 k5'
  ·rw[if_neg (by rw[h]; decide)] at hm2
   rw[addN (by omega),addN (by omega),addN (by omega),h5.rd (z:=5) rfl hs3.symm (by omega),addN (by omega),h5.rd (z:=5) rfl hs3.symm (by omega)]
   refine h5.swap (z:=5) rfl hs3.symm (by omega) (by omega) fun M6 h6 k6=>?_
   exact hnext _ _ _ (by omega) ⟨c,_,rfl,rfl,by omega,h6,k5'.trans k6,by rw[dC]; exact hs3,hm2⟩
 intro J hJ
 rw[add1 (by omega),eO]
 refine A7 (P:=fun M'=>At aA T b d3 M'∧ag [b] M M') (p:=lt d3[first + (2 * r + 1)]! d3[first + (2 * r + 1) + 1]!) ⟨h3,k3⟩ (fun hc k hk=>?_) fun M4 ⟨h4,k4⟩=>?_
 ·have hc:2 * r + 1 + 1<hi:=of_decide_eq_true hc
  rw[addN (by omega),h3.rd (z:=5) rfl hs3.symm (by omega),addN (by omega),add1 (by omega),h3.rd (z:=5) rfl hs3.symm (by omega)]
  exact hl.use fun M5 k5=>hk M5 ⟨h3.keep k5,k3.trans (k5.mono (cs:=[b]) (by simp))⟩
 refine aH (fun h=>?_) (fun h=>?_)
 ·have hc:2 * r + 1 + 1<hi:=by
   rw[Bool.and_eq_true] at h
   exact of_decide_eq_true h.1
  rw[add1 (by omega)]
  refine hJ _ _ ⟨2 * r + 2,rfl,h4,k4,by omega,by omega, ?_⟩
  rw[if_pos h,dif_pos (by omega)] at hm
  exact hm
 ·refine hJ _ _ ⟨2 * r + 1,rfl,h4,k4,by omega,by omega, ?_⟩
  rw[if_neg (by rw[h]; decide)] at hm
  exact hm
theorem Wm {T:Nat} {fv:AV} {lt:aC→aC→Bool} {cs:au} (hs:Ya T fv lt cs) : SortG aA T 5 fv (Sort.heapSort lt) (fun _ a e=>a<e) fun args M Q=>∃ a0 a1 a2 a3,args=[a0,a1,a2,a3]∧kX cs a0 a1 a2 a3 M Q:=by
 intro M b a e d Q hat hsz hae he hP hQ
 refine⟨_,_,_,_,rfl, ?_⟩
 unfold kX
 rw[Sort.heapSort] at hQ
 rw[gG hae (by omega),bL (by omega) (by omega),nW]
 refine⟨by decide, ?_⟩
 rw[show(2:Int)=((2:Nat) : Int) from rfl,uN,bi (by omega) (by omega)]
 obtain⟨R,hR⟩ : ∃ R,R=Sort.heapBuild lt (e - a) a ((e - a - 1) / 2 + 1) d:=⟨_,rfl⟩
 rw[← hR] at hQ
 refine aJ (fun m ys M3=>∃ (k:Nat) (d3:Array aC),m=k + 1∧ys=[N .i64 ((k:Int) - 1)]∧k≤(e - a - 1) / 2 + 1∧At aA T b d3 M3∧ag [b] M M3∧d3.size=d.size∧R=Sort.heapBuild lt (e - a) a k d3) _ ⟨(e - a - 1) / 2 + 1,d,rfl,by congr 3; omega,Nat.le_refl _,hat,ag.refl _ _,rfl,hR⟩ ?_
 rintro next m ys M3 hnext ⟨k,d3,rfl,rfl,hk,h3,k3,hs3,hm⟩
 dsimp only[aa]
 rw[ik]
 refine aH (fun hg=>?_) (fun hg=>?_)
 ·have hg:1≤k:=by
   have:(k:Int) - 1 ≥ 0:=of_decide_eq_true hg
   omega
  obtain⟨k',rfl⟩ : ∃ k',k=k' + 1:=⟨k - 1,by omega⟩
  rw[Sort.heapBuild] at hm
  rw[show((k' + 1:Nat) : Int) - 1=(k' : Int) by omega,← hs3]
  refine hs h3 (by omega) (by omega) (by omega) fun M4 h4 k4=>?_
  rw[iV,bi (by omega) (by omega)]
  exact hnext _ _ _ (by omega) ⟨k',_,rfl,rfl,by omega,h4,k3.trans k4,by rw[BO lt _ _ (e - a) _ _ (by omega)]; exact hs3,hm⟩
 ·have hk0:k=0:=by
   have:¬ (k:Int) - 1 ≥ 0:=of_decide_eq_false hg
   omega
  subst hk0
  rw[Sort.heapBuild] at hm
  rw[hm] at hQ
  rw[bL (by omega) (by omega)]
  obtain⟨R4,hR4⟩ : ∃ R4,R4=Sort.heapPop lt a (e - a) d3:=⟨_,rfl⟩
  rw[← hR4] at hQ
  refine aJ (fun m ys M4=>∃ (k:Nat) (d4:Array aC),m=k + 1∧ys=[N .i64 ((k:Int) - 1)]∧k≤e - a∧At aA T b d4 M4∧ag [b] M M4∧d4.size=d.size∧R4=Sort.heapPop lt a k d4) _ ⟨e - a,d3,rfl,by congr 3; omega,Nat.le_refl _,h3,k3,hs3,hR4⟩ ?_
  rintro kT m ys M4 eu ⟨k,d4,rfl,rfl,hk,h4,k4,hs4,hm4⟩
  dsimp only[aa]
  rw[ik]
  refine aH (fun hg=>?_) (fun hg=>?_)
  ·have hg:1≤k:=by
    have:(k:Int) - 1 ≥ 0:=of_decide_eq_true hg
    omega
   obtain⟨k',rfl⟩ : ∃ k',k=k' + 1:=⟨k - 1,by omega⟩
   rw[Sort.heapPop] at hm4
   rw[show((k' + 1:Nat) : Int) - 1=(k' : Int) by omega,addN (by omega),addN (by omega),h4.rd (z:=5) rfl hs4.symm (by omega),h4.rd (z:=5) rfl hs4.symm (by omega)]
   refine h4.swap (z:=5) rfl hs4.symm (by omega) (by omega) fun M5 h5 k5=>?_
   rw[show d.size=(Sort.swp d4 a (a + k')).size by rw[dC]; exact hs4.symm]
   refine hs (lo:=0) h5 (by rw[dC]; omega) (by rw[dC]; omega) (by decide) fun M6 h6 k6=>?_
   rw[iV,bi (by omega) (by omega)]
   exact eu _ _ _ (by omega) ⟨k',_,rfl,rfl,by omega,h6,(k4.trans k5).trans k6,by rw[BO lt _ _ k' _ _ (by omega),dC]; exact hs4,hm4⟩
  ·have hk0:k=0:=by
    have:¬ (k:Int) - 1 ≥ 0:=of_decide_eq_false hg
    omega
   subst hk0
   rw[Sort.heapPop] at hm4
   subst hm4
   exact hQ M4 h4 k4
def Mj (T:Nat) (fv:AV) (lt:aC→aC→Bool) (c:au) : Prop:=∀ {M:RM} {b a e pv:Nat} {d:Array aC} {Q:ai},At aA T b d M→d.size≤60000→a≤pv→pv<e→e≤d.size→(∀ M',At aA T b (Sort.partitionEqual lt d a e pv).2 M'→ag [b] M M'→Q (N .i64 (((Sort.partitionEqual lt d a e pv).1:Nat) : Int)) M') →
 c [sv b d.size 5,N .i64 (a:Int),N .i64 (e:Int),N .i64 (pv:Int),fv] M Q
theorem Ni {T:Nat} {fv:AV} {lt:aC→aC→Bool} {cv:FuncId→au} (hl:yM aA lt (eG cv fv)) : Mj T fv lt fun args M Q=>∃ a0 a1 a2 a3 a4,args=[a0,a1,a2,a3,a4]∧iN cv a0 a1 a2 a3 a4 M Q:=by
 intro M b a e pv d Q hat hsz hap hpe he hQ
 refine⟨_,_,_,_,_,rfl, ?_⟩
 unfold iN
 simp only[gQ,fC,gp]
 rw[Sort.partitionEqual] at hQ
 rw[hat.rd (z:=5) rfl rfl (by omega),hat.rd (z:=5) rfl rfl (by omega)]
 refine hat.swap (z:=5) rfl rfl (by omega) (by omega) fun M2 h2 k2=>?_
 rw[add1 (by omega),bL (by omega) (by omega)]
 obtain⟨R,hR⟩ : ∃ R,R=Sort.partEqLoop lt a (a + 1) (e - 1) (Sort.swp d a pv):=⟨_,rfl⟩
 rw[← hR] at hQ
 refine aJ (fun m ys M3=>∃ (i j:Nat) (d3:Array aC),m=j + 1 - i∧ys=[N .i64 (i:Int),N .i64 (j:Int)]∧a + 1≤i∧i≤e + 1∧j<e∧At aA T b d3 M3∧ag [b] M M3∧d3.size=d.size∧R=Sort.partEqLoop lt a i j d3) _ ⟨a + 1,e - 1,_,rfl,rfl,Nat.le_refl _,by omega,by omega,h2,k2,dC _ _ _,hR⟩ ?_
 rintro next m ys M3 hnext ⟨i,j,d3,rfl,rfl,hai,hie,hje,h3,k3,hs3,hm⟩
 dsimp only[aa]
 rw[Sort.partEqLoop] at hm
 refine MK (P:=fun M'=>At aA T b d3 M'∧ag [b] M M') (p:=fun x=>!lt d3[a]! x) (d:=d3) (J:=j) ⟨h3,k3⟩ fun kT i2 M4 ⟨h4,k4⟩ h0 h1 hgo hstop=>?_
 dsimp only[aa]
 rw[qo]
 refine A7 (P:=fun M'=>At aA T b d3 M'∧ag [b] M M') (p:=!lt d3[a]! d3[i2]!) ⟨h4,k4⟩ (fun hc k hk=>?_) fun M5 h5=>?_
 ·have hc:i2≤j:=of_decide_eq_true hc
  rw[h4.rd (z:=5) rfl hs3.symm (by omega),h4.rd (z:=5) rfl hs3.symm (by omega)]
  refine hl.use fun M5 k5=>?_
  rw[bK]
  exact hk M5 ⟨h4.keep k5,k4.trans (k5.mono (cs:=[b]) (by simp))⟩
 refine aH (fun h=>?_) (fun h=>?_)
 ·rw[add1 (by omega)]
  exact hgo h M5 h5
 have hi2:=hstop h
 rw[← hi2] at hm
 refine F8 (P:=fun M'=>At aA T b d3 M'∧ag [b] M M') (p:=fun x=>lt d3[a]! x) (d:=d3) (i:=i2) h5 (by omega) fun xA j2 M6 ⟨h6,k6⟩ q0 q1 yn oz=>?_
 dsimp only[aa]
 rw[qo]
 refine A7 (P:=fun M'=>At aA T b d3 M'∧ag [b] M M') (p:=lt d3[a]! d3[j2]!) ⟨h6,k6⟩ (fun hc k hk=>?_) fun M7 ⟨h7,k7⟩=>?_
 ·have hc:i2≤j2:=of_decide_eq_true hc
  rw[h6.rd (z:=5) rfl hs3.symm (by omega),h6.rd (z:=5) rfl hs3.symm (by omega)]
  exact hl.use fun M5 k5=>hk M5 ⟨h6.keep k5,k6.trans (k5.mono (cs:=[b]) (by simp))⟩
 refine aH (fun h=>?_) (fun h=>?_)
 ·have hc:i2≤j2:=by
   rw[Bool.and_eq_true] at h
   exact of_decide_eq_true h.1
  rw[bL (by omega) (by omega)]
  exact yn h M7 ⟨h7,k7⟩
 have hj2:=oz h
 simp only[← hj2] at hm
 rw[wK]
 refine aH (fun hg=>?_) (fun hg=>?_)
 ·rw[if_pos (of_decide_eq_true hg)] at hm
  rw[hm] at hQ
  exact hQ M7 h7 k7
 ·have hg:¬ i2 > j2:=of_decide_eq_false hg
  rw[if_neg hg,dif_pos (by omega)] at hm
  rw[h7.rd (z:=5) rfl hs3.symm (by omega),h7.rd (z:=5) rfl hs3.symm (by omega)]
  refine h7.swap (z:=5) rfl hs3.symm (by omega) (by omega) fun M8 h8 k8=>?_
  rw[add1 (by omega),bL (by omega) (by omega)]
  exact hnext _ _ _ (by omega) ⟨i2 + 1,j2 - 1,_,rfl,rfl,by omega,by omega,by omega,h8,k7.trans k8,by rw[dC,hs3],hm⟩
def Vu (T:Nat) (fv:AV) (lt:aC→aC→Bool) (c:au) : Prop:=∀ {M:RM} {b a e pv:Nat} {d:Array aC} {Q:ai},At aA T b d M→d.size≤60000→a≤pv→pv<e→e≤d.size→(∀ M',At aA T b (Sort.partition lt d a e pv).2.2 M'→ag [b] M M'→Q (.tup [N .i64 (((Sort.partition lt d a e pv).1:Nat) : Int),Bo (Sort.partition lt d a e pv).2.1]) M') →
 c [sv b d.size 5,N .i64 (a:Int),N .i64 (e:Int),N .i64 (pv:Int),fv] M Q
theorem VC {T:Nat} {fv:AV} {lt:aC→aC→Bool} {cv:FuncId→au} (hl:yM aA lt (eG cv fv)) : Vu T fv lt fun args M Q=>∃ a0 a1 a2 a3 a4,args=[a0,a1,a2,a3,a4]∧kG cv a0 a1 a2 a3 a4 M Q:=by
 intro M b a e pv d Q hat hsz hap hpe he hQ
 refine⟨_,_,_,_,_,rfl, ?_⟩
 unfold kG
 simp only[gQ,fC,gp]
 have hs2:=dC d a pv
 rw[Bq] at hQ
 rw[hat.rd (z:=5) rfl rfl (by omega),hat.rd (z:=5) rfl rfl (by omega)]
 refine hat.swap (z:=5) rfl rfl (by omega) (by omega) fun M2 h2 k2=>?_
 rw[add1 (by omega),bL (by omega) (by omega)]
 generalize Sort.swp d a pv=d2 at *
 refine MK (P:=fun M'=>At aA T b d2 M'∧ag [b] M M') (p:=fun x=>lt x d2[a]!) (d:=d2) (J:=e - 1) ⟨h2,k2⟩ fun kT i M3 ⟨h3,k3⟩ h0 h1 hgo hstop=>?_
 dsimp only[aa]
 rw[qo]
 refine A7 (P:=fun M'=>At aA T b d2 M'∧ag [b] M M') (p:=lt d2[i]! d2[a]!) ⟨h3,k3⟩ (fun hc k hk=>?_) fun M4 h4=>?_
 ·have hc:i≤e - 1:=of_decide_eq_true hc
  rw[h3.rd (z:=5) rfl hs2.symm (by omega),h3.rd (z:=5) rfl hs2.symm (by omega)]
  exact hl.use fun M5 k5=>hk M5 ⟨h3.keep k5,k3.trans (k5.mono (cs:=[b]) (by simp))⟩
 refine aH (fun h=>?_) (fun h=>?_)
 ·rw[add1 (by omega)]
  exact hgo h M4 h4
 have hi2:i=pI lt d2 a e:=hstop h
 have WA:pJ lt d2 a e=Sort.scanDown (fun x=>!lt x d2[a]!) d2 (pI lt d2 a e) (e - 1):=rfl
 have X9:pL lt d2 a e=Sort.partLoop lt a (pI lt d2 a e + 1) (pJ lt d2 a e - 1) (Sort.swp d2 (pI lt d2 a e) (pJ lt d2 a e)):=rfl
 rw[← hi2] at WA X9 hQ
 refine F8 (P:=fun M'=>At aA T b d2 M'∧ag [b] M M') (p:=fun x=>!lt x d2[a]!) (d:=d2) (i:=i) h4 (by omega) fun xA j M5 ⟨h5,k5⟩ q0 q1 yn oz=>?_
 dsimp only[aa]
 rw[qo]
 refine A7 (P:=fun M'=>At aA T b d2 M'∧ag [b] M M') (p:=!lt d2[j]! d2[a]!) ⟨h5,k5⟩ (fun hc k hk=>?_) fun M6 ⟨h6,k6⟩=>?_
 ·have hc:i≤j:=of_decide_eq_true hc
  rw[h5.rd (z:=5) rfl hs2.symm (by omega),h5.rd (z:=5) rfl hs2.symm (by omega)]
  refine hl.use fun M7 k7=>?_
  rw[bK]
  exact hk M7 ⟨h5.keep k7,k5.trans (k7.mono (cs:=[b]) (by simp))⟩
 refine aH (fun h=>?_) (fun h=>?_)
 ·have hc:i≤j:=by
   rw[Bool.and_eq_true] at h
   exact of_decide_eq_true h.1
  rw[bL (by omega) (by omega)]
  exact yn h M6 ⟨h6,k6⟩
 have hj2:=oz h
 rw[← hj2] at WA
 rw[WA] at X9 hQ
 rw[wK]
 refine aH (fun hg=>?_) (fun hg=>?_)
 ·rw[if_pos (of_decide_eq_true hg)] at hQ
  rw[h6.rd (z:=5) rfl hs2.symm (by omega),h6.rd (z:=5) rfl hs2.symm (by omega)]
  exact h6.swap (z:=5) rfl hs2.symm (by omega) (by omega) fun M7 h7 k7=>hQ M7 h7 (k6.trans k7)
 have hg:¬ i > j:=of_decide_eq_false hg
 rw[if_neg hg] at hQ
 rw[h6.rd (z:=5) rfl hs2.symm (by omega),h6.rd (z:=5) rfl hs2.symm (by omega)]
 refine h6.swap (z:=5) rfl hs2.symm (by omega) (by omega) fun M7 h7 k7=>?_
 rw[add1 (by omega),bL (by omega) (by omega)]
 generalize pL lt d2 a e=R at *
 refine aJ (fun m ys M3=>∃ (i j:Nat) (d3:Array aC),m=j + 1 - i∧ys=[N .i64 (i:Int),N .i64 (j:Int)]∧a + 1≤i∧i≤e + 1∧j<e∧At aA T b d3 M3∧ag [b] M M3∧d3.size=d.size∧R=Sort.partLoop lt a i j d3) _ ⟨i + 1,j - 1,_,rfl,rfl,by omega,by omega,by omega,h7,k6.trans k7,by rw[dC,hs2],X9⟩ ?_
 rintro next m ys M3 hnext ⟨i,j,d3,rfl,rfl,hai,hie,hje,h3,k3,hs3,hm⟩
 dsimp only[aa]
 rw[Sort.partLoop] at hm
 refine MK (P:=fun M'=>At aA T b d3 M'∧ag [b] M M') (p:=fun x=>lt x d3[a]!) (d:=d3) (J:=j) ⟨h3,k3⟩ fun kT i2 M4 ⟨h4,k4⟩ h0 h1 hgo hstop=>?_
 dsimp only[aa]
 rw[qo]
 refine A7 (P:=fun M'=>At aA T b d3 M'∧ag [b] M M') (p:=lt d3[i2]! d3[a]!) ⟨h4,k4⟩ (fun hc k hk=>?_) fun M5 h5=>?_
 ·have hc:i2≤j:=of_decide_eq_true hc
  rw[h4.rd (z:=5) rfl hs3.symm (by omega),h4.rd (z:=5) rfl hs3.symm (by omega)]
  exact hl.use fun M5 k5=>hk M5 ⟨h4.keep k5,k4.trans (k5.mono (cs:=[b]) (by simp))⟩
 refine aH (fun h=>?_) (fun h=>?_)
 ·rw[add1 (by omega)]
  exact hgo h M5 h5
 have hi2:=hstop h
 rw[← hi2] at hm
 refine F8 (P:=fun M'=>At aA T b d3 M'∧ag [b] M M') (p:=fun x=>!lt x d3[a]!) (d:=d3) (i:=i2) h5 (by omega) fun xA j2 M6 ⟨h6,k6⟩ q0 q1 yn oz=>?_
 dsimp only[aa]
 rw[qo]
 refine A7 (P:=fun M'=>At aA T b d3 M'∧ag [b] M M') (p:=!lt d3[j2]! d3[a]!) ⟨h6,k6⟩ (fun hc k hk=>?_) fun M7 ⟨h7,k7⟩=>?_
 ·have hc:i2≤j2:=of_decide_eq_true hc
  rw[h6.rd (z:=5) rfl hs3.symm (by omega),h6.rd (z:=5) rfl hs3.symm (by omega)]
  refine hl.use fun M8 k8=>?_
  rw[bK]
  exact hk M8 ⟨h6.keep k8,k6.trans (k8.mono (cs:=[b]) (by simp))⟩
 refine aH (fun h=>?_) (fun h=>?_)
 ·have hc:i2≤j2:=by
   rw[Bool.and_eq_true] at h
   exact of_decide_eq_true h.1
  rw[bL (by omega) (by omega)]
  exact yn h M7 ⟨h7,k7⟩
 have hj2:=oz h
 simp only[← hj2] at hm
 rw[wK]
 refine aH (fun hg=>?_) (fun hg=>?_)
 ·rw[if_pos (of_decide_eq_true hg)] at hm
  rw[hm] at hQ
  rw[h7.rd (z:=5) rfl hs3.symm (by omega),h7.rd (z:=5) rfl hs3.symm (by omega)]
  exact h7.swap (z:=5) rfl hs3.symm (by omega) (by omega) fun M8 h8 k8=>hQ M8 h8 (k7.trans k8)
 ·have hg:¬ i2 > j2:=of_decide_eq_false hg
  rw[if_neg hg,dif_pos (by omega)] at hm
  rw[h7.rd (z:=5) rfl hs3.symm (by omega),h7.rd (z:=5) rfl hs3.symm (by omega)]
  refine h7.swap (z:=5) rfl hs3.symm (by omega) (by omega) fun M8 h8 k8=>?_
  rw[add1 (by omega),bL (by omega) (by omega)]
  exact hnext _ _ _ (by omega) ⟨i2 + 1,j2 - 1,_,rfl,rfl,by omega,by omega,by omega,h8,k7.trans k8,by rw[dC,hs3],hm⟩
def K5 (T TI b s:Nat) (d:Array aC) (k:Nat) (M:RM) : Prop:=At aA T b d M∧M.heap s=some (.row [N .i64 (k:Int)] false TI 0)∧s<M.next
def MX (T TI:Nat) (fv:AV) (lt:aC→aC→Bool) (c:au) : Prop:=∀ {M:RM} {b s k i j:Nat} {d:Array aC} {Q:ai},K5 T TI b s d k M→s≠b→i<d.size→j<d.size→k≤1000 →
 (∀ M',K5 T TI b s d (Sort.order2 lt d i j k).2.2 M'→ag [s] M M'→Q (.tup [N .i64 (((Sort.order2 lt d i j k).1:Nat) : Int),N .i64 (((Sort.order2 lt d i j k).2.1:Nat) : Int)]) M')→c [sv b d.size 5,N .i64 (i:Int),N .i64 (j:Int),.ptr s 0,fv] M Q
theorem LQ {T TI:Nat} {fv:AV} {lt:aC→aC→Bool} {cv:FuncId→au} (hl:yM aA lt (eG cv fv)) : MX T TI fv lt fun args M Q=>∃ a0 a1 a2 a3 a4,args=[a0,a1,a2,a3,a4]∧mD cv a0 a1 a2 a3 a4 M Q:=by
 intro M b s k i j d Q ⟨hat,hh,hlt⟩ hsb hi hj hk hQ
 refine⟨_,_,_,_,_,rfl, ?_⟩
 unfold mD
 rw[hat.rd (z:=5) rfl rfl (by omega),hat.rd (z:=5) rfl rfl (by omega)]
 refine hl.use fun M1 k1=>?_
 have h1:=hat.keep k1
 have hh1:=k1.aR hh hlt (by simp)
 have n1:=k1.next
 unfold Sort.order2 at hQ
 refine aH (fun h=>?_) (fun h=>?_)
 ·rw[if_pos h] at hQ
  rw[aM,av hh1 rfl,add1 (by omega),aM,fT hh1 (by simp) rfl rfl]
  have kk:ag [s] M1 (M1.put s (.row ([N .i64 (k:Int)].set 0 (N .i64 ((k + 1:Nat) : Int))) false TI 0)):=(ag.refl _ _).put _ (.inr (by simp))
  refine hQ _ ⟨h1.keep' kk (by simp; omega),aU _,by rw[nC]; omega⟩ ((k1.mono (by simp)).trans kk)
 ·rw[if_neg (by rw[h]; decide)] at hQ
  exact hQ M1 ⟨h1,hh1,by omega⟩ (k1.mono (by simp))
def Gb (T TI:Nat) (fv:AV) (lt:aC→aC→Bool) (c:au) : Prop:=∀ {M:RM} {b s k i j h:Nat} {d:Array aC} {Q:ai},K5 T TI b s d k M→s≠b→i<d.size→j<d.size→h<d.size→k≤900 →
 (∀ M',K5 T TI b s d (Sort.median lt d i j h k).2 M'→ag [s] M M'→Q (N .i64 (((Sort.median lt d i j h k).1:Nat) : Int)) M')→c [sv b d.size 5,N .i64 (i:Int),N .i64 (j:Int),N .i64 (h:Int),.ptr s 0,fv] M Q
theorem G6 {T TI:Nat} {fv:AV} {lt:aC→aC→Bool} {c2:au} (h2:MX T TI fv lt c2) : Gb T TI fv lt fun args M Q=>∃ a0 a1 a2 a3 a4 a5,args=[a0,a1,a2,a3,a4,a5]∧mK c2 a0 a1 a2 a3 a4 a5 M Q:=by
 intro M b s k i j h d Q hsw hsb hi hj hh hk hQ
 refine⟨_,_,_,_,_,_,rfl, ?_⟩
 unfold mK
 unfold Sort.median at hQ
 have o1:=ze lt d i j k
 refine h2 hsw hsb hi hj (by omega) fun M1 s1 k1=>?_
 rw[oW,o8]
 dsimp only at hQ
 generalize Sort.order2 lt d i j k=r1 at *
 have o2:=ze lt d r1.2.1 h r1.2.2
 refine h2 s1 hsb (by omega) hh (by omega) fun M2 s2 k2=>?_
 rw[oW,o8]
 generalize Sort.order2 lt d r1.2.1 h r1.2.2=r2 at *
 refine h2 s2 hsb (by omega) (by omega) (by omega) fun M3 s3 k3=>?_
 rw[oW,o8]
 exact hQ M3 s3 ((k1.trans k2).trans k3)
def Nf (T TI:Nat) (fv:AV) (lt:aC→aC→Bool) (c:au) : Prop:=∀ {M:RM} {b s k i:Nat} {d:Array aC} {Q:ai},K5 T TI b s d k M→s≠b→d.size≤60000→1≤i→i + 1<d.size→k≤900 →
 (∀ M',K5 T TI b s d (Sort.medianAdjacent lt d i k).2 M'→ag [s] M M'→Q (N .i64 (((Sort.medianAdjacent lt d i k).1:Nat) : Int)) M')→c [sv b d.size 5,N .i64 (i:Int),.ptr s 0,fv] M Q
theorem Mh {T TI:Nat} {fv:AV} {lt:aC→aC→Bool} {cm:au} (hm:Gb T TI fv lt cm) : Nf T TI fv lt fun args M Q=>∃ a0 a1 a2 a3,args=[a0,a1,a2,a3]∧iM cm a0 a1 a2 a3 M Q:=by
 intro M b s k i d Q hsw hsb hsz h1 h2 hk hQ
 refine⟨_,_,_,_,rfl, ?_⟩
 unfold iM
 rw[bL (by omega) (by omega),add1 (by omega)]
 exact hm hsw hsb (by omega) (by omega) (by omega) hk fun M1 s1 k1=>hQ M1 s1 k1
def Cg (lt:aC→aC→Bool) (d:Array aC) (a e:Nat) : Nat × Nat :=
 if e - a ≥ 8 then(if e - a ≥ 50 then Sort.median lt d (Sort.medianAdjacent lt d (a + (e - a) / 4 * 1) 0).1 (Sort.medianAdjacent lt d (a + (e - a) / 4 * 2) (Sort.medianAdjacent lt d (a + (e - a) / 4 * 1) 0).2).1 (Sort.medianAdjacent lt d (a + (e - a) / 4 * 3) (Sort.medianAdjacent lt d (a + (e - a) / 4 * 2) (Sort.medianAdjacent lt d (a + (e - a) / 4 * 1) 0).2).2).1 (Sort.medianAdjacent lt d (a + (e - a) / 4 * 3) (Sort.medianAdjacent lt d (a + (e - a) / 4 * 2) (Sort.medianAdjacent lt d (a + (e - a) / 4 * 1) 0).2).2).2
  else Sort.median lt d (a + (e - a) / 4 * 1) (a + (e - a) / 4 * 2) (a + (e - a) / 4 * 3) 0) else(a + (e - a) / 4 * 2,0)
theorem aan (lt:aC→aC→Bool) (d:Array aC) (a e:Nat) : Sort.choosePivot lt d a e=((Cg lt d a e).1,if (Cg lt d a e).2=0 then .increasing else if (Cg lt d a e).2=12 then .decreasing else .unknown):=rfl
def NH (T:Nat) (fv:AV) (lt:aC→aC→Bool) (c:au) : Prop:=∀ {M:RM} {b a e:Nat} {d:Array aC} {Q:ai},At aA T b d M→d.size≤60000→a<e→e≤d.size →
 (∀ M',At aA T b d M'→ag [] M M'→Q (.tup [N .i64 (((Sort.choosePivot lt d a e).1:Nat) : Int),N .i64 (qM (Sort.choosePivot lt d a e).2)]) M')→c [sv b d.size 5,N .i64 (a:Int),N .i64 (e:Int),fv] M Q
theorem Nv {T TI:Nat} {fv:AV} {lt:aC→aC→Bool} {ca cm:au} (ha:Nf T TI fv lt ca) (hm:Gb T TI fv lt cm) : NH T fv lt fun args M Q=>∃ a0 a1 a2 a3,args=[a0,a1,a2,a3]∧jI TI ca cm a0 a1 a2 a3 M Q:=by
 intro M b a e d Q hat hsz hae he hQ
 refine⟨_,_,_,_,rfl, ?_⟩
 unfold jI
 simp only[bZ]
 rw[gG (by omega) (by omega),bz]
 have kk:ag [] M (M.push (.row [N .i64 0] false TI 0)):=(ag.refl _ _).push _
 have sw0:K5 T TI b M.next d 0 (M.push (.row [N .i64 0] false TI 0)):=⟨hat.keep kk,RM.aT _,by simp[RM.push]⟩
 have hsb:M.next≠b:=by have:=hat.lt; omega
 have back:∀ M',ag [M.next] (M.push (.row [N .i64 0] false TI 0)) M'→ag [] M M':=fun M' k=>kk.dU k fun c hc=>.inl (by simp at hc; omega)
 generalize M.push (.row [N .i64 0] false TI 0)=M1 at *
 generalize M.next=s at *
 have hq:∀ (k:Nat) (c:Int),c=(k:Int)→k≤3→∀ (K:AV→Prop),(ae .quo (N .i64 ((e - a:Nat) : Int)) (N .i64 4) fun t18=>ae .mul t18 (N .i64 c) fun t19=>ae .add (N .i64 (a:Int)) t19 K)=K (N .i64 ((a + (e - a) / 4 * k:Nat) : Int)):=fun k c hc hk K=>by
  subst hc
  have hb:(e - a) / 4 * k≤(e - a) * 3:=Nat.mul_le_mul (Nat.div_le_self _ _) hk
  rw[nW,show(4:Int)=((4:Nat) : Int) from rfl,uN,bi (by omega) (by omega),yw,← Int.natCast_mul,bi (by omega) (by omega),addN (by omega)]
  exact propext ⟨fun h=>h.2,fun h=>⟨by decide,h⟩⟩
 rw[hq 1 1 rfl (by omega),hq 2 2 rfl (by omega),hq 3 3 rfl (by omega)]
 rw[aan] at hQ
 have hr:Cg lt d a e=Cg lt d a e:=rfl
 conv at hr=>rhs; unfold Cg
 generalize Cg lt d a e=r at *
 refine bA (fun zs M'=>zs=[N .i64 ((r.1:Nat) : Int)]∧K5 T TI b s d r.2 M'∧ag [s] M1 M') ?_ ?_
 ·rintro zs M' ⟨rfl,⟨h3,hh,_⟩,k3⟩
  dsimp only[aa]
  have:=hQ M' h3 (back M' k3)
  rw[av hh rfl,cO]
  by_cases h0:r.2=0
  ·rw[show((r.2:Int) == 0)=true by rw[h0]; rfl,dH]
   rw[if_pos h0] at this
   exact this
  ·rw[show((r.2:Int) == 0)=false by rw[beq_eq_false_iff_ne]; omega,bG,cO]
   rw[if_neg h0] at this
   by_cases h12:r.2=12
   ·rw[show((r.2:Int) == 12)=true by rw[h12]; rfl,dH]
    rw[if_pos h12] at this
    exact this
   ·rw[show((r.2:Int) == 12)=false by rw[beq_eq_false_iff_ne]; omega,bG]
    rw[if_neg h12] at this
    exact this
 intro J hJ
 rw[show(8:Int)=((8:Nat) : Int) from rfl,mG]
 refine aH (fun h8=>?_) (fun h8=>?_)
 ·have h8:e - a ≥ 8:=of_decide_eq_true h8
  rw[if_pos h8] at hr
  refine bA (fun zs M'=>∃ x y z k:Nat,zs=[N .i64 (x:Int),N .i64 (y:Int),N .i64 (z:Int)]∧K5 T TI b s d k M'∧ag [s] M1 M'∧x<d.size∧y<d.size∧z<d.size∧k≤900∧r=Sort.median lt d x y z k) ?_ ?_
  ·rintro zs M' ⟨x,y,z,k,rfl,s3,k3,hx,hy,hz,hk,rfl⟩
   dsimp only[aa]
   exact hm s3 hsb hx hy hz hk fun M4 s4 k4=>hJ _ _ ⟨rfl,s4,k3.trans k4⟩
  intro J0 hJ0
  rw[show(50:Int)=((50:Nat) : Int) from rfl,mG]
  refine aH (fun h50=>?_) (fun h50=>?_)
  ·have h50:e - a ≥ 50:=of_decide_eq_true h50
   rw[if_pos h50] at hr
   have m1:=JI lt d (i:=a + (e - a) / 4 * 1 - 1) (j:=a + (e - a) / 4 * 1) (h:=a + (e - a) / 4 * 1 + 1) (k:=0) (n:=d.size) (by omega) (by omega) (by omega)
   have r1:(Sort.medianAdjacent lt d (a + (e - a) / 4 * 1) 0).1<d.size∧(Sort.medianAdjacent lt d (a + (e - a) / 4 * 1) 0).2≤0 + 3:=m1
   refine ha sw0 hsb hsz (by omega) (by omega) (by omega) fun M2 s2 k2=>?_
   generalize Sort.medianAdjacent lt d (a + (e - a) / 4 * 1) 0=q1 at *
   have m2:=JI lt d (i:=a + (e - a) / 4 * 2 - 1) (j:=a + (e - a) / 4 * 2) (h:=a + (e - a) / 4 * 2 + 1) (k:=q1.2) (n:=d.size) (by omega) (by omega) (by omega)
   have r2:(Sort.medianAdjacent lt d (a + (e - a) / 4 * 2) q1.2).1<d.size∧(Sort.medianAdjacent lt d (a + (e - a) / 4 * 2) q1.2).2≤q1.2 + 3:=m2
   refine ha s2 hsb hsz (by omega) (by omega) (by omega) fun M3 s3 k3=>?_
   generalize Sort.medianAdjacent lt d (a + (e - a) / 4 * 2) q1.2=q2 at *
   have m3:=JI lt d (i:=a + (e - a) / 4 * 3 - 1) (j:=a + (e - a) / 4 * 3) (h:=a + (e - a) / 4 * 3 + 1) (k:=q2.2) (n:=d.size) (by omega) (by omega) (by omega)
   have r3:(Sort.medianAdjacent lt d (a + (e - a) / 4 * 3) q2.2).1<d.size∧(Sort.medianAdjacent lt d (a + (e - a) / 4 * 3) q2.2).2≤q2.2 + 3:=m3
   refine ha s3 hsb hsz (by omega) (by omega) (by omega) fun M4 s4 k4=>?_
   generalize Sort.medianAdjacent lt d (a + (e - a) / 4 * 3) q2.2=q3 at *
   exact hJ0 _ _ ⟨q1.1,q2.1,q3.1,q3.2,rfl,s4,(k2.trans k3).trans k4,r1.1,r2.1,r3.1,by omega,hr⟩
  ·have h50:¬ e - a ≥ 50:=of_decide_eq_false h50
   rw[if_neg h50] at hr
   exact hJ0 _ _ ⟨_,_,_,0,rfl,sw0,ag.refl _ _,by omega,by omega,by omega,by omega,hr⟩
 ·have h8:¬ e - a ≥ 8:=of_decide_eq_false h8
  rw[if_neg h8] at hr
  subst hr
  exact hJ _ _ ⟨rfl,sw0,ag.refl _ _⟩
def JR (T:Nat) (fv:AV) (lt:aC→aC→Bool) (c:au) : Prop:=∀ {M:RM} {b a e:Nat} {d:Array aC} {Q:ai},At aA T b d M→d.size≤60000→a<e→e≤d.size→(∀ M',At aA T b (Sort.partialInsertionSort lt d a e).1 M'→ag [b] M M'→Q (Bo (Sort.partialInsertionSort lt d a e).2) M') →
 c [sv b d.size 5,N .i64 (a:Int),N .i64 (e:Int),fv] M Q
theorem IC {T:Nat} {fv:AV} {lt:aC→aC→Bool} {cv:FuncId→au} (hl:yM aA lt (eG cv fv)) : JR T fv lt fun args M Q=>∃ a0 a1 a2 a3,args=[a0,a1,a2,a3]∧fZ cv a0 a1 a2 a3 M Q:=by
 intro M b a e d Q hat hsz hae he hQ
 refine⟨_,_,_,_,rfl, ?_⟩
 unfold fZ
 simp only[gQ,fC,gp,bZ]
 rw[add1 (by omega)]
 unfold Sort.partialInsertionSort at hQ
 obtain⟨R,hR⟩ : ∃ R,R=Sort.partialIns lt a e 5 (a + 1) d:=⟨_,rfl⟩
 rw[← hR] at hQ
 refine aJ (fun m ys M3=>∃ (i s:Nat) (d3:Array aC),m=s∧s≤5∧ys=[N .i64 (i:Int),N .i64 ((5 - s:Nat) : Int)]∧a + 1≤i∧i≤e∧At aA T b d3 M3∧ag [b] M M3∧d3.size=d.size∧R=Sort.partialIns lt a e s i d3) _ ⟨a + 1,5,d,rfl,by omega,rfl,by omega,by omega,hat,ag.refl _ _,rfl,hR⟩ ?_
 rintro next m ys M3 hnext ⟨i,s,d3,hms,hs5,rfl,hai,hie,h3,k3,hs3,hm⟩
 dsimp only[aa]
 rw[show(5:Int)=((5:Nat) : Int) from rfl,eO]
 refine aH (fun hg=>?_) (fun hg=>?_)
 ·have hg:5 - s<5:=of_decide_eq_true hg
  obtain⟨s',rfl⟩ : ∃ s',s=s' + 1:=⟨s - 1,by omega⟩
  rw[zm] at hm
  refine bA (fun zs M'=>∃ (i' : Nat) (d4:Array aC),zs=[N .i64 (i' : Int)]∧a + 1≤i'∧i'≤e∧At aA T b d4 M'∧ag [b] M M'∧d4.size=d.size∧R=Sort.partialIns lt a e s' i' d4) ?_ ?_
  ·rintro zs M' ⟨i',d4,rfl,h1,h2,h4,k4,h5,h6⟩
   dsimp only[aa]
   rw[add1 (by omega)]
   exact hnext _ _ _ (by omega) ⟨i',s',d4,rfl,by omega,by congr 4; omega,h1,h2,h4,k4,h5,h6⟩
  intro J hJ
  obtain⟨R5,hR5⟩ : ∃ R5,R5=Sort.scanSorted lt d3 e i:=⟨_,rfl⟩
  rw[← hR5] at hm
  refine aJ (fun m ys M5=>∃ (j:Nat),m=e - j∧ys=[N .i64 (j:Int)]∧i≤j∧j≤e∧At aA T b d3 M5∧ag [b] M M5∧R5=Sort.scanSorted lt d3 e j) _ ⟨i,rfl,rfl,Nat.le_refl _,hie,h3,k3,hR5⟩ ?_
  rintro kT m ys M5 eu ⟨j,rfl,rfl,hij,hje,h5,k5,hm5⟩
  dsimp only[aa]
  rw[Sort.scanSorted] at hm5
  rw[eO]
  refine A7 (P:=fun M'=>At aA T b d3 M'∧ag [b] M M') (p:=!lt d3[j]! d3[j - 1]!) ⟨h5,k5⟩ (fun hc k hk=>?_) fun M6 ⟨h6,k6⟩=>?_
  ·have hc:j<e:=of_decide_eq_true hc
   rw[h5.rd (z:=5) rfl hs3.symm (by omega),bL (by omega) (by omega),h5.rd (z:=5) rfl hs3.symm (by omega)]
   refine hl.use fun M7 k7=>?_
   rw[bK]
   exact hk M7 ⟨h5.keep k7,k5.trans (k7.mono (cs:=[b]) (by simp))⟩
  refine aH (fun h=>?_) (fun h=>?_)
  ·have hc:j<e:=by
    rw[Bool.and_eq_true] at h
    exact of_decide_eq_true h.1
   rw[if_pos h] at hm5
   rw[add1 (by omega)]
   exact eu _ _ _ (by omega) ⟨j + 1,rfl,rfl,by omega,by omega,h6,k6,hm5⟩
  rw[if_neg (by rw[h]; decide)] at hm5
  subst hm5
  rw[Wj]
  refine aH (fun yK=>?_) (fun yK=>?_)
  ·rw[if_pos (of_decide_eq_true yK)] at hm
   rw[hm] at hQ
   exact hQ M6 h6 k6
  have yK:¬ R5=e:=of_decide_eq_false yK
  rw[if_neg yK] at hm
  rw[gG (by omega) (by omega),show(50:Int)=((50:Nat) : Int) from rfl,eO]
  refine aH (fun h50=>?_) (fun h50=>?_)
  ·rw[if_pos (of_decide_eq_true h50)] at hm
   rw[hm] at hQ
   exact hQ M6 h6 k6
  rw[if_neg (of_decide_eq_false h50)] at hm
  rw[bL (by omega) (by omega),bL (by omega) (by omega),h6.rd (z:=5) rfl hs3.symm (by omega),h6.rd (z:=5) rfl hs3.symm (by omega)]
  refine h6.swap (z:=5) rfl hs3.symm (by omega) (by omega) fun M7 h7 k7'=>?_
  have k7:=k6.trans k7'
  have hs6:(Sort.swp d3 R5 (R5 - 1)).size=d.size:=by rw[dC,hs3]
  generalize Sort.swp d3 R5 (R5 - 1)=d6 at *
  refine bA (fun zs M'=>zs=[]∧At aA T b (if R5 - a ≥ 2 then Sort.shiftDown lt (R5 - 1) d6 else d6) M'∧ag [b] M M') ?_ ?_
  ·rintro zs M8 ⟨rfl,h8,k8⟩
   have hs7:(if R5 - a ≥ 2 then Sort.shiftDown lt (R5 - 1) d6 else d6).size=d.size:=by
    split
    ·rw[Ba,hs6]
    ·exact hs6
   generalize (if R5 - a ≥ 2 then Sort.shiftDown lt (R5 - 1) d6 else d6)=d7 at *
   rw[gG (by omega) (by omega),show(2:Int)=((2:Nat) : Int) from rfl,mG]
   refine aH (fun h2=>?_) (fun h2=>?_)
   ·rw[if_pos (of_decide_eq_true h2)] at hm
    rw[add1 (by omega)]
    obtain⟨R8,hR8⟩ : ∃ R8,R8=Sort.shiftUp lt e (R5 + 1) d7:=⟨_,rfl⟩
    rw[← hR8] at hm
    refine aJ (fun m ys M8=>∃ (j:Nat) (d8:Array aC),m=e - j∧ys=[N .i64 (j:Int)]∧R5 + 1≤j∧j≤e∧At aA T b d8 M8∧ag [b] M M8∧d8.size=d.size∧R8=Sort.shiftUp lt e j d8) _ ⟨R5 + 1,d7,rfl,rfl,Nat.le_refl _,by omega,h8,k8,hs7,hR8⟩ ?_
    rintro xA m ys M9 yX ⟨j,d8,rfl,rfl,hj1,hj2,h9,k9,ig,hm8⟩
    dsimp only[aa]
    rw[Sort.shiftUp] at hm8
    rw[eO]
    refine aH (fun hl1=>?_) (fun hl1=>?_)
    ·have hl1:j<e:=of_decide_eq_true hl1
     rw[if_pos hl1] at hm8
     rw[h9.rd (z:=5) rfl ig.symm (by omega),bL (by omega) (by omega),h9.rd (z:=5) rfl ig.symm (by omega)]
     refine hl.use fun M10 FX=>?_
     have h10:=h9.keep FX
     have k10:=k9.trans (FX.mono (cs:=[b]) (by simp))
     rw[bK]
     refine aH (fun hn=>?_) (fun hn=>?_)
     ·rw[if_pos hn] at hm8
      subst hm8
      exact hJ _ _ ⟨R5,R8,rfl,by omega,by omega,h10,k10,ig,hm⟩
     ·rw[if_neg (by rw[hn]; decide)] at hm8
      rw[bL (by omega) (by omega),bL (by omega) (by omega),h10.rd (z:=5) rfl ig.symm (by omega),h10.rd (z:=5) rfl ig.symm (by omega)]
      refine h10.swap (z:=5) rfl ig.symm (by omega) (by omega) fun M11 h11 k11=>?_
      rw[add1 (by omega)]
      exact yX _ _ _ (by omega) ⟨j + 1,_,rfl,rfl,by omega,by omega,h11,k10.trans k11,by rw[dC,ig],hm8⟩
    ·rw[if_neg (of_decide_eq_false hl1)] at hm8
     subst hm8
     exact hJ _ _ ⟨R5,R8,rfl,by omega,by omega,h9,k9,ig,hm⟩
   ·rw[if_neg (of_decide_eq_false h2)] at hm
    exact hJ _ _ ⟨R5,d7,rfl,by omega,by omega,h8,k8,hs7,hm⟩
  intro J2 hJ2
  rw[gG (by omega) (by omega),show(2:Int)=((2:Nat) : Int) from rfl,mG]
  refine aH (fun h2=>?_) (fun h2=>?_)
  ·rw[if_pos (of_decide_eq_true h2)] at hJ2
   rw[bL (by omega) (by omega)]
   obtain⟨R8,hR8⟩ : ∃ R8,R8=Sort.shiftDown lt (R5 - 1) d6:=⟨_,rfl⟩
   rw[← hR8] at hJ2
   refine aJ (fun m ys M8=>∃ (j:Nat) (d8:Array aC),m=j + 1∧ys=[N .i64 (j:Int)]∧j<R5∧At aA T b d8 M8∧ag [b] M M8∧d8.size=d.size∧R8=Sort.shiftDown lt j d8) _ ⟨R5 - 1,d6,rfl,rfl,by omega,h7,k7,hs6,hR8⟩ ?_
   rintro xA m ys M8 yX ⟨j,d8,rfl,rfl,hj1,h8,k8,ig,hm8⟩
   dsimp only[aa]
   rw[show(1:Int)=((1:Nat) : Int) from rfl,mG]
   refine aH (fun hl1=>?_) (fun hl1=>?_)
   ·have hl1:j ≥ 1:=of_decide_eq_true hl1
    obtain⟨j',rfl⟩ : ∃ j',j=j' + 1:=⟨j - 1,by omega⟩
    rw[Sort.shiftDown] at hm8
    rw[h8.rd (z:=5) rfl ig.symm (by omega),gG (by omega) (by omega),Nat.add_sub_cancel,h8.rd (z:=5) rfl ig.symm (by omega)]
    refine hl.use fun M10 FX=>?_
    have h10:=h8.keep FX
    have k10:=k8.trans (FX.mono (cs:=[b]) (by simp))
    rw[bK]
    refine aH (fun hn=>?_) (fun hn=>?_)
    ·rw[if_pos hn] at hm8
     subst hm8
     exact hJ2 _ _ ⟨rfl,h10,k10⟩
    ·rw[if_neg (by rw[hn]; decide)] at hm8
     rw[gG (by omega) (by omega),gG (by omega) (by omega),Nat.add_sub_cancel,h10.rd (z:=5) rfl ig.symm (by omega),h10.rd (z:=5) rfl ig.symm (by omega)]
     refine h10.swap (z:=5) rfl ig.symm (by omega) (by omega) fun M11 h11 k11=>?_
     rw[gG (by omega) (by omega),Nat.add_sub_cancel]
     exact yX _ _ _ (by omega) ⟨j',_,rfl,rfl,by omega,h11,k10.trans k11,by rw[dC,ig],hm8⟩
   ·have hl1:¬ j ≥ 1:=of_decide_eq_false hl1
    have h0:j=0:=by omega
    subst h0
    rw[Sort.shiftDown] at hm8
    subst hm8
    exact hJ2 _ _ ⟨rfl,h8,k8⟩
  ·rw[if_neg (of_decide_eq_false h2)] at hJ2
   exact hJ2 _ _ ⟨rfl,h7,k7⟩
 ·have hg:¬ 5 - s<5:=of_decide_eq_false hg
  have h0:s=0:=by omega
  subst h0
  rw[Sort.partialIns] at hm
  rw[hm] at hQ
  exact hQ M3 h3 k3
theorem S9 {T TX:Nat} {fv:AV} {cp cx:au} (hp:WJ cp) (hx:aae TX cx) : SortG aA T 5 fv Sort.breakPatterns (fun _ _ _=>True) fun args M Q=>∃ a0 a1 a2 a3,args=[a0,a1,a2,a3]∧iU TX cp cx a0 a1 a2 a3 M Q:=by
 intro M b a e d Q hat hsz hae he _ hQ
 refine⟨_,_,_,_,rfl, ?_⟩
 unfold iU
 simp only[bZ]
 rw[gG hae (by omega),show(8:Int)=((8:Nat) : Int) from rfl,mG]
 unfold Sort.breakPatterns at hQ
 refine aH (fun h8=>?_) (fun h8=>?_)
 ·have h8:e - a ≥ 8:=of_decide_eq_true h8
  rw[if_pos h8] at hQ
  have hbl:=BX (x:=e - a) (by omega) (by omega)
  rw[nU,lK (by omega) (by omega),bz]
  have kk:ag [] M (M.push (.row [(N .u64 0)] false TX 0)):=(ag.refl _ _).push _
  have hsb:M.next≠b:=by have:=hat.lt; omega
  have hh0:(M.push (.row [(N .u64 0)] false TX 0)).heap M.next=some (.row [N .u64 0] false TX 0):=RM.aT _
  have aaf:(UInt64.ofNat (e - a)).toNat=e - a:=by rw[UInt64.toNat_ofNat']; omega
  have hn0:M.next<(M.push (.row [(N .u64 0)] false TX 0)).next:=by simp[RM.push]
  rw[fT hh0 (by simp) rfl rfl]
  have kS:ag [] M ((M.push (.row [(N .u64 0)] false TX 0)).put M.next (.row (([N .u64 0] : List AV).set 0 (N .u64 ((e - a:Nat) : Int))) false TX 0)):=kk.new _ (Nat.le_refl _)
  have hs1:((M.push (.row [(N .u64 0)] false TX 0)).put M.next (.row (([N .u64 0] : List AV).set 0 (N .u64 ((e - a:Nat) : Int))) false TX 0)).heap M.next=some (.row [N .u64 ((UInt64.ofNat (e - a)).toNat:Int)] false TX 0):=by
   rw[aU,aaf]; rfl
  have hn1:M.next<((M.push (.row [(N .u64 0)] false TX 0)).put M.next (.row (([N .u64 0] : List AV).set 0 (N .u64 ((e - a:Nat) : Int))) false TX 0)).next:=hn0
  generalize (M.push (.row [(N .u64 0)] false TX 0)).put M.next (.row (([N .u64 0] : List AV).set 0 (N .u64 ((e - a:Nat) : Int))) false TX 0)=M1 at *
  have aoy:=hat.keep kS
  have back:∀ M',ag [b,M.next] M1 M'→ag [b] M M':=fun M' k=>(kS.mono (cs:=[b]) (by simp)).dU k fun c hc=>by simp at hc; rcases hc with h | h <;> simp[h]
  generalize M.next=s at *
  refine hp (by omega) (by omega) ?_
  have hq:∀ (c:Int),c=((2:Nat) : Int)→∀ (K:AV→Prop),(ae .quo (N .i64 ((e - a:Nat) : Int)) (N .i64 4) fun t18=>ae .mul t18 (N .i64 c) fun t19=>ae .add (N .i64 (a:Int)) t19 K)=K (N .i64 ((a + (e - a) / 4 * 2:Nat) : Int)):=fun c hc K=>by
   subst hc
   rw[nW,show(4:Int)=((4:Nat) : Int) from rfl,uN,bi (by omega) (by omega),yw,← Int.natCast_mul,bi (by omega) (by omega),addN (by omega)]
   exact propext ⟨fun h=>h.2,fun h=>⟨by decide,h⟩⟩
  rw[hq 2 rfl,bL (by omega) (by omega)]
  have aaL:(Sort.breakStep a (e - a) (1 <<< Sort.bitsLen (e - a)) (Sort.breakStep a (e - a) (1 <<< Sort.bitsLen (e - a)) (Sort.breakStep a (e - a) (1 <<< Sort.bitsLen (e - a)) (UInt64.ofNat (e - a),d) (a + (e - a) / 4 * 2 - 1)) (a + (e - a) / 4 * 2 - 1 + 1)) (a + (e - a) / 4 * 2 - 1 + 2)).2=(Ei a (e - a) (2 ^ Sort.bitsLen (e - a)) (a + (e - a) / 4 * 2 - 1) d 3).2:=by
   rw[Nat.shiftLeft_eq,Nat.one_mul]; rfl
  have hQ:∀ M',At aA T b (Ei a (e - a) (2 ^ Sort.bitsLen (e - a)) (a + (e - a) / 4 * 2 - 1) d 3).2 M'→ag [b] M M'→Q (.tup []) M':=fun M' h k=>hQ M' (by rw[aaL]; exact h) k
  generalize hmd:2 ^ Sort.bitsLen (e - a)=md at *
  generalize hi0:a + (e - a) / 4 * 2 - 1=i0 at *
  refine aJ (fun m ys M3=>∃ (k:Nat),m=3 - k∧k≤3∧ys=[N .i64 ((i0 + k:Nat) : Int)]∧At aA T b (Ei a (e - a) md i0 d k).2 M3∧M3.heap s=some (.row [N .u64 ((Ei a (e - a) md i0 d k).1.toNat:Int)] false TX 0)∧s<M3.next∧ag [b,s] M1 M3) _ ⟨0,rfl,by omega,rfl,aoy,hs1,hn1,ag.refl _ _⟩ ?_
  rintro next m ys M3 hnext ⟨k,rfl,hk,rfl,h3,hh3,hn3,k3⟩
  dsimp only[aa]
  have hsk:=YD a (e - a) md i0 d k
  have abm:Ei a (e - a) md i0 d (k + 1)=Sort.breakStep a (e - a) md (Ei a (e - a) md i0 d k) (i0 + k):=rfl
  generalize abF:Ei a (e - a) md i0 d k=st at *
  rw[hq 2 rfl,add1 (by omega),qo]
  refine aH (fun hg=>?_) (fun hg=>?_)
  ·have hg:i0 + k≤a + (e - a) / 4 * 2 + 1:=of_decide_eq_true hg
   refine bA (fun zs M'=>At aA T b (Ei a (e - a) md i0 d (k + 1)).2 M'∧M'.heap s=some (.row [N .u64 ((Ei a (e - a) md i0 d (k + 1)).1.toNat:Int)] false TX 0)∧s<M'.next∧ag [b,s] M1 M') ?_ ?_
   ·rintro zs M' ⟨c1,c2,c3,c4⟩
    rw[add1 (by omega)]
    exact hnext _ _ _ (by omega) ⟨k + 1,rfl,by omega,rfl,c1,c2,c3,c4⟩
   intro J hJ
   refine hx hh3 hn3 fun M4 hh4 k4 n4=>?_
   have h4:=h3.keep' k4 (by simp; omega)
   rw[abm] at hJ
   unfold Sort.breakStep at hJ
   dsimp only at hJ
   generalize Sort.xorNext st.1=r at *
   rw[iV,lK (by omega) (by omega),show(md:Int) - 1=((md - 1:Nat) : Int) by omega,Tk,Qg rfl]
   have hlt:r.toNat &&& (md - 1)<md:=by
    rw[← hmd,Nat.and_two_pow_sub_one_eq_mod]
    exact Nat.mod_lt _ (by rw[hmd]; omega)
   rw[Nat.mod_eq_of_lt (show r.toNat &&& (md - 1)<2 ^ zu .u64 by show _<2 ^ 64; omega)]
   generalize r.toNat &&& (md - 1)=o at *
   rw[nU,bi (by omega) (by omega)]
   refine bA (fun zs M'=>zs=[N .i64 (((if o ≥ e - a then o - (e - a) else o) : Nat) : Int)]∧M'=M4) ?_ ?_
   ·rintro zs M' ⟨rfl,rfl⟩
    dsimp only[aa]
    have ho:(if o ≥ e - a then o - (e - a) else o)<e - a:=by split <;> omega
    generalize (if o ≥ e - a then o - (e - a) else o)=o2 at *
    rw[addN (by omega),addN (by omega),h4.rd (z:=5) rfl hsk.symm (by omega),h4.rd (z:=5) rfl hsk.symm (by omega)]
    refine h4.swap (z:=5) rfl hsk.symm (by omega) (by omega) fun M5 h5 k5=>?_
    exact hJ _ _ ⟨h5,k5.aR hh4 (by omega) (by simp; omega),by have:=k5.next; omega,(k3.trans (k4.mono (cs:=[b,s]) (by simp))).trans (k5.mono (cs:=[b,s]) (by simp))⟩
   intro J4 hJ4
   rw[mG]
   refine aH (fun hg2=>?_) (fun hg2=>?_)
   ·have hg2:o ≥ e - a:=of_decide_eq_true hg2
    rw[gG (by omega) (by omega)]
    exact hJ4 _ _ ⟨by rw[if_pos hg2],rfl⟩
   ·exact hJ4 _ _ ⟨by rw[if_neg (of_decide_eq_false hg2)],rfl⟩
  ·have hg:¬ i0 + k≤a + (e - a) / 4 * 2 + 1:=of_decide_eq_false hg
   have hk3:k=3:=by omega
   subst hk3
   rw[abF] at hQ
   exact hQ M3 h3 (back M3 k3)
 ·rw[if_neg (of_decide_eq_false h8)] at hQ
  exact hQ M hat (ag.refl _ _)
def Xi (T m:Nat) (fv:AV) (lt:aC→aC→Bool) (c:au) : Prop:=∀ {M:RM} {b a e limit:Nat} {d:Array aC} {Q:ai},At aA T b d M→d.size≤60000→a≤e→e≤d.size→e - a<m→limit≤1000000→(∀ M',At aA T b (Sort.pdq lt d a e limit true true) M'→ag [b] M M'→Q (.tup []) M') →
 c [sv b d.size 5,N .i64 (a:Int),N .i64 (e:Int),N .i64 (limit:Int),fv] M Q
theorem X8 {T m:Nat} {fv:AV} {lt:aC→aC→Bool} {cv:FuncId→au} {ci ch cb cc cr cp ce ct cq:au} (hlt:Sort.SWO lt) (hi:SortG aA T 5 fv (Sort.insertionSort lt) (fun _ _ _=>True) ci) (hh:SortG aA T 5 fv (Sort.heapSort lt) (fun _ a e=>a<e) ch) (hb:SortG aA T 5 fv Sort.breakPatterns (fun _ _ _=>True) cb) (hc:NH T fv lt cc) (hr:SortG aA T 5 fv Sort.reverseRange (fun _ a e=>a<e) cr)
  (hp:JR T fv lt cp) (hl:yM aA lt (eG cv fv)) (he:Mj T fv lt ce) (ht:Vu T fv lt ct) (hq:Xi T m fv lt cq) : Xi T (m + 1) fv lt fun args M Q=>∃ a0 a1 a2 a3 a4,args=[a0,a1,a2,a3,a4]∧gL ci ch cb cc cr cp cv ce ct cq a0 a1 a2 a3 a4 M Q:=by
 intro M b a e limit d Q hat hsz hae hed hm hlim hQ
 refine⟨_,_,_,_,_,rfl, ?_⟩
 unfold gL
 simp only[gQ,fC,gp,bZ]
 obtain⟨R,hR⟩ : ∃ R,R=Sort.pdq lt d a e limit true true:=⟨_,rfl⟩
 rw[← hR] at hQ
 refine aJ (fun m' ys M3=>∃ (a e limit:Nat) (wb wp:Bool) (d3:Array aC),m'=e - a∧ys=[N .i64 (a:Int),N .i64 (e:Int),N .i64 (limit:Int),Bo wb,Bo wp]∧a≤e∧e≤d.size∧e - a<m + 1∧limit≤1000000∧At aA T b d3 M3∧ag [b] M M3∧d3.size=d.size∧R=Sort.pdq lt d3 a e limit wb wp) _
  ⟨a,e,limit,true,true,d,rfl,rfl,hae,hed,hm,hlim,hat,ag.refl _ _,rfl,hR⟩ ?_
 clear hR hae hed hm hlim
 rintro next m' ys M4 hnext ⟨a,e,limit,wb,wp,d3,rfl,rfl,hae,hed,hm,hlim,h4,k4,hs3,hR⟩
 dsimp only[aa]
 rw[IX] at hR
 rw[gG hae (by omega),show(12:Int)=((12:Nat) : Int) from rfl,qo]
 refine aH (fun hg=>?_) (fun hg=>?_)
 ·rw[if_pos (of_decide_eq_true hg)] at hR
  rw[← hs3]
  refine hi h4 (by omega) hae (by omega) trivial fun M5 h5 k5=>?_
  rw[← hR] at h5
  exact hQ M5 h5 (k4.trans k5)
 have hg:¬ e - a≤12:=of_decide_eq_false hg
 rw[if_neg hg] at hR
 rw[show(0:Int)=((0:Nat) : Int) from rfl,Wj]
 refine aH (fun hg0=>?_) (fun hg0=>?_)
 ·rw[if_pos (of_decide_eq_true hg0)] at hR
  rw[← hs3]
  refine hh h4 (by omega) hae (by omega) (by omega) fun M5 h5 k5=>?_
  rw[← hR] at h5
  exact hQ M5 h5 (k4.trans k5)
 have hg0:¬ limit=0:=of_decide_eq_false hg0
 rw[if_neg hg0] at hR
 refine bA (fun zs M'=>zs=[N .i64 (((if !wb then limit - 1 else limit) : Nat) : Int)]∧At aA T b (if !wb then Sort.breakPatterns d3 a e else d3) M'∧ag [b] M M') ?_ ?_
 ·rintro zs M5 ⟨rfl,h5,k5⟩
  dsimp only[aa]
  have hs5:(if !wb then Sort.breakPatterns d3 a e else d3).size=d.size:=by
   split
   ·rw[Vl,hs3]
   ·exact hs3
  have hl5:(if !wb then limit - 1 else limit)≤1000000:=by split <;> omega
  generalize (if !wb then Sort.breakPatterns d3 a e else d3)=d5 at *
  generalize (if !wb then limit - 1 else limit)=lim at *
  rw[← hs5]
  refine hc h5 (by omega) (by omega) (by omega) fun M6 h6 k6=>?_
  rw[hs5]
  have hcr:=Sort.choosePivot_holds lt d5 a e (by omega)
  unfold gA at hR
  generalize Sort.choosePivot lt d5 a e=cpv at *
  have k6':=k5.trans (k6.mono (cs:=[b]) (by simp))
  rw[oW,o8]
  refine bA (fun zs M'=>zs=[N .i64 (((if cpv.2=.decreasing then(e - 1) - (cpv.1 - a) else cpv.1) : Nat) : Int),N .i64 (qM (if cpv.2=.decreasing then .increasing else cpv.2))]∧At aA T b (if cpv.2=.decreasing then Sort.reverseRange d5 a e else d5) M'∧ag [b] M M') ?_ ?_
  ·rintro zs M7 ⟨rfl,h7,k7⟩
   dsimp only[aa]
   have hs7:(if cpv.2=.decreasing then Sort.reverseRange d5 a e else d5).size=d.size:=by
    split
    ·rw[adg,hs5]
    ·exact hs5
   have hpv:a≤(if cpv.2=.decreasing then(e - 1) - (cpv.1 - a) else cpv.1)∧(if cpv.2=.decreasing then(e - 1) - (cpv.1 - a) else cpv.1)<e:=by
    split <;> omega
   generalize (if cpv.2=.decreasing then Sort.reverseRange d5 a e else d5)=d7 at *
   generalize (if cpv.2=.decreasing then(e - 1) - (cpv.1 - a) else cpv.1)=pv at *
   generalize (if cpv.2=.decreasing then Sort.Hint.increasing else cpv.2)=hint at *
   unfold gB gP at hR
   refine bA (fun zs M'=>∃ d8:Array aC,At aA T b d8 M'∧ag [b] M M'∧d8.size=d.size∧R=gC lt d8 a e pv lim wb wp) ?_ ?_
   ·rintro zs M8 ⟨d8,h8,k8,hs8,hR8⟩
    unfold gC at hR8
    rw[wK]
    refine A7 (P:=fun M'=>At aA T b d8 M'∧ag [b] M M') (p:=!lt d8[a - 1]! d8[pv]!) ⟨h8,k8⟩ (fun hc k hk=>?_) fun M9 ⟨h9,k9⟩=>?_
    ·have hc:a > 0:=of_decide_eq_true hc
     rw[bL (by omega) (by omega),h8.rd (z:=5) rfl hs8.symm (by omega),h8.rd (z:=5) rfl hs8.symm (by omega)]
     refine hl.use fun M10 k10=>?_
     rw[bK]
     exact hk M10 ⟨h8.keep k10,k8.trans (k10.mono (cs:=[b]) (by simp))⟩
    refine aH (fun h=>?_) (fun h=>?_)
    ·rw[if_pos h] at hR8
     rw[← hs8]
     have hE:=Vs lt d8 a e pv (by omega)
     refine he h9 (by omega) hpv.1 hpv.2 (by omega) fun M10 h10 k10=>?_
     generalize Sort.partitionEqual lt d8 a e pv=pe at *
     dsimp only at hR8
     rw[dif_pos ⟨hE.2.1,hE.2.2⟩] at hR8
     exact hnext _ _ _ (by omega) ⟨pe.1,e,lim,wb,wp,pe.2,rfl,rfl,hE.2.2,hed,by omega,hl5,h10,k9.trans k10,by rw[hE.1,hs8],hR8⟩
    ·rw[if_neg (by rw[h]; decide)] at hR8
     rw[← hs8]
     have hT:=Sort.partition_holds lt hlt d8 a e pv hpv.1 hpv.2 (by omega)
     have hTs:=YM lt d8 a e pv
     refine ht h9 (by omega) hpv.1 hpv.2 (by omega) fun M10 h10 k10=>?_
     have FX:=k9.trans k10
     generalize Sort.partition lt d8 a e pv=pp at *
     obtain⟨mid,ap,d9⟩:=pp
     dsimp only at hR8 hT hTs h10 ⊢
     rw[dif_pos ⟨hT.1,hT.2.1⟩] at hR8
     have hT1:=hT.1
     have hT2:=hT.2.1
     rw[oW,o8,gG hT1 (by omega),gG (by omega) (by omega),nW]
     refine⟨by decide, ?_⟩
     rw[show(8:Int)=((8:Nat) : Int) from rfl,uN,bi (by omega) (by omega),eO]
     refine aH (fun hc1=>?_) (fun hc1=>?_)
     ·have hc1:mid - a<e - mid:=of_decide_eq_true hc1
      rw[if_pos hc1] at hR8
      rw[mG,← hTs]
      refine hq h10 (by omega) hT1 (by omega) (by omega) hl5 fun M11 h11 k11=>?_
      rw[add1 (by omega)]
      exact hnext _ _ _ (by omega) ⟨mid + 1,e,lim,_,ap,_,rfl,rfl,by omega,hed,by omega,hl5,h11,FX.trans k11,by rw[CW lt _ _ _ _ _ _ _ (Nat.le_refl _),hTs,hs8],hR8⟩
     ·have hc1:¬ mid - a<e - mid:=of_decide_eq_false hc1
      rw[if_neg hc1] at hR8
      rw[mG,add1 (by omega),← hTs]
      refine hq h10 (by omega) (by omega) (by omega) (by omega) hl5 fun M11 h11 k11=>?_
      exact hnext _ _ _ (by omega) ⟨a,mid,lim,_,ap,_,rfl,rfl,hT1,by omega,by omega,hl5,h11,FX.trans k11,by rw[CW lt _ _ _ _ _ _ _ (Nat.le_refl _),hTs,hs8],hR8⟩
   intro J10 QY
   have no:¬ (wb && wp && decide (hint=.increasing))=true→J10 [] M7:=fun hn=>by
    have hpi:(if (wb && wp && decide (hint=.increasing))=true then Sort.partialInsertionSort lt d7 a e else(d7,false))=(d7,false):=if_neg hn
    rw[hpi] at hR
    exact QY _ _ ⟨d7,h7,k7,hs7,hR⟩
   cases wb with
   | false =>
     rw[bN]
     dsimp only
     rw[dh,bN]
     dsimp only
     rw[bN]
     dsimp only
     rw[dh,bG]
     exact no (by simp)
   | true =>
     rw[dG]
     dsimp only
     rw[eT]
     cases wp with
     | false =>
       rw[bN]
       dsimp only
       rw[bN]
       dsimp only
       rw[dh,bG]
       exact no (by simp)
     | true =>
       rw[dG]
       dsimp only
       rw[dG]
       dsimp only
       rw[cO,eT]
       by_cases hin:hint=.increasing
       ·rw[show(qM hint == 1)=true by rw[hin]; rfl,dH]
        have hpi:(if (true && true && decide (hint=.increasing))=true then Sort.partialInsertionSort lt d7 a e else(d7,false))=Sort.partialInsertionSort lt d7 a e:=if_pos (by simp[hin])
        rw[hpi] at hR
        rw[← hs7]
        have hs8:(Sort.partialInsertionSort lt d7 a e).1.size=d.size:=by
         rw[Sort.partialInsertionSort,FC,hs7]
        refine hp h7 (by omega) (by omega) (by omega) fun M8 h8 k8=>?_
        generalize Sort.partialInsertionSort lt d7 a e=pi at *
        refine aH (fun h=>?_) (fun h=>?_)
        ·rw[if_pos h] at hR
         rw[← hR] at h8
         exact hQ M8 h8 (k7.trans k8)
        ·rw[if_neg (by rw[h]; decide)] at hR
         exact QY _ _ ⟨pi.1,h8,k7.trans k8,hs8,hR⟩
       ·rw[show(qM hint == 1)=false by cases hint <;> first | rfl | exact absurd rfl hin,bG]
        exact no (by simp[hin])
  intro J6 hJ6
  rw[cO]
  by_cases hdec:cpv.2=.decreasing
  ·rw[show(qM cpv.2 == 2)=true by rw[hdec]; rfl,dH,← hs5]
   refine hr h6 (by omega) hae (by omega) (by omega) fun M7 h7 k7=>?_
   rw[bL (by omega) (by omega),gG (by omega) (by omega),gG (by omega) (by omega)]
   exact hJ6 _ _ ⟨by rw[if_pos hdec,if_pos hdec]; rfl,by rw[if_pos hdec]; exact h7,k6'.trans k7⟩
  ·rw[show(qM cpv.2 == 2)=false by cases h:cpv.2 <;> first | rfl | exact absurd h hdec,bG]
   exact hJ6 _ _ ⟨by rw[if_neg hdec,if_neg hdec],by rw[if_neg hdec]; exact h6,k6'⟩
 intro J hJ
 rw[bK]
 cases wb with
 | true =>
   rw[Bool.not_true,bG]
   exact hJ _ _ ⟨rfl,h4,k4⟩
 | false =>
   rw[Bool.not_false,dH,← hs3]
   refine hb h4 (by omega) hae (by omega) trivial fun M5 h5 k5=>?_
   rw[bL (by omega) (by omega)]
   exact hJ _ _ ⟨rfl,h5,k4.trans k5⟩
def Nj (c:au) : Prop:=∀ {M:RM} {v fv:AV} {Q:ai},Q (.tup []) M→c [v,N .i64 0,N .i64 ((0:Nat) : Int),fv] M Q
theorem NJ {cv:FuncId→au} : Nj fun args M Q=>∃ a0 a1 a2 a3,args=[a0,a1,a2,a3]∧eB cv a0 a1 a2 a3 M Q:=by
 intro M v fv Q hQ
 refine⟨_,_,_,_,rfl, ?_⟩
 unfold eB
 rw[bY,show IntKind.i64.wrap ((0:Int) + 1)=1 from rfl]
 refine aJ (fun m ys M3=>m=0∧ys=[N .i64 1]∧M3=M) 0 ⟨rfl,rfl,rfl⟩ ?_
 rintro next m ys M3 hnext ⟨rfl,rfl,rfl⟩
 dsimp only[aa]
 rw[cK,show decide ((1:Int)<((0:Nat) : Int))=false from rfl,bG]
 exact hQ
def NF (c:au) : Prop:=∀ {M:RM} {v fv:AV} {Q:ai},Q (.tup []) M→c [v,N .i64 0,N .i64 ((0:Nat) : Int),N .i64 ((0:Nat) : Int),fv] M Q
theorem NE {cv:FuncId→au} {ci c2 c3 cc c4 cp c6 c7 c8:au} (hi:Nj ci) : NF fun args M Q=>∃ a0 a1 a2 a3 a4,args=[a0,a1,a2,a3,a4]∧gL ci c2 c3 cc c4 cp cv c6 c7 c8 a0 a1 a2 a3 a4 M Q:=by
 intro M v fv Q hQ
 refine⟨_,_,_,_,_,rfl, ?_⟩
 unfold gL
 refine aJ (fun m ys M3=>m=0∧ys=[N .i64 0,N .i64 ((0:Nat) : Int),N .i64 ((0:Nat) : Int),Bo true,Bo true]∧M3=M) 0 ⟨rfl,rfl,rfl⟩ ?_
 rintro next m ys M3 hnext ⟨rfl,rfl,rfl⟩
 dsimp only[aa]
 rw[iV,show IntKind.i64.wrap (((0:Nat) : Int) - 0)=0 from rfl,kD,show decide ((0:Int)≤12)=true from rfl,dH]
 exact hi hQ
def oV (lt:aC→aC→Bool) (xs:List aC) : List aC:=(Sort.sort lt xs.toArray).toList
theorem YE (lt:aC→aC→Bool) : oV lt []=[]:=by
 unfold oV Sort.sort
 rw[IX,if_pos (by simp),Sort.insertionSort,Sort.insOuter,if_neg (by simp)]
theorem pq {lt:aC→aC→Bool} (hlt:Sort.SWO lt) (xs:List aC) : (oV lt xs).Perm xs:=by
 have h:=(Sort.sort_sorts lt hlt xs.toArray).1
 have h2:=h.2.2
 rw[Array.extract_eq_self_of_le (by rw[h.1]; exact Nat.le_refl _),Array.extract_eq_self_of_le (Nat.le_refl _)] at h2
 exact h2
theorem acj {lt:aC→aC→Bool} (hlt:Sort.SWO lt) (xs:List aC) : (oV lt xs).Pairwise fun x y=>lt y x=false:=by
 rw[List.pairwise_iff_getElem]
 intro i j hi hj hij
 have h:=(Sort.sort_sorts lt hlt xs.toArray)
 have hs:(Sort.sort lt xs.toArray).size=xs.toArray.size:=h.1.1
 unfold oV at hi hj ⊢
 rw[Array.length_toList] at hi hj
 have:=h.2 i j (Nat.zero_le _) hij (by omega)
 rw[Nq hj,Nq hi] at this
 rw[Array.getElem_toList,Array.getElem_toList]
 exact this
def Mg (fv:AV) (lt:aC→aC→Bool) (T:Nat) (c:au) : Prop:=∀ {M:RM} {base:Nat} {v:AV} {xs:List aC} {Q:ai},Ow aA M base T v xs→xs.length≤60000→(∀ M',Ow aA M' base T v (oV lt xs)→ag (aD v) M M'→Q (.tup []) M')→c [v,fv] M Q
theorem adH {T:Nat} {fv:AV} {lt:aC→aC→Bool} {cl cp:au} (hlt:Sort.SWO lt) (hl:F9 cl) (hp:∀ m,Xi T m fv lt cp) (h0:NF cp) : Mg fv lt T fun args M Q=>∃ a0 a1,args=[a0,a1]∧rA cl cp a0 a1 M Q:=by
 intro M base v xs Q ho hx hQ
 have hs:Sl aA M v xs:=ho.kU
 refine⟨_,_,rfl, ?_⟩
 unfold rA
 rw[aL.len hs,nU,lK (by omega) (by omega)]
 refine hl (by omega) ?_
 rcases Nat.eq_zero_or_pos xs.length with hn | hn
 ·rw[hn,show Sort.bitsLen 0=0 from rfl]
  refine h0 ?_
  have:=List.length_eq_zero_iff.1 hn
  subst this
  exact hQ M (by rw[YE]; exact ho) (ag.refl _ _)
 ·obtain⟨b,rfl,h1,h2,h3,h4⟩:=Own.yP ho hn
  have hb:=BX hn (by omega)
  have hsz:xs.toArray.size=xs.length:=by simp
  have hat:At aA T b xs.toArray M:=⟨by rw[h3],h2⟩
  have hsl:(oV lt xs).length=xs.length:=(pq hlt xs).length_eq
  have:=hp (xs.length + 1) (M:=M) (b:=b) (a:=0) (e:=xs.toArray.size) (limit:=Sort.bitsLen xs.length) (d:=xs.toArray) (Q:=fun bM M_0=>Q (.tup []) M_0) hat (by omega) (by omega) (Nat.le_refl _) (by omega) (by omega) fun M' h' k'=>?_
  ·have e5:aA.size=5:=rfl
   rw[e5]
   simpa using this
  ·have e:(Sort.pdq lt xs.toArray 0 xs.toArray.size (Sort.bitsLen xs.length) true true)=Sort.sort lt xs.toArray:=by rw[Sort.sort]; simp
   rw[e] at h'
   refine hQ _ ?_ (by simpa [aD] using k')
   have hlast:Own M' base T 5 (.slc b 0 xs.length (.op 5)) (aA.row (oV lt xs)) xs.length:=.op _ _ _ h1 h'.lt h'.heap (by rw[Enc.dX,hsl]; rfl)
   show Own M' base T 5 (.slc b 0 xs.length (.op 5)) (aA.row (oV lt xs)) (oV lt xs).length
   rw[hsl]; exact hlast
def alO (lt:Go.Ab.aB.aB→Go.Ab.aB.aB→Bool) (xs:List Go.Ab.aB.aB) : List Go.Ab.aB.aB:=(Sort.sort lt xs.toArray).toList
end Go.Ab.Crw
namespace Go.Ab.aB
open Go Go.Ab
theorem amD {ps qs:List Pt} (h1:ps.length=16) (h2:qs.length=16) (h:∀ j,j<16→ps.getD j (0,[])=qs.getD j (0,[])) : ps=qs:=by
 refine List.ext_getElem (by omega) fun j hj hj'=>?_
 have:=h j (by omega)
 rw[List.getD_eq_getElem?_getD,List.getD_eq_getElem?_getD,List.getElem?_eq_getElem hj,List.getElem?_eq_getElem hj'] at this
 exact this
theorem UN:∀ {xs ys:List Nat},Asc xs→Asc ys→(∀ x,x∈xs↔x∈ys)→xs=ys
 | [],[],_,_,_=>rfl
 | [],y :: ys,_,_,h=>by have:=(h y).2 (by simp); simp at this
 | x :: xs,[],_,_,h=>by have:=(h x).1 (by simp); simp at this
 | x :: xs,y :: ys,h1,h2,h=>by
   have a1:=List.pairwise_cons.1 h1
   have a2:=List.pairwise_cons.1 h2
   have hxy:x=y:=by
    rcases List.mem_cons.1 ((h x).1 (by simp)) with e | e
    ·exact e
    ·rcases List.mem_cons.1 ((h y).2 (by simp)) with e' | e'
     ·exact e'.symm
     ·have:=a2.1 x e; have:=a1.1 y e'; omega
   subst hxy
   refine congrArg (x :: ·) (UN a1.2 a2.2 fun z=>⟨fun hz=>?_,fun hz=>?_⟩)
   ·rcases List.mem_cons.1 ((h z).1 (by simp[hz])) with e | e
    ·subst e; have:=a1.1 z hz; omega
    ·exact e
   ·rcases List.mem_cons.1 ((h z).2 (by simp[hz])) with e | e
    ·subst e; have:=a2.1 z hz; omega
    ·exact e
theorem UC {u:Nat} {xs:List Nat} (h:∀ y∈xs,u + 1<y) : settle u xs=(u,xs):=by
 cases xs with
 | nil=>rfl
 | cons x xs =>
   have:=h x (by simp)
   unfold settle
   rw[dE,if_neg (by omega)]; rfl
theorem getD_set_ne {u:List Pt} {i j:Nat} {p:Pt} (h:i≠j) : (u.set i p).getD j (0,[])=u.getD j (0,[]):=by
 rw[List.getD_eq_getElem?_getD,List.getD_eq_getElem?_getD,List.getElem?_set_ne h]
theorem CP (j:Nat) : iT.getD j (0,[])=(0,[]):=by
 rw[List.getD_eq_getElem?_getD]
 unfold iT
 by_cases h:j<16
 ·rw[List.getElem?_replicate,if_pos h]; rfl
 ·rw[List.getElem?_replicate,if_neg h]; rfl
theorem WL {M:RM} {b o:Nat} {x:AV} {K:AV→Prop} (h:M.cell b o=some x) : aj M (.ptr b o) K=K x:=by
 rw[iy,h]; simp
theorem and_false {c:Bool} {f:KR→Prop} {M:RM} {Z:AV→RM→Prop} (hf:c=true→∀ k:KR,k (Bo false) M none→f k) (hZ:Z (Bo false) M) :
  af (Bo c) true f (fun k=>k .undef M none) (fun t M' b=>aK (Bo c) t (Bo false) fun t'=>Z t' M'):=by
 cases c with
 | false=>rw[rQ]; dsimp only; rw[dh]; exact hZ
 | true=>rw[r9]; exact hf rfl _ (by rw[eT]; exact hZ)
end Go.Ab.aB
namespace Go.Ab.Crw
open Go Go.Ab Go.Ab.aB
theorem oF:∀ (x y:List UInt8),Op.bytesLess x y=decide (x<y)
 | [],[]=>by simp[Op.bytesLess]
 | _ :: _,[]=>by simp[Op.bytesLess]
 | [],_ :: _=>by simp[Op.bytesLess]
 | a :: x,b :: y=>by
   rw[Op.bytesLess,oF x y]
   simp only[List.cons_lt_cons_iff]
   by_cases h1:a<b <;> by_cases h2:a=b <;> by_cases h3:x<y <;> simp[h1,h2,h3]
structure LO {β:Type} (lt:β→β→Bool) : Prop where
 irrefl:∀ x,lt x x=false
 trans:∀ x y z,lt x y=true→lt y z=true→lt x z=true
 tri:∀ x y,lt x y=false→lt y x=false→x=y
def lex {α β:Type} [DecidableEq β] (k:α→β) (lt1:β→β→Bool) (lt2:α→α→Bool) (x y:α) : Bool:=lt1 (k x) (k y) || (decide (k x=k y) && lt2 x y)
theorem Gw {α β:Type} [DecidableEq β] {k:α→β} {lt1:β→β→Bool} {lt2:α→α→Bool} (h1:LO lt1) (h2:Sort.SWO lt2) : Sort.SWO (lex k lt1 lt2) where
 irrefl x:=by simp[lex,h1.irrefl,h2.irrefl]
 trans x y z a b:=by
  simp only[lex,Bool.or_eq_true,Bool.and_eq_true,decide_eq_true_eq] at *
  rcases a with a | ⟨a,a'⟩ <;> rcases b with b | ⟨b,b'⟩
  ·exact .inl (h1.trans _ _ _ a b)
  ·exact .inl (by rw[← b]; exact a)
  ·exact .inl (by rw[a]; exact b)
  ·exact .inr ⟨a.trans b,h2.trans _ _ _ a' b'⟩
 ntrans x y z a b:=by
  simp only[lex,Bool.or_eq_false_iff,Bool.and_eq_false_iff,decide_eq_false_iff_not] at *
  obtain⟨a1,a2⟩:=a
  obtain⟨b1,b2⟩:=b
  have c1:lt1 (k x) (k z)=false:=by
   cases h:lt1 (k x) (k z) with
   | false=>rfl
   | true =>
     by_cases e:k x=k y
     ·rw[e,b1] at h; cases h
     ·have:lt1 (k y) (k x)=true:=by
       cases h' : lt1 (k y) (k x) with
       | true=>rfl
       | false=>exact absurd (h1.tri _ _ a1 h') e
      have:=h1.trans _ _ _ this h
      rw[b1] at this; cases this
  refine⟨c1, ?_⟩
  by_cases e:k x=k z
  ·right
   by_cases e2:k x=k y
   ·have e3:k y=k z:=e2.symm.trans e
    rcases a2 with a2 | a2
    ·exact absurd e2 a2
    ·rcases b2 with b2 | b2
     ·exact absurd e3 b2
     ·exact h2.ntrans _ _ _ a2 b2
   ·have h3:lt1 (k y) (k x)=false:=by rw[e]; exact b1
    exact absurd (h1.tri _ _ a1 h3) e2
  ·exact .inl e
theorem Te:LO (fun x y:Nat=>decide (x<y)):=⟨by simp,by simp; omega,by simp; omega⟩
theorem SK:LO (fun x y:Int=>decide (x<y)):=⟨by simp,by simp; omega,by simp; omega⟩
theorem zg:LO (fun x y:List UInt8=>decide (x<y)) where
 irrefl x:=by simp[List.lt_irrefl]
 trans x y z h1 h2:=by simp only[decide_eq_true_eq] at *; exact List.lt_trans h1 h2
 tri x y h1 h2:=by
  simp only[decide_eq_false_iff_not,List.not_lt] at *
  exact List.le_antisymm h2 h1
theorem abE {α:Type} : Sort.SWO (fun _ _:α=>false):=⟨fun _=>rfl,(fun _ _ _ h _=>by cases h),(fun _ _ _ _ _=>rfl)⟩
def ltD:aB→aB→Bool:=lex (fun d:aB=>d.2) (fun x y:Nat=>decide (x<y)) (lex (fun d:aB=>d.1) (fun x y:Int=>decide (x<y)) fun _ _=>false)
def fI:aC→aC→Bool:=lex (fun x:aC=>x.2.1) (fun x y=>decide (x<y)) (lex (fun x:aC=>x.2.2.1) (fun x y=>decide (x<y)) (lex (fun x:aC=>x.1.2) (fun x y:Nat=>decide (x<y)) (lex (fun x:aC=>x.1.1) (fun x y:Int=>decide (x<y)) fun _ _=>false)))
theorem iI:Sort.SWO fI:=Gw zg (Gw zg (Gw Te (Gw SK abE)))
def c3 {β:Type} (lt:β→β→Bool) (x y:β) : Int:=if lt x y then -1 else if lt y x then 1 else 0
theorem aay {β:Type} {lt:β→β→Bool} (h:LO lt) (x y:β) : (c3 lt x y=-1∧lt x y=true∧x≠y)∨(c3 lt x y=1∧lt x y=false∧x≠y)∨(c3 lt x y=0∧lt x y=false∧x=y):=by
 unfold c3
 cases h1:lt x y with
 | true=>exact .inl ⟨rfl,rfl,fun e=>by rw[e,h.irrefl] at h1; cases h1⟩
 | false =>
   cases h2:lt y x with
   | true=>exact .inr (.inl ⟨rfl,rfl,fun e=>by rw[e,h.irrefl] at h2; cases h2⟩)
   | false=>exact .inr (.inr ⟨rfl,rfl,h.tri _ _ h1 h2⟩)
def H6 (a b:Int) : Int:=if a≠0 then a else b
def Is3 {α:Type} (lt:α→α→Bool) (f:α→α→Int) : Prop:=∀ x y,decide (f x y<0)=lt x y
theorem GL {α β:Type} [DecidableEq β] {k:α→β} {lt1:β→β→Bool} {lt2:α→α→Bool} {f:α→α→Int} (h1:LO lt1) (h2:Is3 lt2 f) : Is3 (lex k lt1 lt2) (fun x y=>H6 (c3 lt1 (k x) (k y)) (f x y)):=by
 intro x y
 unfold lex
 show decide (H6 (c3 lt1 (k x) (k y)) (f x y)<0)=_
 unfold H6
 rcases aay h1 (k x) (k y) with⟨a,b,c⟩ | ⟨a,b,c⟩ | ⟨a,b,c⟩
 ·rw[a,b]; rfl
 ·rw[a,b,decide_eq_false c]; rfl
 ·rw[a,b,decide_eq_true c,if_neg (by simp),h2 x y]; rfl
theorem aa1 {α:Type} : Is3 (fun _ _:α=>false) (fun _ _=>0):=fun _ _=>rfl
def xg {α:Type} (mk:α→AV) (lt:α→α→Bool) (c:au) : Prop:=∀ {M:RM} {x y:α} {Q:ai},Q (N .i64 (c3 lt x y)) M→c [mk x,mk y] M Q
def Cy {α:Type} (mk:α→AV) (c:au) : Prop:=∀ {M:RM} {x:α} {Q:ai},Q (Bo false) M→c [mk x] M Q
theorem Yq:Cy (α:=List UInt8) (fun s=>St s) fun args M Q=>∃ a0,args=[a0]∧uF a0 M Q:=by
 intro M x Q hQ
 refine⟨_,rfl, ?_⟩
 unfold uF
 rw[mU,show(x != x)=false by simp]
 exact hQ
theorem Yu:Cy (α:=Nat) (fun n=>N .u64 (n:Int)) fun args M Q=>∃ a0,args=[a0]∧aB.pF a0 M Q:=by
 intro M x Q hQ
 exact⟨_,rfl,Ky hQ⟩
theorem YX:Cy (α:=Int) (fun n=>N .i64 n) fun args M Q=>∃ a0,args=[a0]∧Az a0 M Q:=by
 intro M x Q hQ
 refine⟨_,rfl, ?_⟩
 unfold Az
 rw[jH,show(x != x)=false by simp]
 exact hQ
theorem Yr {cn:au} (hn:Cy (α:=List UInt8) (fun s=>St s) cn) : xg (α:=List UInt8) (fun s=>St s) (fun x y=>decide (x<y)) fun args M Q=>∃ a0 a1,args=[a0,a1]∧rf cn a0 a1 M Q:=by
 intro M x y Q hQ
 refine⟨_,_,rfl, ?_⟩
 unfold rf
 refine hn (hn ?_)
 rw[bG,bG,Js,oF]
 unfold c3 at hQ
 by_cases h1:x<y
 ·rw[decide_eq_true h1,dH]
  rw[if_pos (by simpa using h1)] at hQ; exact hQ
 ·rw[decide_eq_false h1,bG,acu,oF,decide_eq_false h1,Bool.false_or]
  rw[if_neg (by simpa using h1)] at hQ
  by_cases h2:y<x
  ·have hne:x≠y:=fun e=>by subst e; exact List.lt_irrefl _ h2
   rw[show(x == y)=false by simpa using hne,Bool.not_false,dH]
   rw[if_pos (by simpa using h2)] at hQ; exact hQ
  ·have he:x=y:=zg.tri x y (by simpa using h1) (by simpa using h2)
   rw[show(x == y)=true by simpa using he,Bool.not_true,bG]
   rw[if_neg (by simpa using h2)] at hQ; exact hQ
theorem ZB {cn:au} (hn:Cy (α:=Nat) (fun n=>N .u64 (n:Int)) cn) : xg (α:=Nat) (fun n=>N .u64 (n:Int)) (fun x y=>decide (x<y)) fun args M Q=>∃ a0 a1,args=[a0,a1]∧qR cn a0 a1 M Q:=by
 intro M x y Q hQ
 refine⟨_,_,rfl, ?_⟩
 unfold qR
 refine hn (hn ?_)
 rw[bG,bG,cK]
 unfold c3 at hQ
 by_cases h1:x<y
 ·rw[show decide ((x:Int)<(y:Int))=true by simpa using h1,dH]
  rw[if_pos (by simpa using h1)] at hQ; exact hQ
 ·rw[show decide ((x:Int)<(y:Int))=false by simpa using h1,bG,ic]
  rw[if_neg (by simpa using h1)] at hQ
  by_cases h2:y<x
  ·rw[show decide ((x:Int) > (y:Int))=true by simpa using h2,dH]
   rw[if_pos (by simpa using h2)] at hQ; exact hQ
  ·rw[show decide ((x:Int) > (y:Int))=false by simpa using h2,bG]
   rw[if_neg (by simpa using h2)] at hQ; exact hQ
theorem Yx {cn:au} (hn:Cy (α:=Int) (fun n=>N .i64 n) cn) : xg (α:=Int) (fun n=>N .i64 n) (fun x y=>decide (x<y)) fun args M Q=>∃ a0 a1,args=[a0,a1]∧wF cn a0 a1 M Q:=by
 intro M x y Q hQ
 refine⟨_,_,rfl, ?_⟩
 unfold wF
 refine hn (hn ?_)
 rw[bG,bG,cK]
 unfold c3 at hQ
 by_cases h1:x<y
 ·rw[show decide (x<y)=true by simpa using h1,dH]
  rw[if_pos (by simpa using h1)] at hQ; exact hQ
 ·rw[show decide (x<y)=false by simpa using h1,bG,ic]
  rw[if_neg (by simpa using h1)] at hQ
  by_cases h2:y<x
  ·rw[show decide (x > y)=true by simpa using h2,dH]
   rw[if_pos (by simpa using h2)] at hQ; exact hQ
  ·rw[show decide (x > y)=false by simpa using h2,bG]
   rw[if_neg (by simpa using h2)] at hQ; exact hQ
def INT:Enc Int:=⟨1,fun n=>[N .i64 n],fun _=>rfl,fun _=>rfl⟩
def I4:List Int→Int
 | []=>0
 | x :: xs=>H6 x (I4 xs)
def OrC (c:au) : Prop:=∀ {M:RM} {v:AV} {xs:List Int} {Q:ai},Sl INT M v xs→xs.length≤100→Q (N .i64 (I4 xs)) M→c [v] M Q
theorem afb:OrC fun args M Q=>∃ a0,args=[a0]∧JE a0 M Q:=by
 intro M v xs Q hs hl hQ
 refine⟨_,rfl, ?_⟩
 unfold JE
 rw[aL.len hs]
 refine aJ (fun m ys M3=>∃ i:Nat,m=xs.length - i∧ys=[N .i64 (i:Int)]∧i≤xs.length∧M3=M∧I4 xs=I4 (xs.drop i)) _ ⟨0,rfl,rfl,Nat.zero_le _,rfl,rfl⟩ ?_
 rintro next m ys M3 hnext ⟨i,rfl,rfl,hi,rfl,hm⟩
 dsimp only[aa]
 rw[cK]
 refine aH (fun hlt=>?_) (fun hge=>?_)
 ·have hlt:i<xs.length:=by simpa using hlt
  obtain⟨b1,o1,_,_,akI,hc1⟩:=Sl.Ef (E:=INT) hs (i:Int) hlt
  rw[akI,WL (hc1 _ rfl),jH]
  rw[List.drop_eq_getElem_cons hlt,I4,H6] at hm
  by_cases h0:xs[i]=0
  ·rw[show(xs[i] != 0)=false by simp[h0],bG,bY,gD (by omega)]
   rw[if_neg (by simp[h0])] at hm
   exact hnext _ _ _ (by omega) ⟨i + 1,rfl,rfl,hlt,rfl,hm⟩
  ·rw[show(xs[i] != 0)=true by simp[h0],dH]
   rw[if_pos (by simp[h0])] at hm
   rw[hm] at hQ
   exact hQ
 ·have he:i=xs.length:=by simp at hge; omega
  subst he
  rw[List.drop_length] at hm
  rw[hm] at hQ
  exact hQ
theorem alE {T:Nat} {M:RM} {x y:Int} {K:RB→(Nat→AV)→Prop} : fw T 2 [(N .i64 0)] [(0,1,N .i64 x),(1,1,N .i64 y)] K=K (.row [N .i64 x,N .i64 y] false T 0) (fun b=>.slc b 0 2 (.ex 2)):=by
 apply propext; unfold fw
 constructor
 ·rintro⟨l,h,hk⟩; cases h; exact hk
 ·intro hk; exact⟨_,rfl,hk⟩
theorem alh {T:Nat} {M:RM} {x y z:Int} {K:RB→(Nat→AV)→Prop} : fw T 3 [(N .i64 0)] [(0,1,N .i64 x),(1,1,N .i64 y),(2,1,N .i64 z)] K=K (.row [N .i64 x,N .i64 y,N .i64 z] false T 0) (fun b=>.slc b 0 3 (.ex 3)):=by
 apply propext; unfold fw
 constructor
 ·rintro⟨l,h,hk⟩; cases h; exact hk
 ·intro hk; exact⟨_,rfl,hk⟩
def f3D (x y:aB) : Int:=H6 (c3 (fun x y:Nat=>decide (x<y)) x.2 y.2) (H6 (c3 (fun x y:Int=>decide (x<y)) x.1 y.1) 0)
def f3E (x y:aC) : Int:=H6 (c3 (fun x y:List UInt8=>decide (x<y)) x.2.1 y.2.1) (H6 (c3 (fun x y:List UInt8=>decide (x<y)) x.2.2.1 y.2.2.1) (f3D x.1 y.1))
theorem aov:Is3 fI f3E:=GL (k:=fun x:aC=>x.2.1) zg (GL (k:=fun x:aC=>x.2.2.1) zg (GL (k:=fun x:aC=>x.1.2) Te (GL (k:=fun x:aC=>x.1.1) SK aa1)))
def Tt (c:au) : Prop:=∀ {M:RM} {x y:aB} {Q:ai},(∀ M',ag [] M M'→Q (N .i64 (f3D x y)) M')→c [.agg (aP x),.agg (aP y)] M Q
theorem Wn {TD TI:Nat} {cu ci co:au} (hu:xg (α:=Nat) (fun n=>N .u64 (n:Int)) (fun x y=>decide (x<y)) cu) (hi:xg (α:=Int) (fun n=>N .i64 n) (fun x y=>decide (x<y)) ci) (ho:OrC co) :
  Tt fun args M Q=>∃ a0 a1,args=[a0,a1]∧Ns TD cu ci TI co a0 a1 M Q:=by
 intro M x y Q hQ
 refine⟨_,_,rfl, ?_⟩
 unfold Ns
 rw[dL rfl (by simp),bz,dL rfl (by simp),bz]
 have k1:ag [] M (M.push (.row (aP x) false TD 0)):=(ag.refl _ _).push _
 have k2:ag [] M ((M.push (.row (aP x) false TD 0)).push (.row (aP y) false TD 0)):=k1.push _
 have h2:((M.push (.row (aP x) false TD 0)).push (.row (aP y) false TD 0)).heap (M.push (.row (aP x) false TD 0)).next=some (.row (aP y) false TD 0):=RM.aT _
 have h1:((M.push (.row (aP x) false TD 0)).push (.row (aP y) false TD 0)).heap M.next=some (.row (aP x) false TD 0):=mo (RM.aT _) (by simp[RM.push])
 generalize (M.push (.row (aP x) false TD 0)).push (.row (aP y) false TD 0)=M2 at *
 generalize (M.push (.row (aP x) false TD 0)).next=s at *
 rw[bB,av h1 rfl,bB,av h2 rfl,bB,av h1 rfl,bB,av h2 rfl]
 refine hu ?_
 rw[av h1 rfl]
 refine⟨rfl, ?_⟩
 rw[av h2 rfl]
 refine⟨rfl, ?_⟩
 refine hi ?_
 rw[alE (M:=M2),rT]
 refine ho (xs:=[_,_]) ?_ (by simp) (hQ _ (k2.push _))
 exact Sl.new (E:=INT) [_,_]
def Il (c:au) : Prop:=∀ {M:RM} {x y:aC} {Q:ai},(∀ M',ag [] M M'→Q (N .i64 (f3E x y)) M')→c [.agg (aA.cells x),.agg (aA.cells y)] M Q
theorem TA {TE TI:Nat} {cs cd co:au} (hs:xg (α:=List UInt8) (fun s=>St s) (fun x y=>decide (x<y)) cs) (hd:Tt cd) (ho:OrC co) :
  Il fun args M Q=>∃ a0 a1,args=[a0,a1]∧FU TE cs cd TI co a0 a1 M Q:=by
 intro M x y Q hQ
 refine⟨_,_,rfl, ?_⟩
 unfold FU
 rw[dL rfl (by rw[aA.len]; decide),bz,dL rfl (by rw[aA.len]; decide),bz]
 have k1:ag [] M (M.push (.row (aA.cells x) false TE 0)):=(ag.refl _ _).push _
 have k2:ag [] M ((M.push (.row (aA.cells x) false TE 0)).push (.row (aA.cells y) false TE 0)):=k1.push _
 have h2:((M.push (.row (aA.cells x) false TE 0)).push (.row (aA.cells y) false TE 0)).heap (M.push (.row (aA.cells x) false TE 0)).next=some (.row (aA.cells y) false TE 0):=RM.aT _
 have h1:((M.push (.row (aA.cells x) false TE 0)).push (.row (aA.cells y) false TE 0)).heap M.next=some (.row (aA.cells x) false TE 0):=mo (RM.aT _) (by simp[RM.push])
 have n1:M.next<((M.push (.row (aA.cells x) false TE 0)).push (.row (aA.cells y) false TE 0)).next:=by simp[RM.push]; omega
 have n2:(M.push (.row (aA.cells x) false TE 0)).next<((M.push (.row (aA.cells x) false TE 0)).push (.row (aA.cells y) false TE 0)).next:=by simp[RM.push]
 generalize (M.push (.row (aA.cells x) false TE 0)).push (.row (aA.cells y) false TE 0)=M2 at *
 generalize (M.push (.row (aA.cells x) false TE 0)).next=s at *
 have ld:∀ {M' : RM} {b:Nat} {z:aC},M'.heap b=some (.row (aA.cells z) false TE 0)→∀ K:AV→Prop,aF M' (.ptr b 0) 2 K=K (.agg (aP z.1)):=fun {M' b z} h K=>by
  rw[fK,RM.bW h (by show 0 + 2≤5; decide)]
  simp[aA]
 rw[bB,av h1 rfl,bB,av h2 rfl,bB,av h1 rfl,bB,av h2 rfl,bB,ld h1,bB,ld h2]
 refine hs ?_
 rw[av h1 rfl]
 refine⟨rfl, ?_⟩
 rw[av h2 rfl]
 refine⟨rfl, ?_⟩
 rw[ld h1]
 refine⟨rfl, ?_⟩
 rw[ld h2]
 refine⟨rfl, ?_⟩
 refine hs ?_
 rw[ld h1]
 refine⟨rfl, ?_⟩
 rw[ld h2]
 refine⟨rfl, ?_⟩
 refine hd fun M3 k3=>?_
 rw[alh (M:=M3),rT]
 refine ho (xs:=[_,_,_]) (Sl.new (E:=INT) [_,_,_]) (by simp) ?_
 have e:I4 [c3 (fun x y:List UInt8=>decide (x<y)) x.2.1 y.2.1,c3 (fun x y:List UInt8=>decide (x<y)) x.2.2.1 y.2.2.1,f3D x.1 y.1]=f3E x y:=by
  simp only[I4,f3E]
  congr 2
  unfold H6; split <;> simp_all
 rw[e]
 exact hQ _ ((k2.trans k3).push _)
theorem adC {cv:FuncId→au} {n:Nat} (h:Il (cv n)) : yM aA fI (eG cv (.fn (.func n) [] [])):=by
 intro M x y Q hQ
 exact⟨n,[],[],rfl,h fun M' k=>hQ _ _ (aov x y) k⟩
abbrev mE:=aB × (Int × (List UInt8 × (List UInt8 × List UInt8)))
def EvE:Enc mE:=⟨6,fun e=>aP e.1++[N .i64 e.2.1,St e.2.2.1,St e.2.2.2.1,St e.2.2.2.2],fun _=>rfl,fun _=>rfl⟩
abbrev fA (e:mE) (kv:AV) : List AV:=EvE.cells e++[kv]
theorem UX {M:RM} {c p:Bool} {f:KR→Prop} {P:RM→Prop} {G:AV→RM→Prop} (h0:P M) (hf:c=false→∀ k:KR,(∀ M',P M'→k (Bo p) M' none)→f k) (hG:∀ M',P M'→G (Bo (c || p)) M') :
  af (Bo c) false f (fun k=>k .undef M none) (fun t M' b=>aK (Bo c) (Bo true) t fun u=>G u M'):=by
 cases c with
 | true=>rw[EM]; dsimp only; rw[eT]; exact hG M h0
 | false=>rw[zV]; exact hf rfl _ fun M' h=>by rw[dh]; exact hG M' h
theorem yB {M:RM} {c p:Bool} {f:ai→Prop} {G:AV→RM→Prop} (hf:c=false→∀ k:ai,k (Bo p) M→f k) (hG:G (Bo (c || p)) M) :
  ah (Bo c) false f (fun k=>k .undef M) (fun t M'=>aK (Bo c) (Bo true) t fun u=>G u M'):=by
 cases c with
 | true=>rw[lv]; dsimp only; rw[eT]; exact hG
 | false=>rw[fM]; exact hf rfl _ (by rw[dh]; exact hG)
theorem ady {M:RM} {c q r:Bool} {f0:KR→Prop} {f:RM→KR→Prop} {P:RM→Prop} {G:AV→RM→Prop} (h0:P M) (hf0:c=false→∀ k:KR,k (Bo q) M none→f0 k) (hf:c=false→q=true→∀ k:KR,(∀ M',P M'→k (Bo r) M' none)→f M k) (hG:∀ M',P M'→G (Bo (c || (q && r))) M') :
  af (Bo c) false f0 (fun k=>k .undef M none) fun t45 M1 b1=>af t45 true (f M1) (fun k=>k .undef M1 none) fun t54 M2 b2=>af (Bo c) false (fun k3=>aK t45 t54 (Bo false) fun t55=>k3 t55 M2 none) (fun k=>k .undef M2 none) fun t55 M3 b3=>aK (Bo c) (Bo true) t55 fun t56=>G t56 M3:=by
 cases c with
 | true=>rw[EM]; dsimp only; rw[aaS]; dsimp only; rw[EM]; dsimp only; rw[eT]; exact hG M h0
 | false =>
   rw[zV]
   refine hf0 rfl _ ?_
   cases q with
   | false=>rw[rQ]; dsimp only; rw[zV]; dsimp only; rw[dh,dh]; exact hG M h0
   | true =>
     rw[r9]
     refine hf rfl rfl _ fun M' h=>?_
     rw[zV]; dsimp only; rw[eT,dh]; exact hG M' h
theorem Pm {M:RM} {c q r:Bool} {f0:ai→Prop} {f:RM→ai→Prop} {G:AV→RM→Prop} (hf0:c=false→∀ k:ai,k (Bo q) M→f0 k) (hf:c=false→q=true→∀ k:ai,k (Bo r) M→f M k) (hG:G (Bo (c || (q && r))) M) :
  ah (Bo c) false f0 (fun k=>k .undef M) fun t45 M1=>ah t45 true (f M1) (fun k=>k .undef M1) fun t54 M2=>ah (Bo c) false (fun k3=>aK t45 t54 (Bo false) fun t55=>k3 t55 M2) (fun k=>k .undef M2) fun t55 M3=>aK (Bo c) (Bo true) t55 fun t56=>G t56 M3:=by
 cases c with
 | true=>rw[lv]; dsimp only; rw[Di]; dsimp only; rw[lv]; dsimp only; rw[eT]; exact hG
 | false =>
   rw[fM]
   refine hf0 rfl _ ?_
   cases q with
   | false=>rw[bN]; dsimp only; rw[fM]; dsimp only; rw[dh,dh]; exact hG
   | true =>
     rw[dG]
     refine hf rfl rfl _ ?_
     rw[fM]; dsimp only; rw[eT,dh]; exact hG
def nR (a b:aB) : Bool:=decide (a.2<b.2) || (decide (a.2=b.2) && decide (a.1<b.1))
def vS (c:au) : Prop:=∀ {M:RM} {a b:aB} {Q:ai},(∀ M',ag [] M M'→Q (Bo (nR a b)) M')→c [.agg (aP a),.agg (aP b)] M Q
theorem Od {M1:RM} {T m1 m2:Nat} {a b:aB} {K:AV→RM→Prop} (h1:M1.heap m1=some (.row (aP a) false T 0)) (h2:M1.heap m2=some (.row (aP b) false T 0)) (hK:K (Bo (nR a b)) M1) :
  aI (.ptr m1 0) 1 fun t5=>aj M1 t5 fun t6=>aI (.ptr m2 0) 1 fun t7=>aj M1 t7 fun t8=>ae .lss t6 t8 fun t9 =>
  ah t9 false (fun k'=>aI (.ptr m1 0) 1 fun bU=>aj M1 bU fun t12=>aI (.ptr m2 0) 1 fun t13=>aj M1 t13 fun t14=>ae .eql t12 t14 fun t15=>k' t15 M1) (fun k=>k .undef M1) fun t16 dV =>
  ah t16 true (fun k'=>aI (.ptr m1 0) 0 fun t17=>aj dV t17 fun t18=>aI (.ptr m2 0) 0 fun t19=>aj dV t19 fun t20=>ae .lss t18 t20 fun t21=>k' t21 dV) (fun k=>k .undef dV) fun FD il =>
  ah t9 false (fun DK=>aK t16 FD (Bo false) fun t22=>DK t22 il) (fun k=>k .undef il) fun FQ jF =>
  aK t9 (Bo true) FQ fun t23=>K t23 jF:=by
 rw[bB,av h1 rfl,bB,av h2 rfl,cK,show decide ((a.2:Int)<(b.2:Int))=decide (a.2<b.2) by simp]
 refine Pm (q:=decide (a.2=b.2)) (r:=decide (a.1<b.1)) (fun _ k hk=>?_) (fun _ _ k hk=>?_) hK
 ·rw[bB,av h1 rfl,bB,av h2 rfl,cO,show((a.2:Int) == (b.2:Int))=decide (a.2=b.2) by by_cases h:a.2=b.2 <;> simp[h]; omega]
  exact hk
 ·rw[bB,av h1 rfl,bB,av h2 rfl,cK]
  exact hk
theorem VE {T:Nat} : vS fun args M Q=>∃ a0 a1,args=[a0,a1]∧SB T a0 a1 M Q:=by
 intro M a b Q hQ
 refine⟨_,_,rfl, ?_⟩
 unfold SB
 simp only[jd]
 rw[dL rfl (by simp),bz,dL rfl (by simp),bz]
 exact Od (mo (RM.aT _) (by simp[RM.push])) (RM.aT _) (hQ _ (((ag.refl _ _).push _).push _))
theorem PT {T:Nat} : vS fun args M Q=>∃ a0 a1,args=[a0,a1]∧Ji T a0 a1 M Q:=by
 intro M a b Q hQ
 refine⟨_,_,rfl, ?_⟩
 unfold Ji
 simp only[jd]
 rw[dL rfl (by simp),bz,dL rfl (by simp),bz]
 exact Od (mo (RM.aT _) (by simp[RM.push])) (RM.aT _) (hQ _ (((ag.refl _ _).push _).push _))
def names (c f v:List UInt8) : Bool:=decide (1≤c.length) && decide (c.length≤64) && decide (f.length≤64) && decide (v.length≤512)
def aiu:Option aB→aB→Bool
 | none,_=>true
 | some q,k=>nR q k
def gJ (d:aB) (p:Option aB) : List aB→Bool
 | []=>true
 | k :: ks=>good k && !decide (k=d) && aiu p k && gJ d (some k) ks
def AL (e:mE) : Bool:=(decide (e.2.1=1) && decide (e.2.2.2.1≠[])) || (decide (e.2.1=2) && decide (e.2.2.2.2=[]))
def dz (e:mE) (ks:List aB) : Bool:=good e.1 && names e.2.2.1 e.2.2.2.1 e.2.2.2.2 && decide (ks.length≤64) && gJ e.1 none ks && AL e
def P9 (c:au) : Prop:=∀ {M:RM} {x y z:List UInt8} {Q:ai},Q (Bo (names x y z)) M→c [St x,St y,St z] M Q
theorem WS:P9 fun args M Q=>∃ a0 a1 a2,args=[a0,a1,a2]∧Be a0 a1 a2 M Q:=by
 intro M x y z Q hQ
 refine⟨_,_,_,rfl, ?_⟩
 unfold Be
 simp only[jd]
 rw[jW,ik]
 refine andM (p:=decide (x.length≤64)) (fun _ k hk=>?_) ?_
 ·rw[jW,kD,show decide ((x.length:Int)≤64)=decide (x.length≤64) by simp; omega]; exact hk
 refine andM (p:=decide (y.length≤64)) (fun _ k hk=>?_) ?_
 ·rw[jW,kD,show decide ((y.length:Int)≤64)=decide (y.length≤64) by simp; omega]; exact hk
 refine andM (p:=decide (z.length≤512)) (fun _ k hk=>?_) ?_
 ·rw[jW,kD,show decide ((z.length:Int)≤512)=decide (z.length≤512) by simp; omega]; exact hk
 rw[show decide ((x.length:Int) ≥ 1)=decide (1≤x.length) by simp; omega]
 exact hQ
def xL (c:au) : Prop:=∀ {M:RM} {e:mE} {kv:AV} {ks:List aB} {Q:ai},Sl dP M kv ks→(∀ M',ag [] M M'→Q (Bo (dz e ks)) M')→c [.agg (fA e kv)] M Q
theorem zZ {M:RM} {b T:Nat} {e:mE} {kv:AV} (h:M.heap b=some (.row (fA e kv) false T 0)) {K:AV→Prop} : aF M (.ptr b 0) 2 K=K (.agg (aP e.1)):=by
 have e2:((fA e kv).drop 0).take 2=aP e.1:=rfl
 rw[fK,RM.bW h (by show 0 + 2≤7; decide),e2]
 simp
theorem Lr {M:RM} {e:mE} {kv:AV} {ks:List aB} (h:Sl dP M kv ks) : (fA e kv).all oneCell=true:=by
 rw[List.all_append,EvE.one,List.all_cons,aL.one h]; rfl
theorem rV {M:RM} {kv:AV} {ks:List aB} (h:Sl dP M kv ks) {i:Nat} (hi:i<ks.length) {kd:IntKind} {K:AV→Prop} : (ax kv (N kd (i:Int)) 2 fun p=>aF M p 2 K)=K (.agg (aP ks[i])):=by
 obtain⟨b,o,_,_,hidx,hld⟩:=Sl.at (E:=dP) (i:=i) h 2 (i:Int) hi rfl rfl
 rw[hidx,fK,hld]
 simp[dP]
def zR (ks:List aB) (i:Nat) : Option aB:=if i=0 then none else ks[i - 1]?
theorem EN {d:aB} {ks:List aB} {i:Nat} (hi:i<ks.length) : gJ d (zR ks i) (ks.drop i) =
  (good ks[i] && !decide (ks[i]=d) && (if h:0<i then nR (ks[i - 1]'(by omega)) ks[i] else true) && gJ d (zR ks (i + 1)) (ks.drop (i + 1))):=by
 rw[List.drop_eq_getElem_cons hi,gJ]
 have e2:zR ks (i + 1)=some ks[i]:=by rw[zR,if_neg (by omega),Nat.add_sub_cancel,List.getElem?_eq_getElem hi]
 rw[e2]
 by_cases h0:i=0
 ·subst h0; rfl
 ·have e1:zR ks i=some (ks[i - 1]'(by omega)):=by rw[zR,if_neg h0,List.getElem?_eq_getElem (by omega)]
  rw[e1,dif_pos (by omega)]; rfl
theorem UD {TE TD:Nat} {cg cn cl:au} (hg:zD cg) (hn:P9 cn) (hl:vS cl) : xL fun args M Q=>∃ a0,args=[a0]∧Ql TE cg cn TD cl a0 M Q:=by
 intro M0 e kv ks Q hs0 hQ
 refine⟨_,rfl, ?_⟩
 unfold Ql
 simp only[jd,gQ,fC,gp]
 rw[dL (Lr hs0) (by simp),bz]
 have k0:ag [] M0 (M0.push (.row (fA e kv) false TE 0)):=(ag.refl _ _).push _
 have h0:(M0.push (.row (fA e kv) false TE 0)).heap M0.next=some (.row (fA e kv) false TE 0):=RM.aT _
 have hlt:M0.next<(M0.push (.row (fA e kv) false TE 0)).next:=by simp[RM.push]
 have hs:=aL.keep hs0 k0 (by simp)
 generalize M0.push (.row (fA e kv) false TE 0)=M at *
 generalize M0.next=b at *
 have hs:Sl dP M kv ks:=hs
 rw[bB,zZ h0]
 refine hg fun M1 k1=>?_
 have h1:=k1.aR h0 hlt (by simp)
 have s1:Sl dP M1 kv ks:=aL.keep hs k1 (by simp)
 rw[bK]
 refine yB (p:=!names e.2.2.1 e.2.2.2.1 e.2.2.2.2) (fun _ k hk=>?_) ?_
 ·rw[bB,av h1 rfl,bB,av h1 rfl,bB,av h1 rfl]
  refine hn ?_
  rw[bK]
  exact hk
 refine yB (p:=decide (ks.length > 64)) (fun _ k hk=>?_) ?_
 ·rw[bB,av h1 rfl,aL.len s1,ic,show decide ((ks.length:Int) > 64)=decide (ks.length > 64) by simp; omega]
  exact hk
 refine aH (fun hc=>?_) (fun hc=>?_)
 ·have:dz e ks=false:=by
   unfold dz
   simp only[Bool.or_eq_true,Bool.not_eq_true',decide_eq_true_eq] at hc
   rcases hc with(hc | hc) | hc
   ·rw[hc]; rfl
   ·rw[hc,Bool.and_false]; rfl
   ·rw[decide_eq_false (show ¬ (ks.length≤64) by omega),Bool.and_false]; rfl
  rw[this] at hQ
  exact hQ M1 (k0.trans k1)
 simp only[Bool.or_eq_false_iff,Bool.not_eq_false',decide_eq_false_iff_not] at hc
 obtain⟨⟨hc1,hc2⟩,hc3⟩:=hc
 have nQ:dz e ks=(gJ e.1 none ks && AL e):=by
  unfold dz
  rw[hc1,hc2,decide_eq_true (show(ks.length≤64) by omega)]; simp
 rw[bB,av h1 rfl,aL.len s1]
 refine aJ (fun m ys M3=>∃ i:Nat,m=ks.length - i∧ys=[N .i64 (i:Int)]∧i≤ks.length∧ag [] M1 M3∧gJ e.1 none ks=gJ e.1 (zR ks i) (ks.drop i)) _ ⟨0,rfl,rfl,Nat.zero_le _,ag.refl _ _,rfl⟩ ?_
 rintro next m ys M3 hnext ⟨i,rfl,rfl,hi,k3,hm⟩
 dsimp only[aa]
 have n1:=k1.next
 have h3:=k3.aR h1 (by omega) (by simp)
 have s3:Sl dP M3 kv ks:=aL.keep s1 k3 (by simp)
 have kk3:=(k0.trans k1).trans k3
 rw[eO]
 refine aH (fun hlt2=>?_) (fun hge=>?_)
 ·have hlt2:i<ks.length:=of_decide_eq_true hlt2
  rw[EN hlt2] at hm
  rw[rV s3 hlt2,bz,fD (n:=2) (x:=.agg (aP ks[i])) (l:=[N .i64 0,N .u64 0]) (RM.aT _) rfl rfl rfl]
  have k4:ag [] M3 ((M3.push (.row [N .i64 0,N .u64 0] false TD 0)).put M3.next (.row (AV.agg (aP ks[i])).cells false TD 0)):=((ag.refl _ _).push _).new _ (Nat.le_refl _)
  have hk4:((M3.push (.row [N .i64 0,N .u64 0] false TD 0)).put M3.next (.row (AV.agg (aP ks[i])).cells false TD 0)).heap M3.next=some (.row (aP ks[i]) false TD 0):=aU _
  have hn4:M3.next<((M3.push (.row [N .i64 0,N .u64 0] false TD 0)).put M3.next (.row (AV.agg (aP ks[i])).cells false TD 0)).next:=by simp[RM.push,RM.put]
  generalize (M3.push (.row [N .i64 0,N .u64 0] false TD 0)).put M3.next (.row (AV.agg (aP ks[i])).cells false TD 0)=M4 at *
  generalize M3.next=s at *
  rw[eX (n:=2) hk4 rfl]
  refine hg fun M5 k5=>?_
  have hk5:=k5.aR hk4 hn4 (by simp)
  have h5:=(k4.trans k5).aR h3 (by have:=k3.next; omega) (by simp)
  have s5:Sl dP M5 kv ks:=aL.keep s3 (k4.trans k5) (by simp)
  have kk5:=(k3.trans k4).trans k5
  rw[bK]
  refine UX (P:=fun M'=>M'=M5) (p:=decide (ks[i]=e.1)) rfl (fun _ k hk=>?_) fun M' hM'=>?_
  ·rw[eX (n:=2) hk5 rfl,bB,zZ h5,vY rfl rfl (Lc _ _),Bool.bne_false]
   exact hk M5 rfl
  subst hM'
  refine ady (P:=fun M6=>ag [] M1 M6) (q:=decide (i > 0)) (r:=!(if h:0<i then nR (ks[i - 1]'(by omega)) ks[i] else true)) kk5 (fun _ k hk=>?_) (fun _ hq k hk=>?_) fun M6 k6=>?_
  ·rw[show(0:Int)=((0:Nat) : Int) from rfl,wK]
   exact hk
  ·have hq:0<i:=of_decide_eq_true hq
   rw[bB,av h5 rfl,bL (by omega) (by omega),rV s5 (by omega),eX (n:=2) hk5 rfl]
   refine hl fun M7 k7=>?_
   rw[bK,← dif_pos (c:=0<i) (t:=fun h=>nR (ks[i - 1]'(by omega)) ks[i]) (e:=fun _=>true) hq]
   exact hk M7 (kk5.trans k7)
  refine aH (fun hb=>?_) (fun hb=>?_)
  ·have:gJ e.1 none ks=false:=by
    rw[hm]
    simp only[Bool.or_eq_true,Bool.and_eq_true,Bool.not_eq_true',decide_eq_true_eq] at hb
    rcases hb with(hb | hb) | ⟨_,hb⟩
    ·rw[hb]; rfl
    ·rw[show decide (ks[i]=e.1)=true by simpa using hb]; simp
    ·rw[hb]; simp
   rw[nQ,this] at hQ
   exact hQ M6 ((k0.trans k1).trans k6)
  ·rw[add1 (by omega)]
   refine hnext _ _ _ (by omega) ⟨i + 1,rfl,rfl,by omega,k6, ?_⟩
   simp only[Bool.or_eq_false_iff,Bool.and_eq_false_iff,Bool.not_eq_false',decide_eq_false_iff_not] at hb
   obtain⟨⟨hb1,hb2⟩,hb3⟩:=hb
   rw[hm,hb1,show decide (ks[i]=e.1)=false by simpa using hb2]
   rcases hb3 with hb3 | hb3
   ·rw[dif_neg hb3]; simp
   ·rw[hb3]; simp
 ·have he:i=ks.length:=by
   have:¬ i<ks.length:=of_decide_eq_false hge
   omega
  subst he
  rw[List.drop_length,gJ] at hm
  rw[nQ,hm,Bool.true_and] at hQ
  have op1:∀ n:Int,((e.2.1:Int) == n)=decide (e.2.1=n):=fun n=>by by_cases h:e.2.1=n <;> simp[h]
  rw[bB,av h3 rfl,cO,op1]
  refine andM (p:=decide (e.2.2.2.1≠[])) (fun _ k hk=>?_) ?_
  ·rw[bB,av h3 rfl,mU,show(e.2.2.2.1 != [])=decide (e.2.2.2.1≠[]) by by_cases h:e.2.2.2.1=[] <;> simp[h]]
   exact hk
  refine Pm (q:=decide (e.2.1=2)) (r:=decide (e.2.2.2.2=[])) (fun _ k hk=>?_) (fun _ _ k hk=>?_) (hQ M3 kk3)
  ·rw[bB,av h3 rfl,cO,op1]
   exact hk
  ·rw[bB,av h3 rfl,DR,show(e.2.2.2.2 == [])=decide (e.2.2.2.2=[]) by by_cases h:e.2.2.2.2=[] <;> simp[h]]
   exact hk
theorem NA {TE:Nat} {cg cl:au} (hg:zD cg) (hl:vS cl) : xL fun args M Q=>∃ a0,args=[a0]∧Aj TE cg cl a0 M Q:=by
 intro M0 e kv ks Q hs0 hQ
 refine⟨_,rfl, ?_⟩
 unfold Aj
 simp only[jd,gQ,fC,gp]
 rw[dL (Lr hs0) (by simp),bz]
 have k0:ag [] M0 (M0.push (.row (fA e kv) false TE 0)):=(ag.refl _ _).push _
 have h0:(M0.push (.row (fA e kv) false TE 0)).heap M0.next=some (.row (fA e kv) false TE 0):=RM.aT _
 have hlt:M0.next<(M0.push (.row (fA e kv) false TE 0)).next:=by simp[RM.push]
 have hs:=aL.keep hs0 k0 (by simp)
 generalize M0.push (.row (fA e kv) false TE 0)=M at *
 generalize M0.next=b at *
 have hs:Sl dP M kv ks:=hs
 rw[bB,zZ h0]
 refine hg fun M1 k1=>?_
 have h1:=k1.aR h0 hlt (by simp)
 have s1:Sl dP M1 kv ks:=aL.keep hs k1 (by simp)
 have op1:∀ n:Int,((e.2.1:Int) == n)=decide (e.2.1=n):=fun n=>by by_cases h:e.2.1=n <;> simp[h]
 have op2:∀ n:Int,((e.2.1:Int) != n)=decide (e.2.1≠n):=fun n=>by by_cases h:e.2.1=n <;> simp[h]
 rw[bK]
 refine Pm (q:=decide (e.2.1≠1)) (r:=decide (e.2.1≠2)) (fun _ k hk=>?_) (fun _ _ k hk=>?_) ?_
 ·rw[bB,av h1 rfl,jH,op2]; exact hk
 ·rw[bB,av h1 rfl,jH,op2]; exact hk
 refine yB (p:=decide (e.2.2.1.length<1)) (fun _ k hk=>?_) ?_
 ·rw[bB,av h1 rfl,jW,cK,show decide ((e.2.2.1.length:Int)<1)=decide (e.2.2.1.length<1) from decide_eq_decide.2 (by omega)]; exact hk
 refine yB (p:=decide (e.2.2.1.length > 64)) (fun _ k hk=>?_) ?_
 ·rw[bB,av h1 rfl,jW,ic,show decide ((e.2.2.1.length:Int) > 64)=decide (e.2.2.1.length > 64) by simp; omega]; exact hk
 refine yB (p:=decide (e.2.2.2.1.length > 64)) (fun _ k hk=>?_) ?_
 ·rw[bB,av h1 rfl,jW,ic,show decide ((e.2.2.2.1.length:Int) > 64)=decide (e.2.2.2.1.length > 64) by simp; omega]; exact hk
 refine yB (p:=decide (e.2.2.2.2.length > 512)) (fun _ k hk=>?_) ?_
 ·rw[bB,av h1 rfl,jW,ic,show decide ((e.2.2.2.2.length:Int) > 512)=decide (e.2.2.2.2.length > 512) by simp; omega]; exact hk
 refine yB (p:=decide (ks.length > 64)) (fun _ k hk=>?_) ?_
 ·rw[bB,av h1 rfl,aL.len s1,ic,show decide ((ks.length:Int) > 64)=decide (ks.length > 64) by simp; omega]; exact hk
 have kk1:=k0.trans k1
 refine aH (fun hc=>?_) (fun hc=>?_)
 ·have:dz e ks=false:=by
   simp only[Bool.or_eq_true,Bool.and_eq_true,Bool.not_eq_true',decide_eq_true_eq] at hc
   simp only[dz,names,AL]
   rcases hc with(((((hc | ⟨hc1,hc2⟩) | hc) | hc) | hc) | hc) | hc
   ·rw[hc]; rfl
   ·simp[hc1,hc2]
   ·rw[decide_eq_false (show ¬ (1≤e.2.2.1.length) by omega)]; simp
   ·rw[decide_eq_false (show ¬ (e.2.2.1.length≤64) by omega)]; simp
   ·rw[decide_eq_false (show ¬ (e.2.2.2.1.length≤64) by omega)]; simp
   ·rw[decide_eq_false (show ¬ (e.2.2.2.2.length≤512) by omega)]; simp
   ·rw[decide_eq_false (show ¬ (ks.length≤64) by omega)]; simp
  rw[this] at hQ
  exact hQ M1 kk1
 simp only[Bool.or_eq_false_iff,Bool.and_eq_false_iff,Bool.not_eq_false',decide_eq_false_iff_not,Decidable.not_not] at hc
 obtain⟨⟨⟨⟨⟨⟨hc1,hop⟩,hc2⟩,hc3⟩,hc4⟩,hc5⟩,hc6⟩:=hc
 have nQ:dz e ks=(gJ e.1 none ks && AL e):=by
  simp only[dz,names]
  rw[hc1,decide_eq_true (show(1≤e.2.2.1.length) by omega),decide_eq_true (show(e.2.2.1.length≤64) by omega),decide_eq_true (show(e.2.2.2.1.length≤64) by omega),decide_eq_true (show(e.2.2.2.2.length≤512) by omega),decide_eq_true (show(ks.length≤64) by omega)]
  simp
 rw[nQ] at hQ
 rw[bB,av h1 rfl,cO,op1]
 refine andM (p:=decide (e.2.2.2.1=[])) (fun _ k hk=>?_) ?_
 ·rw[bB,av h1 rfl,DR,show(e.2.2.2.1 == [])=decide (e.2.2.2.1=[]) by by_cases h:e.2.2.2.1=[] <;> simp[h]]
  exact hk
 refine Pm (q:=decide (e.2.1=2)) (r:=decide (e.2.2.2.2≠[])) (fun _ k hk=>?_) (fun _ _ k hk=>?_) ?_
 ·rw[bB,av h1 rfl,cO,op1]
  exact hk
 ·rw[bB,av h1 rfl,mU,show(e.2.2.2.2 != [])=decide (e.2.2.2.2≠[]) by by_cases h:e.2.2.2.2=[] <;> simp[h]]
  exact hk
 have aoI:((decide (e.2.1=1) && decide (e.2.2.2.1=[])) || (decide (e.2.1=2) && decide (e.2.2.2.2≠[])))=!AL e:=by
  unfold AL
  rcases hop with hop | hop
  ·simp[hop]
  ·simp[hop]
 rw[aoI]
 refine aH (fun hb=>?_) (fun hb=>?_)
 ·rw[show AL e=false by simpa using hb,Bool.and_false] at hQ
  exact hQ M1 kk1
 rw[show AL e=true by simpa using hb,Bool.and_true] at hQ
 refine aJ (fun m ys M3=>∃ i:Nat,m=ks.length - i∧ys=[N .i64 (i:Int)]∧i≤ks.length∧ag [] M1 M3∧gJ e.1 none ks=gJ e.1 (zR ks i) (ks.drop i)) _ ⟨0,rfl,rfl,Nat.zero_le _,ag.refl _ _,rfl⟩ ?_
 rintro next m ys M3 hnext ⟨i,rfl,rfl,hi,k3,hm⟩
 dsimp only[aa]
 have n1:=k1.next
 have h3:=k3.aR h1 (by omega) (by simp)
 have s3:Sl dP M3 kv ks:=aL.keep s1 k3 (by simp)
 rw[bB,av h3 rfl,aL.len s3,eO]
 refine aH (fun hlt2=>?_) (fun hge=>?_)
 ·have hlt2:i<ks.length:=of_decide_eq_true hlt2
  rw[EN hlt2] at hm
  rw[bB,av h3 rfl,rV s3 hlt2]
  refine hg fun M5 k5=>?_
  have h5:=k5.aR h3 (by have:=k3.next; omega) (by simp)
  have s5:Sl dP M5 kv ks:=aL.keep s3 k5 (by simp)
  have kk5:=k3.trans k5
  rw[bK]
  refine UX (P:=fun M'=>M'=M5) (p:=decide (ks[i]=e.1)) rfl (fun _ k hk=>?_) fun M' hM'=>?_
  ·rw[bB,av h5 rfl,rV s5 hlt2,bB,zZ h5,vY rfl rfl (Lc _ _),Bool.bne_false]
   exact hk M5 rfl
  subst hM'
  refine ady (P:=fun M6=>ag [] M1 M6) (q:=decide (i > 0)) (r:=!(if h:0<i then nR (ks[i - 1]'(by omega)) ks[i] else true)) kk5 (fun _ k hk=>?_) (fun _ hq k hk=>?_) fun M6 k6=>?_
  ·rw[show(0:Int)=((0:Nat) : Int) from rfl,wK]
   exact hk
  ·have hq:0<i:=of_decide_eq_true hq
   rw[bB,av h5 rfl,bL (by omega) (by omega),rV s5 (by omega),bB,av h5 rfl,rV s5 hlt2]
   refine hl fun M7 k7=>?_
   rw[bK,← dif_pos (c:=0<i) (t:=fun h=>nR (ks[i - 1]'(by omega)) ks[i]) (e:=fun _=>true) hq]
   exact hk M7 (kk5.trans k7)
  refine aH (fun hb=>?_) (fun hb=>?_)
  ·have:gJ e.1 none ks=false:=by
    rw[hm]
    simp only[Bool.or_eq_true,Bool.and_eq_true,Bool.not_eq_true',decide_eq_true_eq] at hb
    rcases hb with(hb | hb) | ⟨_,hb⟩
    ·rw[hb]; rfl
    ·rw[show decide (ks[i]=e.1)=true by simpa using hb]; simp
    ·rw[hb]; simp
   rw[this] at hQ
   exact hQ M6 (kk1.trans k6)
  ·rw[add1 (by omega)]
   refine hnext _ _ _ (by omega) ⟨i + 1,rfl,rfl,by omega,k6, ?_⟩
   simp only[Bool.or_eq_false_iff,Bool.and_eq_false_iff,Bool.not_eq_false',decide_eq_false_iff_not] at hb
   obtain⟨⟨hb1,hb2⟩,hb3⟩:=hb
   rw[hm,hb1,show decide (ks[i]=e.1)=false by simpa using hb2]
   rcases hb3 with hb3 | hb3
   ·rw[dif_neg hb3]; simp
   ·rw[hb3]; simp
 ·have he:i=ks.length:=by
   have:¬ i<ks.length:=of_decide_eq_false hge
   omega
  subst he
  rw[List.drop_length,gJ] at hm
  rw[hm] at hQ
  exact hQ M3 (kk1.trans k3)
def Ng (T:Nat) (c:au) : Prop:=∀ {M:RM} {v:AV} {xs:List aC} {Q:ai},Sl aA M v xs→xs.length≤1000000→(∀ v' M',Ow aA M' M.next T v' xs→ag [] M M'→Q v' M')→c [v] M Q
theorem UG {T:Nat} : Ng T fun args M Q=>∃ a0,args=[a0]∧wQ T a0 M Q:=by
 intro M v xs Q hs hl hQ
 refine⟨_,rfl, ?_⟩
 unfold wQ
 have h5:aL M 5 v (aA.row xs) xs.length:=hs
 exact OB (size:=5) (bytes:=64) h5 (Enc.rY _ _) (by decide) (by omega) (by omega) fun v' M' ho k=>hQ v' M' ho k
def MW (c:au) : Prop:=∀ {M:RM} {v:AV} {l:List aB} {d:aB} {Q:ai},Sl dP M v l→l.length≤1000000→(∀ (n:Int) M',(decide (n ≥ 0)=decide (d∈l))→ag [] M M'→Q (N .i64 n) M')→c [v,.agg (aP d)] M Q
theorem UI {T:Nat} : MW fun args M Q=>∃ a0 a1,args=[a0,a1]∧Ak T a0 a1 M Q:=by
 intro M0 v l d Q hs0 hl hQ
 refine⟨_,_,rfl, ?_⟩
 unfold Ak
 rw[dL rfl (by simp),bz]
 have k0:ag [] M0 (M0.push (.row (aP d) false T 0)):=(ag.refl _ _).push _
 have h0:(M0.push (.row (aP d) false T 0)).heap M0.next=some (.row (aP d) false T 0):=RM.aT _
 have hs:Sl dP (M0.push (.row (aP d) false T 0)) v l:=aL.keep hs0 k0 (by simp)
 generalize M0.push (.row (aP d) false T 0)=M at *
 generalize M0.next=b at *
 rw[aL.len hs]
 refine aJ (fun m ys M3=>∃ i:Nat,m=l.length - i∧ys=[N .i64 (i:Int)]∧i≤l.length∧M3=M∧(d∈l↔d∈l.drop i)) _ ⟨0,rfl,rfl,Nat.zero_le _,rfl,Iff.rfl⟩ ?_
 rintro next m ys M3 hnext ⟨i,rfl,rfl,hi,rfl,hm⟩
 dsimp only[aa]
 rw[eO]
 refine aH (fun hlt=>?_) (fun hge=>?_)
 ·have hlt:i<l.length:=of_decide_eq_true hlt
  rw[List.drop_eq_getElem_cons hlt,List.mem_cons] at hm
  rw[eX (n:=2) h0 rfl,rV hs hlt,vY rfl rfl (Lc _ _),Bool.bne_false]
  refine aH (fun he=>?_) (fun he=>?_)
  ·have he:d=l[i]:=of_decide_eq_true he
   refine hQ _ _ ?_ k0
   rw[decide_eq_true (show(i:Int) ≥ 0 by omega),decide_eq_true (hm.2 (.inl he))]
  ·have he:¬ d=l[i]:=of_decide_eq_false he
   rw[add1 (by omega)]
   exact hnext _ _ _ (by omega) ⟨i + 1,rfl,rfl,by omega,rfl,hm.trans ⟨fun h=>h.resolve_left he,.inr⟩⟩
 ·have he:i=l.length:=by
   have:¬ i<l.length:=of_decide_eq_false hge
   omega
  subst he
  rw[List.drop_length] at hm
  refine hQ _ _ ?_ k0
  rw[decide_eq_false (show ¬ (-1:Int) ≥ 0 by decide),decide_eq_false (fun h=>by simpa using hm.1 h)]
def Ci (c:au) : Prop:=∀ {M:RM} {v:AV} {l:List aB} {d:aB} {Q:ai},Sl dP M v l→l.length≤1000000→(∀ M',ag [] M M'→Q (Bo (decide (d∈l))) M')→c [v,.agg (aP d)] M Q
theorem MO {T:Nat} {ci:au} (hi:MW ci) : Ci fun args M Q=>∃ a0 a1,args=[a0,a1]∧uQ T ci a0 a1 M Q:=by
 intro M0 v l d Q hs0 hl hQ
 refine⟨_,_,rfl, ?_⟩
 unfold uQ
 rw[dL rfl (by simp),bz]
 have k0:ag [] M0 (M0.push (.row (aP d) false T 0)):=(ag.refl _ _).push _
 rw[eX (n:=2) (RM.aT _) rfl]
 refine hi (aL.keep hs0 k0 (by simp)) hl fun n M' hn k=>?_
 rw[ik,hn]
 exact hQ M' (k0.trans k)
def O6 (P:RM→Prop) (p:aC→Bool) (c:List AV→RM→ai→Prop) : Prop:=∀ {M:RM} {x:aC} {Q:ai},P M→(∀ M',ag [] M M'→Q (Bo (p x)) M')→c [.agg (aA.cells x)] M Q
theorem sW {M:RM} {v:AV} {xs:List aC} (h:Sl aA M v xs) {i:Nat} (hi:i<xs.length) {kd:IntKind} {K:AV→Prop} : (ax v (N kd (i:Int)) 5 fun p=>aF M p 5 K)=K (.agg (aA.cells xs[i])):=by
 obtain⟨b,o,_,_,hidx,hld⟩:=Sl.at (E:=aA) (i:=i) h 5 (i:Int) hi rfl rfl
 rw[hidx,fK,hld]
 simp
def Mv (P:RM→Prop) (p:aC→Bool) (fv:AV) (c:au) : Prop:=∀ {M:RM} {v:AV} {xs:List aC} {Q:ai},P M→(∀ M M',P M→ag [] M M'→P M')→Sl aA M v xs→xs.length≤1000000 →
 (xs.any p=false→∀ M',ag [] M M'→Q (N .i64 (-1)) M')→(∀ (i:Nat) (hi:i<xs.length),p xs[i]=true→(∀ x∈xs.take i,p x=false)→∀ M',ag [] M M'→Q (N .i64 (i:Int)) M')→c [v,fv] M Q
theorem Ue {P:RM→Prop} {p:aC→Bool} {fv:AV} {cv:FuncId→au} (hp:O6 P p (eG cv fv)) : Mv P p fv fun args M Q=>∃ a0 a1,args=[a0,a1]∧qd cv a0 a1 M Q:=by
 intro M v xs Q hP hPk hs hl h0 h1
 refine⟨_,_,rfl, ?_⟩
 unfold qd
 rw[aL.len hs]
 refine aJ (fun m ys M3=>∃ i:Nat,m=xs.length - i∧ys=[N .i64 (i:Int)]∧i≤xs.length∧ag [] M M3∧∀ x∈xs.take i,p x=false) _ ⟨0,rfl,rfl,Nat.zero_le _,ag.refl _ _,by simp⟩ ?_
 rintro next m ys M3 hnext ⟨i,rfl,rfl,hi,k3,hm⟩
 dsimp only[aa]
 rw[eO]
 refine aH (fun hlt=>?_) (fun hge=>?_)
 ·have hlt:i<xs.length:=of_decide_eq_true hlt
  rw[sW (aL.keep hs k3 (by simp)) hlt]
  refine hp (hPk _ _ hP k3) fun M4 k4=>?_
  refine aH (fun he=>h1 i hlt he hm M4 (k3.trans k4)) (fun he=>?_)
  rw[add1 (by omega)]
  refine hnext _ _ _ (by omega) ⟨i + 1,rfl,rfl,by omega,k3.trans k4,fun x hx=>?_⟩
  rw[List.take_succ_eq_append_getElem hlt,List.mem_append] at hx
  rcases hx with hx | hx
  ·exact hm x hx
  ·simp at hx; subst hx; exact he
 ·have he:i=xs.length:=by
   have:¬ i<xs.length:=of_decide_eq_false hge
   omega
  subst he
  rw[List.take_length] at hm
  exact h0 (by simpa using hm) M3 k3
theorem Ze {b o n k z:Nat} (h:k≤n) (h0:0<n) : bR z (.slc b o n (.op z)) none (some (N .i64 (k:Int))) none=some (.slc b o k (.op z)):=by
 simp only[bR,bnd]
 simp[h]
 omega
theorem SA (zs:List AV) : ∀ k,(bE zs k).length=k * zs.length
 | 0=>by simp[bE]
 | k + 1=>by rw[bE,List.length_append,SA zs k,Nat.succ_mul,Nat.add_comm]
theorem QQ {zs:List AV} (h:zs.all oneCell=true) : ∀ k,(bE zs k).all oneCell=true
 | 0=>by simp[bE]
 | k + 1=>by rw[bE,List.all_append,h,QQ h k]; rfl
def Jy (T:Nat) (P:RM→Prop) (p:aC→Bool) (fv:AV) (c:au) : Prop:=∀ {M:RM} {base:Nat} {v:AV} {xs:List aC} {Q:ai},P M→(∀ M M' ks,P M→ag ks M M'→(∀ d∈ks,d∈aD v)→P M')→Ow aA M base T v xs→xs.length≤60000 →
 (∀ v' M',Sl aA M' v' (xs.filter fun x=>!p x)→(∀ d∈aD v',d∈aD v)→ag (aD v) M M'→Q v' M')→c [v,fv] M Q
theorem Pw {T TE:Nat} {P:RM→Prop} {p:aC→Bool} {fv:AV} {cv:FuncId→au} {ci:au} (hi:Mv P p fv ci) (hp:O6 P p (eG cv fv)) : Jy T P p fv fun args M Q=>∃ a0 a1,args=[a0,a1]∧oC ci TE cv a0 a1 M Q:=by
 intro M base v xs Q hP hPk ho hl hQ
 refine⟨_,_,rfl, ?_⟩
 unfold oC
 simp only[bZ]
 have hs:Sl aA M v xs:=ho.kU
 refine hi hP (fun M M' h k=>hPk M M' [] h k (by simp)) hs (by omega) (fun hn M1 k1=>?_) (fun i hlt hpi hm M1 k1=>?_)
 ·rw[cO,show((-1:Int) == -1)=true from rfl,dH]
  have e:(xs.filter fun x=>!p x)=xs:=List.filter_eq_self.2 fun x hx=>by
   have:=List.any_eq_false.1 hn x hx
   simpa using this
  exact hQ v M1 (by rw[e]; exact aL.keep hs k1 (by simp)) (fun d hd=>hd) (k1.mono (by simp))
 rw[cO,show((i:Int) == -1)=false by rw[beq_eq_false_iff_ne]; omega,bG,add1 (by omega)]
 obtain⟨b,rfl,h1,h2,h3,h4⟩:=Own.yP ho (by omega)
 have hsz:xs.toArray.size=xs.length:=by simp
 have hat:At aA T b xs.toArray M:=⟨by rw[h3],h2⟩
 have hel:∀ j (h:j<xs.length),xs.toArray[j]! = xs[j]:=fun j h=>by rw[Nq (by simpa using h)]; simp
 have hpre0:xs.toArray.toList.take i=(xs.take (i + 1)).filter fun x=>!p x:=by
  rw[List.take_succ_eq_append_getElem hlt,List.filter_append,List.filter_eq_self.2 fun x hx=>by simpa using hm x hx]
  simp[hpi]
 refine aJ (fun m ys M3=>∃ (k j:Nat) (d:Array aC),m=xs.length - j∧ys=[N .i64 (k:Int),N .i64 (j:Int)]∧j≤xs.length∧k<j∧At aA T b d M3∧ag [b] M M3∧d.size=xs.length∧d.toList.take k=(xs.take j).filter (fun x=>!p x)∧∀ q (h:q<xs.length),j≤q→d[q]! = xs[q]) _
  ⟨i,i + 1,xs.toArray,rfl,rfl,by omega,by omega,hat.keep k1,k1.mono (by simp),hsz,hpre0,fun q h _=>hel q h⟩ ?_
 rintro next m ys M3 hnext ⟨k,j,d,rfl,rfl,hj,hkj,h3',k3,hds,hpre,hold⟩
 dsimp only[aa]
 have abr:∀ K:AV→Prop,bH (AV.slc b 0 xs.length (.op aA.size)) K=K (N .i64 (xs.length:Int)):=fun K=>by simp[jJ]
 rw[abr,eO]
 have e5:aA.size=5:=rfl
 rw[e5] at *
 refine aH (fun hlt2=>?_) (fun sQ=>?_)
 ·have hlt2:j<xs.length:=of_decide_eq_true hlt2
  refine bA (fun zs M'=>∃ (k' : Nat) (d' : Array aC),zs=[N .i64 (k' : Int)]∧k'<j + 1∧At aA T b d' M'∧ag [b] M M'∧d'.size=xs.length∧d'.toList.take k'=(xs.take (j + 1)).filter (fun x=>!p x)∧∀ q (h:q<xs.length),j + 1≤q→d'[q]! = xs[q]) ?_ ?_
  ·rintro zs M' ⟨k',d',rfl,c1,c2,c3,c4,c5,c6⟩
   dsimp only[aa]
   rw[add1 (by omega)]
   exact hnext _ _ _ (by omega) ⟨k',j + 1,d',rfl,rfl,by omega,c1,c2,c3,c4,c5,c6⟩
  intro J hJ
  rw[h3'.rd (z:=5) rfl hds.symm (by omega),hold j hlt2 (Nat.le_refl _),bz,fD (n:=5) (x:=.agg (aA.cells xs[j])) (l:=[(N .i64 0),(N .u64 0),(St []),(St []),(St [])]) (RM.aT _) rfl rfl rfl]
  have k4:ag [] M3 ((M3.push (.row [(N .i64 0),(N .u64 0),(St []),(St []),(St [])] false TE 0)).put M3.next (.row (AV.agg (aA.cells xs[j])).cells false TE 0)):=((ag.refl _ _).push _).new _ (Nat.le_refl _)
  have hk4:((M3.push (.row [(N .i64 0),(N .u64 0),(St []),(St []),(St [])] false TE 0)).put M3.next (.row (AV.agg (aA.cells xs[j])).cells false TE 0)).heap M3.next=some (.row (aA.cells xs[j]) false TE 0):=aU _
  have hn4:M3.next<((M3.push (.row [(N .i64 0),(N .u64 0),(St []),(St []),(St [])] false TE 0)).put M3.next (.row (AV.agg (aA.cells xs[j])).cells false TE 0)).next:=by simp[RM.push,RM.put]
  generalize (M3.push (.row [(N .i64 0),(N .u64 0),(St []),(St []),(St [])] false TE 0)).put M3.next (.row (AV.agg (aA.cells xs[j])).cells false TE 0)=M4 at *
  generalize M3.next=s at *
  rw[eX (n:=5) hk4 rfl]
  have kk4:ag [b] M M4:=k3.trans (k4.mono (cs:=[b]) (by simp))
  have hP4:P M4:=hPk M M4 [b] hP kk4 (by simp[aD])
  refine hp hP4 fun M5 k5=>?_
  have kk5:ag [b] M M5:=kk4.trans (k5.mono (cs:=[b]) (by simp))
  have aks:=h3'.keep (k4.trans k5)
  have aie:(xs.take (j + 1)).filter (fun x=>!p x)=if p xs[j] then(xs.take j).filter (fun x=>!p x) else(xs.take j).filter (fun x=>!p x)++[xs[j]]:=by
   rw[List.take_succ_eq_append_getElem hlt2,List.filter_append]
   by_cases hpj:p xs[j]=true <;> simp[hpj]
  rw[bK]
  refine aH (fun hn=>?_) (fun hn=>?_)
  ·have hpj:p xs[j]=false:=by simpa using hn
   rw[eX (n:=5) (k5.aR hk4 hn4 (by simp)) rfl,At.idx (by omega)]
   refine aks.st (z:=5) rfl (by omega) fun M6 h6 k6 _=>?_
   rw[add1 (by omega)]
   refine hJ _ _ ⟨k + 1,_,rfl,by omega,h6,kk5.trans k6,by simpa using hds, ?_,fun q h hq=>?_⟩
   ·have hkl:k<d.toList.length:=by rw[Array.length_toList]; omega
    rw[aie,hpj,← hpre,Array.toList_setIfInBounds,List.take_succ_eq_append_getElem (by rw[List.length_set]; exact hkl),List.getElem_set_self,List.take_set_of_le (Nat.le_refl _)]
    rfl
   ·rw[← hold q h (by omega),Nq (by rw[Array.size_setIfInBounds]; omega),Nq (by omega),Array.getElem_setIfInBounds_ne (by omega) (by omega)]
  ·have hpj:p xs[j]=true:=by simpa using hn
   exact hJ _ _ ⟨k,d,rfl,by omega,aks,kk5,hds,by rw[aie,hpj]; exact hpre,fun q h hq=>hold q h (by omega)⟩
 ·have hj2:j=xs.length:=by
   have:¬ j<xs.length:=of_decide_eq_false sQ
   omega
  subst hj2
  rw[List.take_length] at hpre
  have hrl:(aA.row d.toList).length=xs.length * 5:=by rw[Enc.dX,Array.length_toList,hds]; rfl
  have hst:M3.stores b (0 + k * 5) (bE [(N .i64 0),(N .u64 0),(St []),(St []),(St [])] (xs.length - k))=some (M3.put b (.row ((aA.row d.toList).take (0 + k * 5)++bE [(N .i64 0),(N .u64 0),(St []),(St []),(St [])] (xs.length - k)++(aA.row d.toList).drop (0 + k * 5 + (bE [(N .i64 0),(N .u64 0),(St []),(St []),(St [])] (xs.length - k)).length)) true T 0)):=by
   refine RM.xc h3'.heap ?_ (Nat.zero_le _) (QQ rfl _)
   rw[SA,hrl]
   show 0 + k * 5 + (xs.length - k) * 5≤xs.length * 5
   omega
  rw[oL (by omega),dF]
  refine .inl ⟨_,_,_,_,_,rfl,hst, ?_⟩
  dsimp only
  rw[Ze (by omega) (by omega),dF]
  have hlk:(xs.filter fun x=>!p x).length=k:=by rw[← hpre,List.length_take,Array.length_toList]; omega
  refine hQ _ _ ?_ (fun e he=>by simpa [aD] using he) ?_
  ·have hrow:((aA.row d.toList).take (0 + k * 5))=aA.row (xs.filter fun x=>!p x):=by
    rw[← hpre,show 0 + k * 5=k * aA.size by show 0 + k * 5=k * 5; omega,Enc.qX]
   show aL _ 5 (.slc b 0 k (.op 5)) (aA.row (xs.filter fun x=>!p x)) (xs.filter fun x=>!p x).length
   rw[hlk]
   refine .slc _ _ _ _ _ h3'.lt ?_
   have hl:(aA.row (xs.filter fun x=>!p x)).length=k * 5:=by rw[Enc.dX,hlk]; rfl
   rw[RM.bW (aU _) (by rw[hrow]; simp[hl]),List.drop_zero,hrow,List.append_assoc,List.take_left' hl]
  ·have:ag [b] M3 (M3.put b (.row ((aA.row d.toList).take (0 + k * 5)++bE [(N .i64 0),(N .u64 0),(St []),(St []),(St [])] (xs.length - k)++(aA.row d.toList).drop (0 + k * 5 + (bE [(N .i64 0),(N .u64 0),(St []),(St []),(St [])] (xs.length - k)).length)) true T 0)):=(ag.refl _ _).put _ (.inr (by simp))
   simpa [aD] using k3.trans this
def E5 (TE:Nat) (b:Nat) (e:mE) (kv:AV) (ks:List aB) (M:RM) : Prop:=b<M.next∧M.heap b=some (.row (fA e kv) false TE 0)∧Sl dP M kv ks
theorem E5.keep {TE b:Nat} {e:mE} {kv:AV} {ks:List aB} {M M' : RM} {bs:List Nat} (h:E5 TE b e kv ks M) (k:ag bs M M') (hb:b ∉ bs) (hk:∀ d∈aD kv,d ∉ bs) : E5 TE b e kv ks M':=by
 obtain⟨h1,h2,h3⟩:=h
 exact⟨Nat.lt_of_lt_of_le h1 k.next,k.aR h2 h1 hb,aL.keep h3 k hk⟩
theorem Uf {TE T b:Nat} {e:mE} {kv:AV} {ks:List aB} {cc:au} (hc:Ci cc) (hl:ks.length≤1000000) {M:RM} {x:aC} {Q:ai} (hP:E5 TE b e kv ks M) (hQ:∀ M',ag [] M M'→Q (Bo (decide (x.1∈ks))) M') :
  ∃ a0 a1,[AV.agg (aA.cells x),.ptr b 0]=[a0,a1]∧tJ T cc a0 a1 M Q:=by
 obtain⟨h1,h2,h3⟩:=hP
 refine⟨_,_,rfl, ?_⟩
 unfold tJ
 rw[dL rfl (by rw[aA.len]; decide),bz]
 have k0:ag [] M (M.push (.row (aA.cells x) false T 0)):=(ag.refl _ _).push _
 have hx:(M.push (.row (aA.cells x) false T 0)).heap M.next=some (.row (aA.cells x) false T 0):=RM.aT _
 have h2':=k0.aR h2 h1 (by simp)
 have h3' : Sl dP (M.push (.row (aA.cells x) false T 0)) kv ks:=aL.keep h3 k0 (by simp)
 generalize M.push (.row (aA.cells x) false T 0)=M1 at *
 generalize M.next=s at *
 have e2:((aA.cells x).drop 0).take 2=aP x.1:=rfl
 have ld:∀ K:AV→Prop,aF M1 (.ptr s 0) 2 K=K (.agg (aP x.1)):=fun K=>by
  rw[fK,RM.bW hx (by rw[aA.len]; decide),e2]
  simp
 rw[bB,av h2' rfl,bB,ld]
 exact hc h3' hl fun M' k=>hQ M' (k0.trans k)
theorem agq (a b:aC) : df [1,1,2,2,2] (aA.cells a) (aA.cells b)=some (decide (a=b)):=by
 obtain⟨⟨d,n⟩,x,y,z⟩:=a
 obtain⟨⟨d',n'⟩,x',y',z'⟩:=b
 show df [1,1,2,2,2] [N .i64 d,N .u64 (n:Int),St x,St y,St z] [N .i64 d',N .u64 (n' : Int),St x',St y',St z']=_
 simp only[LH,Lu,Dy]
 by_cases h1:d=d' <;> by_cases h2:n=n' <;> by_cases h3:x=x' <;> by_cases h4:y=y' <;> by_cases h5:z=z' <;> simp[h1,h2,h3,h4,h5]
 all_goals omega
def Nr (c:au) : Prop:=∀ {M:RM} {v w:AV} {xs ys:List aC} {Q:ai},Sl aA M v xs→Sl aA M w ys→xs.length≤1000000→Q (Bo (decide (xs=ys))) M→c [v,w] M Q
theorem Ug:Nr fun args M Q=>∃ a0 a1,args=[a0,a1]∧wD a0 a1 M Q:=by
 intro M v w xs ys Q h1 h2 hl hQ
 refine⟨_,_,rfl, ?_⟩
 unfold wD
 rw[aL.len h1,aL.len h2,jH,aL.len h1]
 refine aH (fun hn=>?_) (fun hn=>?_)
 ·have:¬ xs=ys:=fun e=>by subst e; simp at hn
  rw[decide_eq_false this] at hQ
  exact hQ
 have hn:xs.length=ys.length:=by
  simp only[bne_eq_false_iff_eq] at hn
  omega
 refine aJ (fun m zs M3=>∃ i:Nat,m=xs.length - i∧zs=[N .i64 (i:Int)]∧i≤xs.length∧M3=M∧(xs=ys↔xs.drop i=ys.drop i)) _ ⟨0,rfl,rfl,Nat.zero_le _,rfl,Iff.rfl⟩ ?_
 rintro next m zs M3 hnext ⟨i,rfl,rfl,hi,rfl,hm⟩
 dsimp only[aa]
 rw[eO]
 refine aH (fun hlt=>?_) (fun hge=>?_)
 ·have hlt:i<xs.length:=of_decide_eq_true hlt
  rw[List.drop_eq_getElem_cons hlt,List.drop_eq_getElem_cons (show i<ys.length by omega),List.cons.injEq] at hm
  rw[sW h1 hlt,sW h2 (by omega),vY rfl rfl (agq _ _)]
  refine aH (fun he=>?_) (fun he=>?_)
  ·have he:¬ xs[i]=ys[i]'(by omega):=by simpa using he
   rw[decide_eq_false (fun e=>he (hm.1 e).1)] at hQ
   exact hQ
  ·have he:xs[i]=ys[i]'(by omega):=by simpa using he
   rw[add1 (by omega)]
   exact hnext _ _ _ (by omega) ⟨i + 1,rfl,rfl,by omega,rfl,hm.trans ⟨fun h=>h.2,fun h=>⟨he,h⟩⟩⟩
 ·have he:i=xs.length:=by
   have:¬ i<xs.length:=of_decide_eq_false hge
   omega
  subst he
  rw[List.drop_length,hn,List.drop_length] at hm
  rw[decide_eq_true (hm.2 rfl)] at hQ
  exact hQ
end Go.Ab.Crw
namespace Go.Ab.aB
open Go Go.Ab
theorem SC:∀ (a b:Nat),bE [N .u64 0] (a + b)=bE [N .u64 0] a++bE [N .u64 0] b
 | 0,b=>by simp[bE]
 | a + 1,b=>by rw[show a + 1 + b=(a + b) + 1 by omega,bE,bE,SC a b]; simp
theorem Qv {M:RM} {b T k:Nat} {ps ys:List Nat} {u:AV} {zs:List AV} {K:ai} (hb:M.heap b=some (.row (aS.row ps++bE [N .u64 0] k) true T 0)) (hu:Sl aS M u ys) (hk:ys.length≤k) (hl:ys.length≤1000000)
  (hK:∀ M',M'.heap b=some (.row (aS.row (ps++ys)++bE [N .u64 0] (k - ys.length)) true T 0)→ag [b] M M'→M'.next=M.next→K (.slc b 0 (ps++ys).length (.op 1)) M') :
  appW T 1 8 zs false (.slc b 0 ps.length (.op 1)) u M K:=by
 have hn:=aL.mJ hu zs
 have hrl:(aS.row ys).length=ys.length:=by rw[Enc.dX]; simp[aS]
 have hpl:(aS.row ps).length=ps.length:=by rw[Enc.dX]; simp[aS]
 refine⟨ys.length,aS.row ys,hn,by omega,by omega, ?_⟩
 by_cases h0:ys.length=0
 ·have:ys=[]:=List.length_eq_zero_iff.1 h0
  subst this
  refine⟨.slc b 0 ps.length (.op 1),M,by simp[qZ], ?_⟩
  have:=hK M (by simpa using hb) (ag.refl _ _) rfl
  simpa using this
 ·have hfit:0 + (ps.length + ys.length) * 1≤(aS.row ps++bE [N .u64 0] k).length:=by
   rw[List.length_append,hpl,(oh k).1]; omega
  refine⟨.slc b 0 (ps.length + ys.length) (.op 1),M.put b (.row (aS.row (ps++ys)++bE [N .u64 0] (k - ys.length)) true T 0), ?_, ?_⟩
  ·simp only[qZ,if_neg h0,hb]
   rw[if_pos (by simp),if_pos hfit,RM.vW hb,oP (by rw[hrl,List.length_append,hpl,(oh k).1]; omega) (by omega) (aS.rY ys)]
   simp only[Option.map_some]
   congr 4
   rw[Enc.pU]
   have e1:(aS.row ps++bE [N .u64 0] k).take (0 + ps.length * 1)=aS.row ps:=by rw[List.take_left' (by omega)]
   have e2:(aS.row ps++bE [N .u64 0] k).drop (0 + ps.length * 1 + (aS.row ys).length)=bE [N .u64 0] (k - ys.length):=by
    have:k=ys.length + (k - ys.length):=by omega
    rw[show bE [N .u64 0] k=bE [N .u64 0] ys.length++bE [N .u64 0] (k - ys.length) by rw[← SC]; congr 1,← List.append_assoc,List.drop_left' (by rw[List.length_append,hpl,(oh _).1,hrl]; omega)]
   rw[e1,e2]
  ·have:=hK _ (aU _) ((ag.refl _ _).put _ (.inr (by simp))) rfl
   rw[List.length_append] at this
   exact this
def Mk (T:Nat) (c:au) : Prop:=∀ {M:RM} {bb TS:Nat} {v w:AV} {xs ys:List Nat} {Q:ai},M.heap bb=some (.row [v,w] false TS 0)→bb<M.next→Sl aS M v xs→Sl aS M w ys→xs.length≤1000000→ys.length≤1000000 →
 (∀ r M',Ow aS M' M.next T r (xs++ys)→ag [] M M'→Q r M')→c [.slc bb 0 2 (.ex 2)] M Q
theorem Um {TS T:Nat} {cg:au} (hg:XT T cg) : Mk T fun args M Q=>∃ a0,args=[a0]∧uo TS cg T a0 M Q:=by
 intro M bb TB v w xs ys Q hb hbl hv hw hx hy hQ
 refine⟨_,rfl, ?_⟩
 unfold uo
 simp only[uX]
 have at0:∀ K:AV→Prop,ax (.slc bb 0 2 (.ex 2)) (N .i64 ((0:Nat) : Int)) 1 K=K (.ptr bb 0):=fun K=>by
  rw[lS]; exact propext ⟨fun h=>h.2.2,fun h=>⟨by decide,by decide,h⟩⟩
 have Ef:∀ K:AV→Prop,ax (.slc bb 0 2 (.ex 2)) (N .i64 ((1:Nat) : Int)) 1 K=K (.ptr bb 1):=fun K=>by
  rw[lS]; exact propext ⟨fun h=>h.2.2,fun h=>⟨by decide,by decide,h⟩⟩
 rw[jJ]
 have len3:∀ (p0:Nat),p0=0∨p0=xs.length∨p0=xs.length + ys.length→True:=fun _ _=>trivial
 refine aJ (fun m zs M3=>∃ i:Nat,m=2 - i∧i≤2∧zs=[N .i64 ((if i=0 then 0 else if i=1 then xs.length else xs.length + ys.length:Nat) : Int),N .i64 (i:Int)]∧M3=M) _ ⟨0,rfl,by omega,rfl,rfl⟩ ?_
 rintro next m zs M3 hnext ⟨i,rfl,hi,rfl,rfl⟩
 dsimp only[aa]
 rw[cK]
 obtain rfl | rfl | rfl:i=0∨i=1∨i=2:=by omega
 ·rw[show decide (((0:Nat) : Int)<((2:Nat) : Int))=true from rfl,dH,at0,av hb rfl,aL.len hv]
  simp only[if_true]
  rw[bY,show((0:Nat) : Int) + (xs.length:Int)=(xs.length:Int) by omega,bi (by omega) (by omega),cK,show decide ((xs.length:Int)<0)=false by simp,bG,bY,gD (by omega)]
  exact hnext _ _ _ (by omega) ⟨1,rfl,by omega,rfl,rfl⟩
 ·rw[show decide (((1:Nat) : Int)<((2:Nat) : Int))=true from rfl,dH,Ef,av hb rfl,aL.len hw]
  simp only[if_true,show ¬ (1:Nat)=0 by omega,if_false]
  rw[bY,show(xs.length:Int) + (ys.length:Int)=((xs.length + ys.length:Nat) : Int) by omega,bi (by omega) (by omega),cK,show decide (((xs.length + ys.length:Nat) : Int)<0)=false by simp; omega,bG,bY,gD (by omega)]
  exact hnext _ _ _ (by omega) ⟨2,rfl,by omega,rfl,rfl⟩
 ·rw[show decide (((2:Nat) : Int)<((2:Nat) : Int))=false from rfl,bG]
  simp only[show ¬ (2:Nat)=0 by omega,show ¬ (2:Nat)=1 by omega,if_false]
  refine hg (by omega) (fun h0=>?_) (fun hpos b M4 hb0 hb1 hrow k4=>?_)
  ·
   have e1:xs=[]:=List.length_eq_zero_iff.1 (by omega)
   have e2:ys=[]:=List.length_eq_zero_iff.1 (by omega)
   subst e1 e2
   rw[jJ]
   refine aJ (fun m zs M5=>∃ i:Nat,m=2 - i∧i≤2∧zs=[bO,N .i64 (i:Int)]∧M5=M3) _ ⟨0,rfl,by omega,rfl,rfl⟩ ?_
   rintro kT m zs M5 eu ⟨i,rfl,hi,rfl,rfl⟩
   dsimp only[aa]
   rw[cK]
   have app:∀ (u:AV) (K:ai),Sl aS M5 u []→K bO M5→appW T 1 8 [N .u64 0] false bO u M5 K:=fun u K hu hK=>by
    refine⟨0,[], ?_,by omega,by omega,bO,M5,by simp[qZ],hK⟩
    exact aL.mJ hu _
   obtain rfl | rfl | rfl:i=0∨i=1∨i=2:=by omega
   ·rw[show decide (((0:Nat) : Int)<((2:Nat) : Int))=true from rfl,dH,at0,av hb rfl]
    refine app _ _ hv ?_
    rw[bY,gD (by omega)]
    exact eu _ _ _ (by omega) ⟨1,rfl,by omega,rfl,rfl⟩
   ·rw[show decide (((1:Nat) : Int)<((2:Nat) : Int))=true from rfl,dH,Ef,av hb rfl]
    refine app _ _ hw ?_
    rw[bY,gD (by omega)]
    exact eu _ _ _ (by omega) ⟨2,rfl,by omega,rfl,rfl⟩
   ·rw[show decide (((2:Nat) : Int)<((2:Nat) : Int))=false from rfl,bG]
    exact hQ bO M5 .nil (ag.refl _ _)
  ·rw[jJ]
   have hbb:bb≠b:=by omega
   refine aJ (fun m zs M5=>∃ i:Nat,m=2 - i∧i≤2∧zs=[.slc b 0 (if i=0 then([] : List Nat) else if i=1 then xs else xs++ys).length (.op 1),N .i64 (i:Int)]∧ag [b] M4 M5∧M5.next=M4.next ∧
     M5.heap b=some (.row (aS.row (if i=0 then[] else if i=1 then xs else xs++ys)++bE [N .u64 0] (xs.length + ys.length - (if i=0 then([] : List Nat) else if i=1 then xs else xs++ys).length)) true T 0)) _
    ⟨0,rfl,by omega,rfl,ag.refl _ _,rfl,by simpa [Enc.row] using hrow⟩ ?_
   rintro kT m zs M5 eu ⟨i,rfl,hi,rfl,k5,n5,Gs⟩
   dsimp only[aa]
   rw[cK]
   have hb4:=k4.aR hb hbl (by simp)
   have hb5:=k5.aR hb4 (by omega) (by simp; exact hbb)
   have hv5:Sl aS M5 v xs:=aL.keep (aL.keep hv k4 (by simp)) k5 (fun d hd hm=>by have:=aL.lt hv d hd; simp at hm; omega)
   have hw5:Sl aS M5 w ys:=aL.keep (aL.keep hw k4 (by simp)) k5 (fun d hd hm=>by have:=aL.lt hw d hd; simp at hm; omega)
   obtain rfl | rfl | rfl:i=0∨i=1∨i=2:=by omega
   ·rw[show decide (((0:Nat) : Int)<((2:Nat) : Int))=true from rfl,dH,at0,av hb5 rfl]
    simp only[if_true] at Gs ⊢
    refine Qv Gs hv5 (by simp) hx fun M6 Lg k6 n6=>?_
    rw[bY,gD (by omega)]
    refine eu _ _ _ (by omega) ⟨1,rfl,by omega,by simp,k5.trans k6,n6.trans n5, ?_⟩
    simp at Lg ⊢
    exact Lg
   ·rw[show decide (((1:Nat) : Int)<((2:Nat) : Int))=true from rfl,dH,Ef,av hb5 rfl]
    simp only[if_true,show ¬ (1:Nat)=0 by omega,if_false] at Gs ⊢
    refine Qv Gs hw5 (by omega) hy fun M6 Lg k6 n6=>?_
    rw[bY,gD (by omega)]
    refine eu _ _ _ (by omega) ⟨2,rfl,by omega,by simp,k5.trans k6,n6.trans n5, ?_⟩
    simp at Lg ⊢
    exact Lg
   ·rw[show decide (((2:Nat) : Int)<((2:Nat) : Int))=false from rfl,bG]
    simp only[show ¬ (2:Nat)=0 by omega,show ¬ (2:Nat)=1 by omega,if_false,List.length_append,Nat.sub_self,bE,List.append_nil] at Gs ⊢
    refine hQ _ M5 ?_ (k4.dU k5 (by simp; omega))
    rw[Ow,List.length_append]
    exact .op b _ _ (by omega) (by omega) Gs (by rw[Enc.dX,List.length_append])
theorem fV.put {T i u a:Nat} {S S' : Nat→Prop} {M M' : RM} {ps:List Pt} {l:List AV} {v' : AV} {xs:List Nat} {ks:List Nat} (h:fV T S M a ps) (hl:M.heap a=some (.row l false T 0)) (hi:i<16)
  (hb:M'.heap a=some (.row ((l.set (2 * i) (N .u64 (u:Int))).set (2 * i + 1) v') false T 0)) (hk:ag ks M M') (hks:∀ d∈ks,d=a∨¬ S d) (hs:Sl aS M' v' xs) (hc:kN v') (hv:∀ d∈aD v',S' d) (hS:∀ d,S d→S' d) (ha:¬ S' a) : fV T S' M' a (ps.set i (u,xs)):=by
 obtain⟨l0,h1,h2,h3⟩:=h.row
 rw[hl] at h1
 obtain rfl:l=l0:=by simpa using h1
 refine⟨Nat.lt_of_lt_of_le h.lt hk.next,by rw[List.length_set]; exact h.len,⟨_,hb,by simp[h2],fun j hj=>?_⟩,ha⟩
 have hj' : j<ps.length:=by rw[List.length_set] at hj; exact hj
 have aam:j<16:=by rw[← h.len]; exact hj'
 by_cases hji:j=i
 ·subst hji
  refine⟨v', ?_, ?_, ?_,hc,hv⟩
  ·rw[List.getElem?_set_ne (by omega),List.getElem?_set_self (by omega),List.getElem_set_self]
  ·rw[List.getElem?_set_self (by simp; omega)]
  ·rw[List.getElem_set_self]; exact hs
 ·obtain⟨w,b1,b2,b3,b4,b5⟩:=h3 j hj'
  refine⟨w, ?_, ?_, ?_,b4,fun d hd=>hS d (b5 d hd)⟩
  ·rw[List.getElem?_set_ne (by omega),List.getElem?_set_ne (by omega),List.getElem_set_ne (Ne.symm hji)]; exact b1
  ·rw[List.getElem?_set_ne (by omega),List.getElem?_set_ne (by omega)]; exact b2
  ·rw[List.getElem_set_ne (Ne.symm hji)]
   refine aL.keep b3 hk fun d hd hm=>?_
   rcases hks d hm with rfl | h'
   ·exact h.nb (b5 d hd)
   ·exact h' (b5 d hd)
def qC (f g:List Nat→List Nat) (p q:Pt) : Pt:=settle (max p.1 q.1) (g (f (p.2++q.2)))
def pg (f g:List Nat→List Nat) (ps qs:List Pt) : Nat→List Pt
 | 0=>ps
 | i + 1=>(pg f g ps qs i).set i (qC f g (ps.getD i (0,[])) (qs.getD i (0,[])))
theorem Ip {f g:List Nat→List Nat} {ps qs:List Pt} : ∀ {i j:Nat},i≤j→(pg f g ps qs i).getD j (0,[])=ps.getD j (0,[])
 | 0,j,_=>rfl
 | i + 1,j,h=>by rw[pg,getD_set_ne (by omega),Ip (by omega)]
def Vy (P:List Nat→Prop) (P2:List Nat→Prop) (f g:List Nat→List Nat) (T:Nat) (c:au) : Prop:=∀ {M:RM} {a b:Nat} {ps qs:List Pt} {S S' : Nat→Prop} {Q:ai},fV T S M a ps→fV T S' M b qs→(a=b→ps=qs)→¬ S' a →
 (∀ i,i<16→P ((ps.getD i (0,[])).2++(qs.getD i (0,[])).2)∧P2 (f ((ps.getD i (0,[])).2++(qs.getD i (0,[])).2)))→(∀ p∈ps,p.1≤4398046511104∧p.2.length≤100000)→(∀ p∈qs,p.1≤4398046511104∧p.2.length≤100000) →
 (∀ i,i<16→(g (f ((ps.getD i (0,[])).2++(qs.getD i (0,[])).2))).length≤1000000∧∀ x∈g (f ((ps.getD i (0,[])).2++(qs.getD i (0,[])).2)),x≤4398046511104) →
 (∀ M',fV T (fun e=>S e∨M.next≤e) M' a (pg f g ps qs 16)→ag [a] M M'→Q (.tup []) M')→c [.ptr a 0,.ptr b 0] M Q
theorem uK {ps:List Pt} {R:Pt→Prop} (h:∀ p∈ps,R p) (h0:R (0,[])) (i:Nat) : R (ps.getD i (0,[])):=by
 rw[List.getD_eq_getElem?_getD]
 by_cases hj:i<ps.length
 ·rw[List.getElem?_eq_getElem hj]; exact h _ (List.getElem_mem hj)
 ·rw[List.getElem?_eq_none (by omega)]; exact h0
theorem ZI {TS TP TL TU:Nat} {P P2:List Nat→Prop} {f g:List Nat→List Nat} {cc cs ck ct:au} (hc:Mk TU cc) (hs:VW P f TU cs) (hk:I7 P2 g TU ck) (ht:Da ct) :
  Vy P P2 f g TS fun args M Q=>∃ a0 a1,args=[a0,a1]∧CJ TP TL cc cs ck ct a0 a1 M Q:=by
 intro M a b ps qs S S' Q hA hB hab hSa hP hbp hbq hres hQ
 refine⟨_,_,rfl, ?_⟩
 unfold CJ
 have hal:=hA.lt
 have hbl:=hB.lt
 refine aJ (fun m ys M3=>∃ (i:Nat),m=16 - i∧ys=[N .i64 (i:Int)]∧i≤16∧ag [a] M M3∧fV TS (fun e=>S e∨M.next≤e) M3 a (pg f g ps qs i)) _
  ⟨0,rfl,rfl,Nat.zero_le _,ag.refl _ _,hA.mono (fun e h=>.inl h) (fun h=>by rcases h with h | h; exact hA.nb h; omega)⟩ ?_
 rintro next m ys M3 hnext ⟨i,rfl,rfl,hi,k3,hA3⟩
 dsimp only[aa]
 rw[cK]
 refine aH (fun hlt=>?_) (fun hge=>?_)
 ·have hlt:i<16:=by
   have:(i:Int)<16:=of_decide_eq_true hlt
   omega
  have n3:=k3.next
  -- the second set's part
  have hB3:∃ l w,M3.heap b=some (.row l false TS 0)∧l.length=32∧l[2 * i]?=some (N .u64 ((qs.getD i (0,[])).1:Int))∧l[2 * i + 1]?=some w∧Sl aS M3 w (qs.getD i (0,[])).2∧a ∉ aD w:=by
   by_cases e:a=b
   ·subst e
    have e2:=hab rfl
    obtain⟨l,h1,h2,h3⟩:=hA3.row
    have hil:i<(pg f g ps qs i).length:=by rw[hA3.len]; exact hlt
    obtain⟨w,b1,b2,b3,b4,b5⟩:=h3 i hil
    have hD:=Ip (f:=f) (g:=g) (ps:=ps) (qs:=qs) (Nat.le_refl i)
    rw[List.getD_eq_getElem?_getD,List.getElem?_eq_getElem hil,Option.getD_some] at hD
    rw[hD,e2] at b1
    rw[hD,e2] at b3
    exact⟨l,w,h1,h2,b1,b2,b3,fun hm=>hA3.nb (b5 a hm)⟩
   ·obtain⟨l,h1,h2,h3⟩:=hB.row
    have hil:i<qs.length:=by rw[hB.len]; exact hlt
    obtain⟨w,b1,b2,b3,b4,b5⟩:=h3 i hil
    have hD:qs.getD i (0,[])=qs[i]:=by rw[List.getD_eq_getElem?_getD,List.getElem?_eq_getElem hil]; rfl
    rw[hD]
    exact⟨l,w,k3.aR h1 hbl (by simp; exact fun h=>e h.symm),h2,b1,b2,aL.keep b3 k3 (fun d hd hm=>by simp at hm; subst hm; exact hSa (b5 d hd)),fun hm=>hSa (b5 a hm)⟩
  obtain⟨lb,qw,hb3,hlb32,q1,q2,q3,q4⟩:=hB3
  obtain⟨la,ha3,hla32,hrow⟩:=hA3.row
  have hil:i<(pg f g ps qs i).length:=by rw[hA3.len]; exact hlt
  obtain⟨pw,p1,p2,p3,p4,p5⟩:=hrow i hil
  have hD:=Ip (f:=f) (g:=g) (ps:=ps) (qs:=qs) (Nat.le_refl i)
  rw[List.getD_eq_getElem?_getD,List.getElem?_eq_getElem hil,Option.getD_some] at hD
  rw[hD] at p1 p3
  have bp:=uK hbp ⟨by decide,by decide⟩ i
  have bq:=uK hbq ⟨by decide,by decide⟩ i
  obtain⟨hPi,ao1⟩:=hP i hlt
  obtain⟨hr1,hr2⟩:=hres i hlt
  have ag7:∀ M',ag [a] M M'→fV TS (fun e=>S e∨M.next≤e) M' a ((pg f g ps qs i).set i (qC f g (ps.getD i (0,[])) (qs.getD i (0,[]))))→next [N .i64 ((i + 1:Nat) : Int)] M':=fun M' k h=>hnext _ _ _ (by omega) ⟨i + 1,rfl,rfl,by omega,k,h⟩
  generalize ps.getD i (0,[])=p at *
  generalize qs.getD i (0,[])=q at *
  obtain⟨pu,px⟩:=p
  obtain⟨qu,qx⟩:=q
  simp only[qC] at *
  rw[aM,bB,yI]
  refine⟨by omega,by omega, ?_⟩
  rw[aM,bB,yI]
  refine⟨by omega,by omega, ?_⟩
  rw[Int.toNat_natCast,Nat.zero_add,Nat.mul_comm i 2,fK]
  have hcut:M3.loads b (2 * i) 2=some [N .u64 (qu:Int),qw]:=by
   rw[RM.bW hb3 (by omega)]
   obtain⟨r1,r2⟩:=List.getElem?_eq_some_iff.1 q1
   obtain⟨r3,r4⟩:=List.getElem?_eq_some_iff.1 q2
   rw[List.drop_eq_getElem_cons r1,List.drop_eq_getElem_cons r3,r2,r4]; rfl
  refine⟨_,hcut, ?_⟩
  have hq1:=aL.one q3
  rw[rT,fD (n:=2) (x:=.agg [N .u64 (qu:Int),qw]) (l:=[N .u64 0,.sc (.slice none 0 0)]) (RM.aT _) rfl rfl (by simp[AV.cells,hq1]; rfl)]
  have k4:ag [] M3 ((M3.push (.row [N .u64 0,.sc (.slice none 0 0)] false TP 0)).put M3.next (.row (AV.agg [N .u64 (qu:Int),qw]).cells false TP 0)):=((ag.refl _ _).push _).new _ (Nat.le_refl _)
  have h4:((M3.push (.row [N .u64 0,.sc (.slice none 0 0)] false TP 0)).put M3.next (.row (AV.agg [N .u64 (qu:Int),qw]).cells false TP 0)).heap M3.next=some (.row [N .u64 (qu:Int),qw] false TP 0):=aU _
  have n4:((M3.push (.row [N .u64 0,.sc (.slice none 0 0)] false TP 0)).put M3.next (.row (AV.agg [N .u64 (qu:Int),qw]).cells false TP 0)).next=M3.next + 1:=rfl
  generalize (M3.push (.row [N .u64 0,.sc (.slice none 0 0)] false TP 0)).put M3.next (.row (AV.agg [N .u64 (qu:Int),qw]).cells false TP 0)=M4 at *
  have ao2:=hA3.lt
  have ha4:=k4.aR ha3 ao2 (by simp)
  rw[aM,aX,Nat.add_zero,av ha4 p1,bB,av h4 rfl,Zm,if_pos rfl,P6,aM,aX,Nat.add_zero,fT ha4 (by omega) rfl rfl]
  have k5:ag [a] M4 (M4.put a (.row (la.set (2 * i) (N .u64 ((max pu qu:Nat) : Int))) false TS 0)):=(ag.refl _ _).put _ (.inr (by simp))
  have ha5:(M4.put a (.row (la.set (2 * i) (N .u64 ((max pu qu:Nat) : Int))) false TS 0)).heap a=some (.row (la.set (2 * i) (N .u64 ((max pu qu:Nat) : Int))) false TS 0):=aU _
  have n5:(M4.put a (.row (la.set (2 * i) (N .u64 ((max pu qu:Nat) : Int))) false TS 0)).next=M4.next:=rfl
  generalize M4.put a (.row (la.set (2 * i) (N .u64 ((max pu qu:Nat) : Int))) false TS 0)=M5 at *
  have h5:=k5.aR h4 (by omega) (by simp; omega)
  have p2' : (la.set (2 * i) (N .u64 ((max pu qu:Nat) : Int)))[2 * i + 1]?=some pw:=by rw[List.getElem?_set_ne (by omega)]; exact p2
  rw[aM,aX,av ha5 p2',bB,av h5 rfl]
  have anY:a ∉ aD pw:=fun hm=>hA3.nb (p5 a hm)
  have k35:ag [a] M3 M5:=(k4.mono (by simp)).trans k5
  have sp5:Sl aS M5 pw px:=aL.keep p3 k35 (fun d hd hm=>by simp at hm; subst hm; exact anY hd)
  have sq5:Sl aS M5 qw qx:=aL.keep q3 k35 (fun d hd hm=>by simp at hm; subst hm; exact q4 hd)
  have hw1:=aL.one sp5
  have hwc:=aL.cells sp5
  have hqc:=aL.cells sq5
  refine⟨[pw,qw],by simp[zo,bE,hwc,hqc,hw1,hq1], ?_⟩
  dsimp only
  rw[rT]
  have k6:ag [] M5 (M5.push (.row [pw,qw] false TL 0)):=(ag.refl _ _).push _
  have h6:(M5.push (.row [pw,qw] false TL 0)).heap M5.next=some (.row [pw,qw] false TL 0):=RM.aT _
  have n6:(M5.push (.row [pw,qw] false TL 0)).next=M5.next + 1:=rfl
  generalize M5.push (.row [pw,qw] false TL 0)=M6 at *
  refine hc h6 (by omega) (aL.keep sp5 k6 (by simp)) (aL.keep sq5 k6 (by simp)) (by have:=bp.2; omega) (by have:=bq.2; omega) fun r M7 ho7 k7=>?_
  have n7:=k7.next
  have k57:=k6.trans k7
  have ha7:=k57.aR ha5 (by omega) (by simp)
  rw[aM,aX,fT ha7 (by simp; omega) ho7.cells ho7.one]
  have k8:ag [a] M7 (M7.put a (.row ((la.set (2 * i) (N .u64 ((max pu qu:Nat) : Int))).set (2 * i + 1) r) false TS 0)):=(ag.refl _ _).put _ (.inr (by simp))
  have ha8:(M7.put a (.row ((la.set (2 * i) (N .u64 ((max pu qu:Nat) : Int))).set (2 * i + 1) r) false TS 0)).heap a=some (.row ((la.set (2 * i) (N .u64 ((max pu qu:Nat) : Int))).set (2 * i + 1) r) false TS 0):=aU _
  have n8:(M7.put a (.row ((la.set (2 * i) (N .u64 ((max pu qu:Nat) : Int))).set (2 * i + 1) r) false TS 0)).next=M7.next:=rfl
  generalize M7.put a (.row ((la.set (2 * i) (N .u64 ((max pu qu:Nat) : Int))).set (2 * i + 1) r) false TS 0)=M8 at *
  have har:a ∉ aD r:=fun hm=>by have:=(ho7.blk a hm).1; omega
  have ho8:=ho7.keep k8 (fun d hd hm=>by simp at hm; subst hm; exact har hd)
  have g1:((la.set (2 * i) (N .u64 ((max pu qu:Nat) : Int))).set (2 * i + 1) r)[2 * i + 1]?=some r:=by rw[List.getElem?_set_self (by simp; omega)]
  have g0:((la.set (2 * i) (N .u64 ((max pu qu:Nat) : Int))).set (2 * i + 1) r)[2 * i]?=some (N .u64 ((max pu qu:Nat) : Int)):=by rw[List.getElem?_set_ne (by omega),List.getElem?_set_self (by omega)]
  rw[aM,aX,av ha8 g1]
  refine hs ho8 hPi fun M9 ho9 k9=>?_
  have ha9:=k9.aR ha8 (by omega) har
  have n9:=k9.next
  rw[aM,aX,av ha9 g1]
  refine hk ho9 ao1 fun r' M10 s10 c10 b10 k10=>?_
  have n10:=k10.next
  have anv:=k10.aR ha9 (by omega) har
  have har' : a ∉ aD r':=fun hm=>har (b10 a hm)
  rw[aM,aX,F6 ((la.set (2 * i) (N .u64 ((max pu qu:Nat) : Int))).set (2 * i + 1) r') anv (by simp; omega) (aL.cells s10) (aL.one s10) (by rw[List.set_set])]
  have k11:ag [a] M10 (M10.put a (.row ((la.set (2 * i) (N .u64 ((max pu qu:Nat) : Int))).set (2 * i + 1) r') false TS 0)):=(ag.refl _ _).put _ (.inr (by simp))
  have aou:(M10.put a (.row ((la.set (2 * i) (N .u64 ((max pu qu:Nat) : Int))).set (2 * i + 1) r') false TS 0)).heap a=some (.row ((la.set (2 * i) (N .u64 ((max pu qu:Nat) : Int))).set (2 * i + 1) r') false TS 0):=aU _
  have n11:(M10.put a (.row ((la.set (2 * i) (N .u64 ((max pu qu:Nat) : Int))).set (2 * i + 1) r') false TS 0)).next=M10.next:=rfl
  generalize M10.put a (.row ((la.set (2 * i) (N .u64 ((max pu qu:Nat) : Int))).set (2 * i + 1) r') false TS 0)=M11 at *
  have s11:Sl aS M11 r' (g (f (px++qx))):=aL.keep s10 k11 (fun d hd hm=>by simp at hm; subst hm; exact har' hd)
  have g0' : ((la.set (2 * i) (N .u64 ((max pu qu:Nat) : Int))).set (2 * i + 1) r')[2 * i]?=some (N .u64 ((max pu qu:Nat) : Int)):=by rw[List.getElem?_set_ne (by omega),List.getElem?_set_self (by omega)]
  have g1' : ((la.set (2 * i) (N .u64 ((max pu qu:Nat) : Int))).set (2 * i + 1) r')[2 * i + 1]?=some r':=by rw[List.getElem?_set_self (by simp; omega)]
  refine ht aou g0' g1' s11 har' c10 hr1 (by have:=bp.1; have:=bq.1; omega) hr2 fun v' M12 ao7 s12 c12 b12 k12 n12=>?_
  rw[bY,gD (by omega)]
  have kr:∀ d∈aD r,M.next≤d∧M3.next≤d:=fun d hd=>by have:=(ho7.blk d hd).1; omega
  -- all that was changed: the set's block,and new ones
  have agp:ag [a] M3 M12:=by
   have w7:ag [a] M3 M7:=k35.trans (k57.mono (by simp))
   have w8:=w7.trans k8
   have w9:=w8.dU k9 fun d hd=>.inl (kr d hd).2
   have w10:=w9.dU k10 fun d hd=>.inl (kr d hd).2
   exact(w10.trans k11).trans k12
  refine ag7 M12 (k3.trans agp) (hA3.put ha3 hlt ?_ agp (fun d hd=>.inl (by simpa using hd)) s12 c12 (fun d hd=>.inr (kr d (b10 d (b12 d hd))).1) (fun d h=>h) (fun h=>by rcases h with h | h; exact hA.nb h; omega))
  rw[ao7]
  rw[List.set_comm (i:=2 * i + 1) (j:=2 * i) _ _ (by omega),List.set_set,List.set_set]
  rfl
 ·have he:i=16:=by
   have:¬ (i:Int)<16:=of_decide_eq_false hge
   omega
  subst he
  exact hQ M3 hA3 k3
theorem EZ {f g:List Nat→List Nat} {ps qs:List Pt} : ∀ i,(pg f g ps qs i).length=ps.length
 | 0=>rfl
 | i + 1=>by rw[pg,List.length_set,EZ i]
theorem Qf {f g:List Nat→List Nat} {ps qs:List Pt} (hl:ps.length=16) : ∀ {i j:Nat},i≤16→j<i→(pg f g ps qs i).getD j (0,[])=qC f g (ps.getD j (0,[])) (qs.getD j (0,[]))
 | i + 1,j,hi,h=>by
   rw[pg]
   by_cases e:i=j
   ·subst e
    rw[El (by rw[EZ]; omega)]
   ·rw[getD_set_ne e,Qf hl (by omega) (by omega)]
theorem oO {p:Pt} {x:Nat} : ed p x=true↔(1≤x∧x≤p.1)∨x∈p.2:=by
 unfold ed
 simp only[Bool.or_eq_true,Bool.and_eq_true,decide_eq_true_eq]
theorem DC:∀ (xs:List Nat) (u x:Nat),(∀ y∈xs,1≤y)→(ed (settle u xs) x=true↔(1≤x∧x≤u)∨x∈xs)
 | [],u,x,_=>by rw[oO]; simp[settle,dE]
 | y :: xs,u,x,h=>by
   by_cases hy:y≤u + 1
   ·have e:settle u (y :: xs)=settle (max u y) xs:=by
     unfold settle
     rw[dE,if_pos hy]; rfl
    have h1:=h y (by simp)
    rw[e,DC xs (max u y) x (fun z hz=>h z (by simp[hz])),List.mem_cons]
    constructor
    ·rintro(⟨a,b⟩ | c)
     ·by_cases hx:x≤u
      ·exact .inl ⟨a,hx⟩
      ·exact .inr (.inl (by omega))
     ·exact .inr (.inr c)
    ·rintro(⟨a,b⟩ | c | c)
     ·exact .inl ⟨a,by omega⟩
     ·exact .inl ⟨by omega,by omega⟩
     ·exact .inr c
   ·have e:settle u (y :: xs)=(u,y :: xs):=by
     unfold settle
     rw[dE,if_neg hy]; rfl
    rw[e,oO]
theorem SX {k n:Nat} {xs:List Nat} {x:Nat} : x∈fH k n xs↔x=n∨x∈xs:=by
 refine⟨Dm,fun h=>?_⟩
 unfold fH
 rcases h with h | h
 ·simp[h]
 ·rw[← List.take_append_drop k xs,List.mem_append] at h
  rw[List.mem_append,List.mem_cons]
  rcases h with h | h
  ·exact .inl h
  ·exact .inr (.inr h)
theorem abK {p:Pt} {n x:Nat} (hp:l9 p) (hn:1≤n) (hok:(fF p n).1=true) : ed (fF p n).2 x=true↔ed p x=true∨x=n:=by
 unfold fF at hok ⊢
 by_cases h:n∈p.2∨n≤p.1
 ·rw[if_pos h]
  constructor
  ·exact .inl
  ·rintro(h1 | rfl)
   ·exact h1
   ·rw[oO]
    rcases h with h | h
    ·exact .inr h
    ·exact .inl ⟨hn,h⟩
 ·rw[if_neg h] at hok ⊢
  by_cases h2:(settle p.1 (fH (below n p.2) n p.2)).2.length≤4096
  ·rw[if_pos h2]
   simp only
   rw[DC _ _ _ (fun y hy=>by rcases SX.1 hy with rfl | hy; exact hn; have:=hp.2.1 y hy; omega),SX,oO]
   constructor
   ·rintro(a | b | c)
    ·exact .inl (.inl a)
    ·exact .inr b
    ·exact .inl (.inr c)
   ·rintro((a | b) | c)
    ·exact .inl a
    ·exact .inr (.inr b)
    ·exact .inr (.inl c)
  ·rw[if_neg h2] at hok; cases hok
theorem Z8 {p:Pt} {n:Nat} : (fF p n).2.2.length≤p.2.length + 1:=by
 unfold fF
 split
 ·exact Nat.le_succ _
 ·split
  ·have h1:=Ck p.1 (fH (below n p.2) n p.2)
   have h2:=CU (x:=n) (below_le n p.2)
   simp only; omega
  ·exact Nat.le_succ _
theorem Vk {p:Pt} {n:Nat} (h:p.2.length<4096) : (fF p n).1=true:=by
 unfold fF
 split
 ·rfl
 ·have h1:=Ck p.1 (fH (below n p.2) n p.2)
  have h2:=CU (x:=n) (below_le n p.2)
  rw[if_pos (by omega)]
theorem OA {ps:List Pt} {d:aB} (hl:∀ p∈ps,p.2.length<4096) (hg:good d=true) : jG ps d=(0,ps.set d.1.toNat (fF (ps.getD d.1.toNat (0,[])) d.2).2):=by
 unfold jG
 rw[if_pos hg,Vk (uK (R:=fun p=>p.2.length<4096) hl (by decide) _),if_pos rfl]
theorem ZC {ps:List Pt} {d:aB} {k:Nat} (hl:∀ p∈ps,p.2.length≤k) : ∀ p∈(jG ps d).2,p.2.length≤k + 1:=by
 unfold jG
 split
 ·split
  ·intro p hp
   rcases List.mem_or_eq_of_mem_set hp with hp | rfl
   ·have:=hl p hp; omega
   ·have h1:=Z8 (p:=ps.getD d.1.toNat (0,[])) (n:=d.2)
    have h2:=uK (R:=fun p=>p.2.length≤k) hl (Nat.zero_le _) d.1.toNat
    omega
  ·intro p hp; have:=hl p hp; omega
 ·intro p hp; have:=hl p hp; omega
section
variable {ps:List Pt} {d:aB}
theorem aaF (hg:good d=true) : 1≤d.2∧d.2≤1099511627776∧d.1.toNat<16:=by
 simp only[good,Bool.and_eq_true,decide_eq_true_eq] at hg
 omega
theorem ZX (h16:ps.length=16) (hw:∀ p∈ps,l9 p) (hl:∀ p∈ps,p.2.length<4096) (hg:good d=true) (j x:Nat) :
  ed ((jG ps d).2.getD j (0,[])) x=true↔ed (ps.getD j (0,[])) x=true∨(j=d.1.toNat∧x=d.2):=by
 obtain⟨h1,h2,h3⟩:=aaF hg
 rw[OA hl hg]
 simp only
 by_cases e:d.1.toNat=j
 ·subst e
  rw[El (by omega),abK (xN hw _) h1 (Vk (uK (R:=fun p=>p.2.length<4096) hl (by decide) _))]
  simp
 ·rw[getD_set_ne e]
  simp[Ne.symm e]
end
def OwX (T:Nat) (M:RM) (base:Nat) (v:AV) (L:List UInt8) : Prop :=
 Own M base T 1 v (Sb L) L.length∨∃ b,v=.slc b 0 L.length (.ex L.length)∧base≤b∧b<M.next∧M.heap b=some (.row (Sb L) false T 0)
theorem OwX.keep {T base:Nat} {M M' : RM} {v:AV} {L:List UInt8} (h:OwX T M base v L) (hk:ag [] M M') : OwX T M' base v L:=by
 rcases h with h | ⟨b,rfl,h1,h2,h3⟩
 ·exact .inl (h.keep hk (by simp))
 ·exact .inr ⟨b,rfl,h1,Nat.lt_of_lt_of_le h2 hk.next,hk.aR h3 h2 (by simp)⟩
structure PO (TP TU base:Nat) (M:RM) (v:AV) (out:List jT) (cs:List AV) (ws:Nat→AV) : Prop where
 own:Own M base TP 3 v cs out.length
 row:∀ (k:Nat) (hk:k<out.length),cs[3 * k]?=some (N .i64 (out[k].1.1:Int))∧cs[3 * k + 1]?=some (N .u64 (out[k].1.2:Int))∧cs[3 * k + 2]?=some (ws k)∧Ow aS M base TU (ws k) out[k].2
 apart:∀ i j,i<out.length→j<out.length→i≠j→∀ d∈aD (ws i),d ∉ aD (ws j)
 off:∀ i,i<out.length→∀ d∈aD (ws i),d ∉ aD v
section
variable {TP TU base:Nat} {M M' : RM} {v:AV} {out:List jT} {cs:List AV} {ws:Nat→AV}
theorem PO.empty (h:Own M base TP 3 v [] 0) : PO TP TU base M v [] [] (fun _=>bO) :=
 ⟨h,fun k hk=>absurd hk (Nat.not_lt_zero _),fun i j hi=>absurd hi (Nat.not_lt_zero _),fun i hi=>absurd hi (Nat.not_lt_zero _)⟩
theorem PO.keep {ks:List Nat} (h:PO TP TU base M v out cs ws) (hk:ag ks M M') (hs:∀ d∈ks,d<base∨M.next≤d) : PO TP TU base M' v out cs ws:=by
 refine⟨h.own.keep hk (fun d hd hm=>by have:=h.own.blk d hd; have:=hs d hm; omega),fun k hk'=>?_,h.apart,h.off⟩
 obtain⟨a1,a2,a3,a4⟩:=h.row k hk'
 exact⟨a1,a2,a3,a4.keep hk fun d hd hm=>by have:=a4.blk d hd; have:=hs d hm; omega⟩
theorem PO.at (h:PO TP TU base M v out cs ws) {i:Nat} (hi:i<out.length) :
  ∃ b,v=.slc b 0 out.length (.op 3)∧base≤b∧b<M.next∧M.heap b=some (.row cs true TP 0)∧cs.length=out.length * 3∧∀ (kd:IntKind) (K:AV→Prop),ax v (N kd (i:Int)) 3 K=K (.ptr b (3 * i)):=by
 obtain⟨b,h1,h2,h3,h4,h5⟩:=Own.yP h.own (by omega)
 refine⟨b,h1,h2,h3,h4,h5,fun kd K=>?_⟩
 rw[h1,lS]
 simp only[Int.toNat_natCast]
 rw[show 0 + i * 3=3 * i by omega]
 exact propext ⟨fun h=>h.2.2,fun h=>⟨by omega,by omega,h⟩⟩
theorem PO.set (h:PO TP TU base M v out cs ws) {i b u:Nat} {w:AV} {xs:List Nat} {M1 M2:RM} {ks:List Nat} (hi:i<out.length) (hv:v=.slc b 0 out.length (.op 3)) (k1:ag ks M M1) (hks:∀ d∈ks,d∈aD (ws i))
  (hw:Ow aS M1 base TU w xs) (hw2:w=ws i∨∀ d∈aD w,M.next≤d) (hb:M2=M1.put b (.row ((cs.set (3 * i + 1) (N .u64 (u:Int))).set (3 * i + 2) w) true TP 0)) :
  PO TP TU base M2 v (out.set i ((out[i].1.1,u),xs)) ((cs.set (3 * i + 1) (N .u64 (u:Int))).set (3 * i + 2) w) (fun j=>if j=i then w else ws j)∧ag (b :: ks) M M2:=by
 obtain⟨b',e,hb1,hb2,hb3,hb4,_⟩:=h.at hi
 obtain rfl:b=b':=by rw[hv] at e; injection e
 have n1:=k1.next
 have kk:ag [b] M1 M2:=by subst hb; exact(ag.refl _ _).put _ (.inr (by simp))
 have hh:M2.heap b=some (.row ((cs.set (3 * i + 1) (N .u64 (u:Int))).set (3 * i + 2) w) true TP 0):=by subst hb; exact aU _
 have hbv:∀ j,j<out.length→b ∉ aD (ws j):=fun j hj hm=>h.off j hj b hm (by rw[hv]; simp[aD])
 have hbw:b ∉ aD w:=by
  rcases hw2 with rfl | hw2
  ·exact hbv i hi
  ·exact fun hm=>by have:=hw2 b hm; omega
 refine⟨⟨?_,fun j hj=>?_,fun j1 j2 q1 q2 hne d (hd:d∈aD (if j1=i then w else ws j1))=>show d ∉ aD (if j2=i then w else ws j2) from ?_,fun j hj d hd=>?_⟩,(k1.mono (fun d hd=>List.mem_cons_of_mem _ hd)).trans (kk.mono (by simp))⟩
 ·rw[List.length_set,hv]
  exact .op _ _ _ hb1 (Nat.lt_of_lt_of_le hb2 (Nat.le_trans n1 kk.next)) hh (by simp; omega)
 ·have hj' : j<out.length:=by rw[List.length_set] at hj; exact hj
  obtain⟨a1,a2,a3,a4⟩:=h.row j hj'
  by_cases hji:j=i
  ·subst hji
   rw[List.getElem_set_self]
   simp only[if_true]
   refine⟨?_, ?_, ?_,hw.keep kk fun d hd hm=>?_⟩
   ·rw[List.getElem?_set_ne (by omega),List.getElem?_set_ne (by omega)]; exact a1
   ·rw[List.getElem?_set_ne (by omega),List.getElem?_set_self (by omega)]
   ·rw[List.getElem?_set_self (by rw[List.length_set]; omega)]
   ·simp at hm; subst hm; exact hbw hd
  ·rw[List.getElem_set_ne (Ne.symm hji)]
   simp only[if_neg hji]
   refine⟨?_, ?_, ?_,(a4.keep k1 fun d hd hm=>?_).keep kk fun d hd hm=>?_⟩
   ·rw[List.getElem?_set_ne (by omega),List.getElem?_set_ne (by omega)]; exact a1
   ·rw[List.getElem?_set_ne (by omega),List.getElem?_set_ne (by omega)]; exact a2
   ·rw[List.getElem?_set_ne (by omega),List.getElem?_set_ne (by omega)]; exact a3
   ·exact h.apart j i hj' hi hji d hd (hks d hm)
   ·simp at hm; subst hm; exact hbv j hj' hd
 ·rw[List.length_set] at q1 q2
  by_cases e1:j1=i
  ·rw[if_pos e1] at hd
   rw[if_neg (fun e=>hne (e1.trans e.symm))]
   rcases hw2 with rfl | hw2
   ·exact h.apart i j2 hi q2 (fun e=>hne (e1.trans e)) d hd
   ·intro hm
    have:=hw2 d hd
    have:=((h.row j2 q2).2.2.2.blk d hm).2
    omega
  ·rw[if_neg e1] at hd
   by_cases e2:j2=i
   ·rw[if_pos e2]
    rcases hw2 with rfl | hw2
    ·exact h.apart j1 i q1 hi e1 d hd
    ·intro hm
     have:=hw2 d hm
     have:=((h.row j1 q1).2.2.2.blk d hd).2
     omega
   ·rw[if_neg e2]
    exact h.apart j1 j2 q1 q2 hne d hd
 ·rw[List.length_set] at hj
  have hd:d∈aD (if j=i then w else ws j):=hd
  by_cases e1:j=i
  ·rw[if_pos e1] at hd
   intro hm
   rw[hv] at hm
   simp[aD] at hm
   subst hm; exact hbw hd
  ·rw[if_neg e1] at hd
   exact h.off j hj d hd
theorem PO.more (h:PO TP TU base M v out cs ws) {i b x:Nat} (hi:i<out.length) (hv:v=.slc b 0 out.length (.op 3)) (hlen:out[i].2.length≤1000000) (hbase:base≤M.next) {K:RM→Prop}
  (hK:∀ M' ks cs' ws',PO TP TU base M' v (out.set i (out[i].1,out[i].2++[x])) cs' ws'→ag ks M M'→(∀ d∈ks,base≤d)→K M') :
  appW TU 1 8 [(N .u64 0)] false (ws i) (.slc M.next 0 1 (.ex 1)) (M.push (.row [N .u64 (x:Int)] false TU 0)) fun t80 A9=>aG A9 (.ptr b (3 * i + 2)) t80 1 K:=by
 obtain⟨b',e,hb1,hb2,hb3,hb4,_⟩:=h.at hi
 obtain rfl:b=b':=by rw[hv] at e; injection e
 obtain⟨a1,a2,a3,a4⟩:=h.row i hi
 refine uP (E:=aS) (a:=x) a4 hbase (Nat.le_refl _) (by omega) (by omega) ?_
 intro v' M' o1 k1 n1 hv'
 have hh:M'.heap b=some (.row cs true TP 0):=k1.aR hb3 hb2 (fun hm=>h.off i hi b hm (by rw[hv]; simp[aD]))
 rw[fT hh (by omega) o1.cells o1.one]
 have e2:cs.set (3 * i + 1) (N .u64 (out[i].1.2:Int))=cs:=QD a2
 obtain⟨h1,h2⟩:=h.set (u:=out[i].1.2) (w:=v') (xs:=out[i].2++[x]) (M1:=M') hi hv k1 (fun d hd=>hd) o1 hv' rfl
 rw[e2] at h1 h2
 refine hK _ _ _ _ h1 h2 fun d hd=>?_
 rcases List.mem_cons.1 hd with rfl | hd
 ·exact hb1
 ·exact(a4.blk d hd).1
end
def aiY (l:List aB) (i:Nat) (o:List jT) : List jT:=if i=0∨(l.getD i (0,0)).1≠(l.getD (i - 1) (0,0)).1 then o++[(((l.getD i (0,0)).1.toNat,0),[])] else o
def bump (p:jT) (n:Nat) : jT:=if p.2=[]∧n=p.1.2 + 1 then((p.1.1,n),[]) else(p.1,p.2++[n])
def Ph (o:List jT) (n:Nat) : List jT:=o.set (o.length - 1) (bump (o.getD (o.length - 1) ((0,0),[])) n)
def Bz (l:List aB) : Nat→List jT
 | 0=>[]
 | i + 1=>Ph (aiY l i (Bz l i)) (l.getD i (0,0)).2
def KL (l:List aB) : List jT:=Bz l l.length
theorem BM {α:Type} {l:List α} {i:Nat} {d:α} (h:i<l.length) : l.getD i d=l[i]:=by
 rw[List.getD_eq_getElem?_getD,List.getElem?_eq_getElem h]; rfl
theorem IK {d:aB} (h:good d=true) : 0≤d.1∧d.1<16∧d.2≤1099511627776∧1≤d.2:=by
 simp only[good,Bool.and_eq_true,decide_eq_true_eq] at h
 omega
section
variable {TP TU base:Nat} {M:RM} {v:AV} {out:List jT} {cs:List AV} {ws:Nat→AV}
end
theorem aaY {ps:List Pt} {d:aB} : (jG ps d).2.length=ps.length:=by
 unfold jG
 split
 ·split
  ·simp only; rw[List.length_set]
  ·rfl
 ·rfl
structure apy (l:List aB) (i:Nat) (ps:List Pt) : Prop where
 len:ps.length=16
 wf:∀ p∈ps,l9 p
 few:∀ p∈ps,p.2.length≤i
 has:∀ k (hk:k<l.length),k<i→good l[k]=true→gF ps l[k]=true
theorem zB {a b:aB} : yY a b=true↔a.1<b.1∨(a.1=b.1∧a.2<b.2):=by
 simp[yY]
theorem NS {a:aB} : ¬ yY a a=true:=by rw[zB]; omega
theorem VA {a b:aB} (h:yY a b=true) : ¬ yY b a=true:=by rw[zB] at *; omega
def UR (l:List aB) : Prop:=l.Pairwise fun a b=>yY a b=true
theorem Vg:∀ {xs ys:List aB},UR xs→UR ys→(∀ x,x∈xs↔x∈ys)→xs=ys
 | [],[],_,_,_=>rfl
 | [],y :: ys,_,_,h=>by have:=(h y).2 (by simp); simp at this
 | x :: xs,[],_,_,h=>by have:=(h x).1 (by simp); simp at this
 | x :: xs,y :: ys,h1,h2,h=>by
   have a1:=List.pairwise_cons.1 h1
   have a2:=List.pairwise_cons.1 h2
   have hxy:x=y:=by
    rcases List.mem_cons.1 ((h x).1 (by simp)) with e | e
    ·exact e
    ·rcases List.mem_cons.1 ((h y).2 (by simp)) with e' | e'
     ·exact e'.symm
     ·exact absurd (a1.1 y e') (VA (a2.1 x e))
   subst hxy
   rw[Vg a1.2 a2.2 fun z=>⟨fun hz=>?_,fun hz=>?_⟩]
   ·rcases List.mem_cons.1 ((h z).1 (by simp[hz])) with rfl | e
    ·exact absurd (a1.1 z hz) NS
    ·exact e
   ·rcases List.mem_cons.1 ((h z).2 (by simp[hz])) with rfl | e
    ·exact absurd (a2.1 z hz) NS
    ·exact e
def nums (p:Pt) : List Nat:=List.range' 1 p.1++p.2
def Ri (i:Nat) (p:Pt) : List aB:=(nums p).map fun n=>((i:Int),n)
def lq (ps:List Pt) : Nat→List aB
 | 0=>[]
 | i + 1=>lq ps i++Ri i (ps.getD i (0,[]))
theorem Qd {p:Pt} {n:Nat} : n∈nums p↔ed p n=true:=by
 rw[oO,nums,List.mem_append,List.mem_range'_1]
 constructor
 ·rintro(h | h)
  ·exact .inl (by omega)
  ·exact .inr h
 ·rintro(h | h)
  ·exact .inl (by omega)
  ·exact .inr h
theorem Dk {ps:List Pt} {d:aB} : ∀ {i:Nat},d∈lq ps i↔0≤d.1∧d.1<i∧ed (ps.getD d.1.toNat (0,[])) d.2=true
 | 0=>by simp[lq]; omega
 | i + 1=>by
   rw[lq,List.mem_append,Dk,Ri,List.mem_map]
   constructor
   ·rintro(⟨h1,h2,h3⟩ | ⟨n,h,rfl⟩)
    ·exact⟨h1,by omega,h3⟩
    ·exact⟨by simp,by simp; omega,by simpa using Qd.1 h⟩
   ·rintro⟨h1,h2,h3⟩
    by_cases h:d.1<i
    ·exact .inl ⟨h1,h,h3⟩
    ·have e:d.1.toNat=i:=by omega
     rw[e] at h3
     exact .inr ⟨d.2,Qd.2 h3,Prod.ext (by simp; omega) rfl⟩
theorem aal {p:Pt} (h:l9 p) : Asc (nums p):=by
 unfold nums Asc
 rw[List.pairwise_append]
 refine⟨List.pairwise_lt_range',h.1,fun a ha b hb=>?_⟩
 have:=List.mem_range'_1.1 ha
 have:=h.2.1 b hb
 omega
theorem Kr {ps:List Pt} (h:∀ p∈ps,l9 p) : ∀ i,UR (lq ps i)
 | 0=>.nil
 | i + 1=>by
   unfold UR
   rw[lq,List.pairwise_append]
   refine⟨Kr h i, ?_,fun a ha b hb=>?_⟩
   ·rw[Ri,List.pairwise_map]
    exact List.Pairwise.imp (fun {a b} (hab:a<b)=>by rw[zB]; exact .inr ⟨rfl,hab⟩) (aal (xN h i))
   ·have h1:=(Dk.1 ha).2.1
    rw[Ri,List.mem_map] at hb
    obtain⟨n,_,rfl⟩:=hb
    exact zB.2 (.inl h1)
theorem Zt {ps:List Pt} (h:∀ p∈ps,l9 p) (d:aB) : d∈lq ps 16↔gF ps d=true:=by
 rw[Dk,gF,Bool.and_eq_true]
 constructor
 ·rintro⟨h1,h2,h3⟩
  refine⟨?_,h3⟩
  have hw:=xN h d.1.toNat
  have:1≤d.2∧d.2≤1099511627776:=by
   rcases oO.1 h3 with h | h
   ·have:=hw.2.2.1; omega
   ·have:=hw.2.1 _ h; have:=hw.2.2.2.1 _ h; omega
  simp[good]; omega
 ·rintro⟨h1,h3⟩
  simp[good] at h1
  exact⟨by omega,by omega,h3⟩
def vG:List jT→Option Int→List aB→List jT
 | o,_,[]=>o
 | o,p,d :: ds=>vG (Ph (if p=some d.1 then o else o++[((d.1.toNat,0),[])]) d.2) (some d.1) ds
theorem Fb {l:List aB} : ∀ (k i:Nat),i + k=l.length→vG (Bz l i) (if i=0 then none else some (l.getD (i - 1) (0,0)).1) (l.drop i)=KL l
 | 0,i,h=>by
   rw[List.drop_of_length_le (by omega),vG,KL]
   congr 1
 | k + 1,i,h=>by
   have hi:i<l.length:=by omega
   have hD:l.getD i (0,0)=l[i]:=BM hi
   have ih:=Fb (l:=l) k (i + 1) (by omega)
   rw[if_neg (show ¬ i + 1=0 by omega),Nat.add_sub_cancel,Bz,hD] at ih
   rw[List.drop_eq_getElem_cons hi,vG,← ih]
   congr 2
   unfold aiY
   rw[hD]
   by_cases h0:i=0
   ·subst h0; simp
   ·rw[if_neg h0]
    by_cases he:l[i].1=(l.getD (i - 1) (0,0)).1
    ·rw[if_pos (by rw[he]),if_neg (by rintro(h | h); exact h0 h; exact h he)]
    ·rw[if_neg (fun h=>he (Option.some.inj h).symm),if_pos (.inr he)]
theorem KO (o:List jT) (p:jT) (n:Nat) : Ph (o++[p]) n=o++[bump p n]:=by
 have e:(o++[p]).length - 1=o.length:=by simp
 unfold Ph
 rw[e,List.getD_eq_getElem?_getD,List.getElem?_append_right (Nat.le_refl _),List.set_append_right _ _ (Nat.le_refl _)]
 simp
theorem Oe (i:Int) : ∀ (xs:List Nat) (o:List jT) (p:jT) (rest:List aB),vG (o++[p]) (some i) (xs.map (fun n=>(i,n))++rest)=vG (o++[xs.foldl bump p]) (some i) rest
 | [],_,_,_=>rfl
 | x :: xs,o,p,rest=>by
   rw[List.map_cons,List.cons_append,vG,if_pos rfl,KO,Oe i xs,List.foldl_cons]
theorem Kq (i:Nat) : ∀ (k a:Nat),(List.range' (a + 1) k).foldl bump ((i,a),[])=((i,a + k),[])
 | 0,a=>rfl
 | k + 1,a=>by
   rw[List.range'_succ,List.foldl_cons,bump,if_pos ⟨rfl,rfl⟩,Kq i k (a + 1)]
   congr 2; omega
theorem Ob (q:Nat × Nat) : ∀ (xs ys:List Nat),ys≠[]→xs.foldl bump (q,ys)=(q,ys++xs)
 | [],ys,_=>by simp
 | x :: xs,ys,h=>by
   rw[List.foldl_cons,bump,if_neg (fun h'=>h h'.1),Ob q xs _ (by simp),List.append_assoc]; rfl
theorem ZN {i:Nat} {p:Pt} (h:l9 p) : (nums p).foldl bump ((i,0),[])=((i,p.1),p.2):=by
 obtain⟨u,xs⟩:=p
 rw[nums,List.foldl_append,show(1:Nat)=0 + 1 from rfl,Kq i u 0,Nat.zero_add]
 cases xs with
 | nil=>rfl
 | cons x xs =>
   have:=h.2.1 x (by simp)
   rw[List.foldl_cons,bump,if_neg (fun h'=>by simp only at h' this; omega),Ob _ _ _ (by simp)]
   rfl
theorem Ii {ps:List Pt} (h:∀ p∈ps,l9 p) : ∀ i:Nat,∃ p:Option Int,(∀ j,p=some j→j<i)∧∀ rest,vG [] none (lq ps i++rest)=vG (FR ps i) p rest
 | 0=>⟨none,by simp,fun rest=>rfl⟩
 | i + 1=>by
   obtain⟨p,hp,hr⟩:=Ii h i
   have hw:=xN h i
   by_cases he:0<(ps.getD i (0,[])).1∨0<(ps.getD i (0,[])).2.length
   ·refine⟨some (i:Int),fun j hj=>by have:=Option.some.inj hj; omega,fun rest=>?_⟩
    rw[lq,List.append_assoc,hr,FR,if_pos he,Ri]
    have hne:nums (ps.getD i (0,[]))≠[]:=by
     unfold nums
     intro h0
     obtain⟨q1,q2⟩:=List.append_eq_nil_iff.1 h0
     have q1:=congrArg List.length q1
     have q2:=congrArg List.length q2
     rw[List.length_range'] at q1
     simp only[List.length_nil] at q1 q2
     omega
    have hb:=ZN (i:=i) hw
    generalize nums (ps.getD i (0,[]))=ns at *
    cases ns with
    | nil=>exact absurd rfl hne
    | cons n ns =>
      rw[List.map_cons,List.cons_append,vG,if_neg (fun h'=>by have:=hp _ h'; omega),KO,Oe,← hb,List.foldl_cons,Int.toNat_natCast]
   ·refine⟨p,fun j hj=>by have:=hp j hj; omega,fun rest=>?_⟩
    rw[lq,List.append_assoc,hr,FR,if_neg he,List.append_nil]
    have e:Ri i (ps.getD i (0,[]))=[]:=by
     unfold Ri nums
     have h1:(ps.getD i (0,[])).1=0:=by omega
     have h2:(ps.getD i (0,[])).2=[]:=List.length_eq_zero_iff.1 (by omega)
     rw[h1,h2]; rfl
    rw[e,List.nil_append]
theorem RV {ps:List Pt} (h:∀ p∈ps,l9 p) : KL (lq ps 16)=parts ps:=by
 rw[← Fb (l:=lq ps 16) (lq ps 16).length 0 (by omega)]
 obtain⟨p,_,hr⟩:=Ii h 16
 have:=hr []
 rw[List.append_nil] at this
 simp only[Bz,if_true,List.drop_zero]
 rw[this]; rfl
structure AU (ps:List Pt) (w:List aB) : Prop where
 len:ps.length=16
 wf:∀ p∈ps,l9 p
 srt:UR w
 mem:∀ d,d∈w↔gF ps d=true
theorem AU.eq {ps:List Pt} {w:List aB} (h:AU ps w) : w=lq ps 16:=Vg h.srt (Kr h.wf 16) fun d=>by rw[h.mem,Zt h.wf]
theorem AU.parts {ps:List Pt} {w:List aB} (h:AU ps w) : parts ps=KL w:=by rw[h.eq,RV h.wf]
theorem AU.good {ps:List Pt} {w:List aB} (h:AU ps w) : ∀ d∈w,good d=true:=fun d hd=>by
 have:=(h.mem d).1 hd
 rw[gF,Bool.and_eq_true] at this
 exact this.1
theorem AU.empty:AU iT []:=by
 refine⟨rfl,JP,.nil,fun d=>?_⟩
 rw[gF,CP]
 simp[ed]
 intro _ h; omega
theorem Zv {M:RM} {base T:Nat} {v:AV} {xs:List Nat} (h:Ow aS M base T v xs) (hn:0<xs.length) : ∃ b,v=vv b xs.length∧base≤b∧b<M.next∧M=PM M b T xs.toArray:=by
 obtain⟨b,h1,h2,h3,h4,h5⟩:=Own.yP h hn
 refine⟨b,h1,h2,h3, ?_⟩
 unfold PM RM.put
 obtain⟨n,hp,lo⟩:=M
 simp only at h4 ⊢
 congr 1
 funext c
 by_cases hc:c=b
 ·subst hc; rw[if_pos rfl,h4]
 ·rw[if_neg hc]
theorem ahq {M:RM} {b T base:Nat} {d:Array Nat} (h1:base≤b) (h2:b<M.next) : Ow aS (PM M b T d) base T (vv b d.size) d.toList:=by
 have:Own (PM M b T d) base T 1 (.slc b 0 d.size (.op 1)) (aS.row d.toList) d.size:=.op _ _ _ h1 h2 PM.heap (by rw[PM.Jt]; omega)
 show Own (PM M b T d) base T 1 (.slc b 0 d.size (.op 1)) (aS.row d.toList) d.toList.length
 rw[Array.length_toList]; exact this
theorem U5 {M M' : RM} {b T:Nat} {d:Array Nat} (k:ag [] M M') : ag [b] M (PM M' b T d):=(k.mono (by simp)).put _ (.inr (by simp))
def ja (xs:List Nat) : List Nat:=(Sort.sort lN xs.toArray).toList
theorem YV:ja []=[]:=by
 unfold ja Sort.sort
 rw[pdq_eq,if_pos (by simp),Sort.insertionSort,Sort.insOuter,if_neg (by simp)]
theorem LA (xs:List Nat) : (ja xs).Perm xs:=by
 have h:=(Sort.sort_sorts lN Sc xs.toArray).1
 have h2:=h.2.2
 rw[Array.extract_eq_self_of_le (by rw[h.1]; exact Nat.le_refl _),Array.extract_eq_self_of_le (Nat.le_refl _)] at h2
 exact h2
theorem EK (xs:List Nat) : (ja xs).length=xs.length:=(LA xs).length_eq
theorem abX (xs:List Nat) : Up (ja xs):=by
 intro i j hi hj hij
 have h:=(Sort.sort_sorts lN Sc xs.toArray)
 have hs:(Sort.sort lN xs.toArray).size=xs.toArray.size:=h.1.1
 unfold ja at hi hj ⊢
 rw[Array.length_toList] at hi hj
 rcases Nat.lt_or_ge i j with h1 | h1
 ·have:=h.2 i j (Nat.zero_le _) h1 (by omega)
  rw[uR hj,uR hi] at this
  rw[Array.getElem_toList,Array.getElem_toList]
  have:=of_decide_eq_false this
  omega
 ·have:i=j:=by omega
  subst this; exact Nat.le_refl _
def SL (c:au) : Prop:=∀ {M:RM} {v:AV} {Q:ai},Q (.tup []) M→c [v,N .i64 0,N .i64 ((0:Nat) : Int),N .i64 ((0:Nat) : Int)] M Q
def Sw (c:au) : Prop:=∀ {M:RM} {v:AV} {Q:ai},Q (.tup []) M→c [v,N .i64 0,N .i64 ((0:Nat) : Int)] M Q
theorem Uz {cl:au} : Sw fun args M Q=>∃ a0 a1 a2,args=[a0,a1,a2]∧dY cl a0 a1 a2 M Q:=by
 intro M v Q hQ
 refine⟨_,_,_,rfl, ?_⟩
 unfold dY
 rw[bY,show IntKind.i64.wrap ((0:Int) + 1)=1 from rfl]
 refine aJ (fun m ys M3=>m=0∧ys=[N .i64 1]∧M3=M) 0 ⟨rfl,rfl,rfl⟩ ?_
 rintro next m ys M3 hnext ⟨rfl,rfl,rfl⟩
 dsimp only[aa]
 rw[cK,show decide ((1:Int)<((0:Nat) : Int))=false from rfl,bG]
 exact hQ
theorem TR {ci c2 c3 cc c4 cp c5 c6 c7 c8:au} (hi:Sw ci) : SL fun args M Q=>∃ a0 a1 a2 a3,args=[a0,a1,a2,a3]∧gq ci c2 c3 cc c4 cp c5 c6 c7 c8 a0 a1 a2 a3 M Q:=by
 intro M v Q hQ
 refine⟨_,_,_,_,rfl, ?_⟩
 unfold gq
 refine aJ (fun m ys M3=>m=0∧ys=[N .i64 0,N .i64 ((0:Nat) : Int),N .i64 ((0:Nat) : Int),Bo true,Bo true]∧M3=M) 0 ⟨rfl,rfl,rfl⟩ ?_
 rintro next m ys M3 hnext ⟨rfl,rfl,rfl⟩
 dsimp only[aa]
 rw[iV,show IntKind.i64.wrap (((0:Nat) : Int) - 0)=0 from rfl,kD,show decide ((0:Int)≤12)=true from rfl,dH]
 exact hi hQ
theorem XQ {T:Nat} {cl cp:au} (hl:F9 cl) (hp:∀ m,Xm T m cp) (h0:SL cp) : VW (fun xs=>xs.length≤60000) ja T fun args M Q=>∃ a0,args=[a0]∧wJ cl cp a0 M Q:=by
 intro M base v xs Q ho hx hQ
 have hs:Sl aS M v xs:=ho.kU
 refine⟨_,rfl, ?_⟩
 unfold wJ
 have hx:xs.length≤60000:=hx
 rw[aL.len hs,nU,lK (by omega) (by omega)]
 refine hl (by omega) ?_
 rcases Nat.eq_zero_or_pos xs.length with hn | hn
 ·rw[hn,show Sort.bitsLen 0=0 from rfl]
  refine h0 ?_
  have:=List.length_eq_zero_iff.1 hn
  subst this
  exact hQ M (by rw[YV]; exact ho) (ag.refl _ _)
 ·obtain⟨b,rfl,h1,h2,h3⟩:=Zv ho hn
  have hb:=BX hn (by omega)
  have hsz:xs.toArray.size=xs.length:=by simp
  have:=hp (xs.length + 1) (M:=M) (b:=b) (a:=0) (e:=xs.toArray.size) (limit:=Sort.bitsLen xs.length) (d:=xs.toArray) (Q:=fun bM M_0=>Q (.tup []) M_0) h2 (by omega) (by omega) (Nat.le_refl _) (by omega) (by omega) fun M' k=>?_
  ·rw[← h3] at this
   simpa using this
  ·have e:(Sort.pdq lN xs.toArray 0 xs.toArray.size (Sort.bitsLen xs.length) true true)=Sort.sort lN xs.toArray:=by rw[Sort.sort]; simp
   rw[e]
   refine hQ _ ?_ (U5 k)
   have hsz2:(Sort.sort lN xs.toArray).size=xs.length:=by
    have:=EK xs
    unfold ja at this
    rw[Array.length_toList] at this; exact this
   have:=ahq (M:=M') (T:=T) (d:=Sort.sort lN xs.toArray) h1 (Nat.lt_of_lt_of_le h2 k.next)
   rw[hsz2] at this
   exact this
def wW:Nat→List Nat→List Nat
 | _,[]=>[]
 | p,x :: xs=>if x=p then wW x xs else x :: wW x xs
def dd:List Nat→List Nat
 | []=>[]
 | x :: xs=>x :: wW x xs
theorem Rc:∀ (ys:List Nat) (p x:Nat),wW p (ys++[x])=if x=ys.getLastD p then wW p ys else wW p ys++[x]
 | [],p,x=>rfl
 | y :: ys,p,x=>by
   rw[List.cons_append,wW,wW,Rc ys y x,List.getLastD_cons]
   by_cases hy:y=p
   ·rw[if_pos hy,if_pos hy]
   ·rw[if_neg hy,if_neg hy]
    split
    ·rfl
    ·rfl
theorem NP:∀ (k:Nat) (ys:List Nat) (y:Nat) (h:k<(y :: ys).length),(ys.take k).getLastD y=(y :: ys)[k]
 | 0,ys,y,h=>rfl
 | k + 1,[],y,h=>by simp at h
 | k + 1,z :: zs,y,h=>by
   rw[List.take_succ_cons,List.getLastD_cons,NP k zs z (by simpa using h)]
   rfl
theorem U6 {xs:List Nat} {m:Nat} (h1:1≤m) (h:m<xs.length) : dd (xs.take (m + 1))=if xs[m]=xs[m - 1] then dd (xs.take m) else dd (xs.take m)++[xs[m]]:=by
 rw[List.take_succ_eq_append_getElem h]
 cases xs with
 | nil=>simp at h
 | cons y ys =>
   obtain⟨k,rfl⟩ : ∃ k,m=k + 1:=⟨m - 1,by omega⟩
   have hk:k<(y :: ys).length:=by omega
   rw[List.take_succ_cons,List.cons_append,dd,dd,Rc,NP k ys y hk]
   simp only[Nat.add_sub_cancel]
   split <;> simp
theorem ahQ:∀ (xs:List Nat),(dd xs).length≤xs.length
 | []=>Nat.le_refl _
 | x :: xs=>by
   have:∀ (p:Nat) (l:List Nat),(wW p l).length≤l.length:=by
    intro p l
    induction l generalizing p with
    | nil=>exact Nat.le_refl _
    | cons y l ih=>rw[wW]; split <;> simp <;> have:=ih y <;> omega
   rw[dd]; simp; exact this x xs
theorem Yi {b o n k:Nat} (h:k≤n) (h0:0<n) : bR 1 (.slc b o n (.op 1)) none (some (N .i64 (k:Int))) none=some (.slc b o k (.op 1)):=by
 simp only[bR,bnd]
 simp[h]
 omega
theorem OL {T:Nat} : I7 (fun xs=>xs.length≤60000) dd T fun args M Q=>∃ a0,args=[a0]∧rJ a0 M Q:=by
 intro M base v xs Q ho hx hQ
 have hx:xs.length≤60000:=hx
 have hs:Sl aS M v xs:=ho.kU
 refine⟨_,rfl, ?_⟩
 unfold rJ
 have hself:dd xs=xs→Q v M:=fun e=>hQ v M (by rw[e]; exact hs) (Own.kN ho) (fun d hd=>hd) (ag.refl _ _)
 rw[aL.len hs,cK]
 refine aH (fun hg=>?_) (fun hg=>?_)
 ·have hg:xs.length<2:=by
   have:(xs.length:Int)<2:=of_decide_eq_true hg
   omega
  refine hself ?_
  match xs,hg with
  | [],_=>rfl
  | [x],_=>rfl
 have hg:2≤xs.length:=by
  have:¬ (xs.length:Int)<2:=of_decide_eq_false hg
  omega
 obtain⟨b,rfl,h1,h2,h3⟩:=Zv ho (by omega)
 have hsz:xs.toArray.size=xs.length:=by simp
 have hat:∀ i (h:i<xs.length),xs.toArray[i]! = xs[i]:=fun i h=>by rw[uR (by simpa using h)]; simp
 clear hs
 have hself:=hself
 simp only[bZ]
 refine aJ (fun m ys M3=>∃ i:Nat,m=xs.length - i∧ys=[N .i64 (i:Int)]∧1≤i∧i≤xs.length∧M3=PM M b T xs.toArray∧dd (xs.take i)=xs.take i) _ ⟨1,rfl,rfl,Nat.le_refl _,by omega,h3,by
  match xs,hg with
  | x :: y :: l,_=>rfl⟩ ?_
 rintro next m ys M3 hnext ⟨i,rfl,rfl,hi1,hi,rfl,hdd⟩
 dsimp only[aa]
 have abr:∀ K:AV→Prop,bH (vv b xs.length) K=K (N .i64 (xs.length:Int)):=fun K=>by simp[jJ]
 rw[abr,eO]
 refine aH (fun hlt=>?_) (fun hge=>?_)
 rotate_left
 ·have he:i=xs.length:=by
   have:¬ i<xs.length:=of_decide_eq_false hge
   omega
  subst he
  rw[List.take_length] at hdd
  rw[← h3]
  exact hself hdd
 have hlt:i<xs.length:=of_decide_eq_true hlt
 rw[PM.rd hsz.symm (by omega),bL (by omega) (by omega),PM.rd hsz.symm (by omega),hat i hlt,hat (i - 1) (by omega),cO]
 have hstep:=U6 hi1 hlt
 by_cases heq:xs[i]=xs[i - 1]
 rotate_left
 ·rw[show(((xs[i] : Nat) : Int) == ((xs[i - 1]'(by omega) : Nat) : Int))=false by rw[beq_eq_false_iff_ne]; omega,bG,add1 (by omega)]
  rw[if_neg heq,hdd] at hstep
  exact hnext _ _ _ (by omega) ⟨i + 1,rfl,rfl,by omega,hlt,rfl,by rw[hstep,← List.take_succ_eq_append_getElem hlt]⟩
 rw[show(((xs[i] : Nat) : Int) == ((xs[i - 1]'(by omega) : Nat) : Int))=true by rw[beq_iff_eq]; omega,dH]
 rw[if_pos heq,hdd] at hstep
 rw[oL hlt,dF]
 have alA:∀ K:AV→Prop,bH (.slc b (0 + i * 1) (xs.length - i) (.op 1)) K=K (N .i64 ((xs.length - i:Nat) : Int)):=fun K=>by simp[jJ]
 have Z7:∀ (j:Nat),j<xs.length - i→∀ (K:AV→Prop),ax (.slc b (0 + i * 1) (xs.length - i) (.op 1)) (N .i64 (j:Int)) 1 K=K (.ptr b (i + j)):=fun j hj K=>by
  rw[lS]
  simp only[Int.toNat_natCast]
  rw[show 0 + i * 1 + j * 1=i + j by omega]
  exact propext ⟨fun h=>h.2.2,fun h=>⟨by omega,by omega,h⟩⟩
 -- the rest: moved down
 refine aJ (fun m ys M5=>∃ (k j:Nat) (d:Array Nat),m=xs.length - j∧ys=[N .i64 (k:Int),N .i64 (j:Int)]∧1≤j∧i + j≤xs.length∧1≤k∧k + 1≤i + j∧M5=PM M b T d∧d.size=xs.length∧d.toList.take k=dd (xs.take (i + j))∧(∀ q (h:q<xs.length),i + j≤q + 1→d[q]! = xs[q])) _
  ⟨i,1,xs.toArray,rfl,rfl,by omega,by omega,by omega,by omega,rfl,hsz,by rw[hstep],fun q h _=>hat q h⟩ ?_
 rintro kT m ys M5 eu ⟨k,j,d,rfl,rfl,hj1,hij,hk1,hk,rfl,hds,hpre,hold⟩
 dsimp only[aa]
 rw[alA,eO]
 refine aH (fun hlt2=>?_) (fun sQ=>?_)
 ·have hlt2:j<xs.length - i:=of_decide_eq_true hlt2
  have hij' : i + j<xs.length:=by omega
  refine bA (fun zs M'=>∃ (k' : Nat) (d' : Array Nat),zs=[N .i64 (k' : Int)]∧1≤k'∧k'≤i + j∧M'=PM M b T d'∧d'.size=xs.length∧d'.toList.take k'=dd (xs.take (i + j + 1))∧(∀ q (h:q<xs.length),i + j≤q→d'[q]! = xs[q])) ?_ ?_
  ·rintro zs M' ⟨k',d',rfl,c1,c2,rfl,c3,c4,c5⟩
   dsimp only[aa]
   rw[add1 (by omega)]
   exact eu _ _ _ (by omega) ⟨k',j + 1,d',rfl,rfl,by omega,by omega,c1,by omega,rfl,c3,c4,fun q h hq=>c5 q h (by omega)⟩
  intro J hJ
  have Wh:=U6 (xs:=xs) (m:=i + j) (by omega) hij'
  have ld:∀ q (h:q<xs.length) (K:AV→Prop),aj (PM M b T d) (.ptr b q) K=K (N .u64 ((d[q]! : Nat) : Int)):=fun q h K=>av PM.heap (PM.cellAt (by omega))
  rw[Z7 j hlt2,ld _ hij',bL (by omega) (by omega),Z7 (j - 1) (by omega),ld _ (by omega),hold (i + j) hij' (by omega),hold (i + (j - 1)) (by omega) (by omega),jH]
  have hpe:xs[i + (j - 1)]'(by omega)=xs[i + j - 1]'(by omega):=by congr 1; omega
  rw[hpe]
  by_cases hne:xs[i + j]=xs[i + j - 1]'(by omega)
  ·rw[show(((xs[i + j] : Nat) : Int) != ((xs[i + j - 1]'(by omega) : Nat) : Int))=false by rw[hne]; simp,bG]
   rw[if_pos hne] at Wh
   exact hJ _ _ ⟨k,d,rfl,hk1,by omega,rfl,hds,by rw[Wh]; exact hpre,fun q h hq=>hold q h (by omega)⟩
  ·rw[show(((xs[i + j] : Nat) : Int) != ((xs[i + j - 1]'(by omega) : Nat) : Int))=true by simp only[bne_iff_ne,ne_eq]; omega,dH]
   rw[if_neg hne] at Wh
   rw[Z7 j hlt2,ld _ hij',hold (i + j) hij' (by omega),PM.idx (by omega),PM.put (by omega),add1 (by omega)]
   refine hJ _ _ ⟨k + 1,_,rfl,by omega,by omega,rfl,by simpa using hds, ?_,fun q h hq=>?_⟩
   ·have hkl:k<d.toList.length:=by rw[Array.length_toList]; omega
    rw[Wh,← hpre,Array.toList_setIfInBounds,List.take_succ_eq_append_getElem (by rw[List.length_set]; exact hkl),List.getElem_set_self,List.take_set_of_le (Nat.le_refl _)]
   ·rw[← hold q h (by omega)]
    rw[uR (by rw[Array.size_setIfInBounds]; omega),uR (by omega),Array.getElem_setIfInBounds_ne (by omega) (by omega)]
 ·have hij' : i + j=xs.length:=by
   have:¬ j<xs.length - i:=of_decide_eq_false sQ
   omega
  rw[hij',List.take_length] at hpre
  have hst:(PM M b T d).stores b (0 + k * 1) (bE [N .u64 0] (xs.length - k))=some ((PM M b T d).put b (.row ((aS.row d.toList).take (0 + k * 1)++bE [N .u64 0] (xs.length - k)++(aS.row d.toList).drop (0 + k * 1 + (bE [N .u64 0] (xs.length - k)).length)) true T 0)):=by
   refine RM.xc PM.heap ?_ (Nat.zero_le _) (oh _).2
   rw[(oh _).1,PM.Jt]; omega
  rw[oL (by omega),dF]
  refine .inl ⟨_,_,_,_,_,rfl,hst, ?_⟩
  dsimp only
  rw[Yi (by omega) (by omega),dF]
  have hlk:(dd xs).length=k:=by rw[← hpre,List.length_take,Array.length_toList]; omega
  refine hQ _ _ ?_ (show(1:Nat)=1 from rfl) (fun e he=>by simpa [aD] using he) ?_
  ·have hrow:((aS.row d.toList).take (0 + k * 1))=aS.row (dd xs):=by
    rw[← hpre,show 0 + k * 1=k * aS.size by simp[aS],Enc.qX]
   show aL _ 1 (.slc b 0 k (.op 1)) (aS.row (dd xs)) (dd xs).length
   rw[hlk]
   refine .slc _ _ _ _ _ h2 ?_
   have hl:(aS.row (dd xs)).length=k:=by rw[Enc.dX,hlk]; simp[aS]
   rw[RM.bW (aU _) (by rw[hrow]; simp[hl]),List.drop_zero,hrow,Nat.mul_one,List.append_assoc,List.take_left' hl]
  ·refine ag.put ?_ _ (.inr (by simp[aD]))
   exact U5 (ag.refl _ _)
theorem amn {xs:List Nat} (h:Up xs) : xs.Pairwise (· ≤ ·):=List.pairwise_iff_getElem.2 fun i j hi hj hij=>h i j hi hj (Nat.le_of_lt hij)
theorem Oc:∀ (ys:List Nat) (p:Nat),(p :: ys).Pairwise (· ≤ ·)→Asc (wW p ys)∧(∀ x∈wW p ys,p<x)∧∀ x,x∈wW p ys↔x∈ys∧x≠p
 | [],p,_=>⟨.nil,by simp[wW],by simp[wW]⟩
 | y :: ys,p,h=>by
   have a1:=List.pairwise_cons.1 h
   have a2:=List.pairwise_cons.1 a1.2
   obtain⟨i1,i2,i3⟩:=Oc ys y a1.2
   have hpy:p≤y:=a1.1 y (by simp)
   rw[wW]
   by_cases hy:y=p
   ·rw[if_pos hy]
    subst hy
    refine⟨i1,i2,fun x=>?_⟩
    rw[i3,List.mem_cons]
    constructor
    ·rintro⟨h1,h2⟩; exact⟨.inr h1,h2⟩
    ·rintro⟨h1 | h1,h2⟩
     ·exact absurd h1 h2
     ·exact⟨h1,h2⟩
   ·rw[if_neg hy]
    refine⟨List.pairwise_cons.2 ⟨i2,i1⟩,fun x hx=>?_,fun x=>?_⟩
    ·rcases List.mem_cons.1 hx with rfl | hx
     ·omega
     ·have:=i2 x hx; omega
    ·rw[List.mem_cons,i3,List.mem_cons]
     constructor
     ·rintro(rfl | ⟨h1,h2⟩)
      ·exact⟨.inl rfl,hy⟩
      ·have:=a2.1 x h1
       exact⟨.inr h1,by omega⟩
     ·rintro⟨h1 | h1,h2⟩
      ·exact .inl h1
      ·by_cases hxy:x=y
       ·exact .inl hxy
       ·exact .inr ⟨h1,hxy⟩
theorem aah {ys:List Nat} (h:Up ys) : Asc (dd ys)∧∀ x,x∈dd ys↔x∈ys:=by
 have hp:=amn h
 cases ys with
 | nil=>exact⟨.nil,fun x=>Iff.rfl⟩
 | cons y ys =>
   obtain⟨i1,i2,i3⟩:=Oc ys y hp
   refine⟨List.pairwise_cons.2 ⟨i2,i1⟩,fun x=>?_⟩
   rw[dd,List.mem_cons,i3,List.mem_cons]
   constructor
   ·rintro(h | ⟨h,_⟩)
    ·exact .inl h
    ·exact .inr h
   ·rintro(h | h)
    ·exact .inl h
    ·by_cases hxy:x=y
     ·exact .inl hxy
     ·exact .inr ⟨h,hxy⟩
def jl (p q:Pt) : List Nat:=dd (ja (p.2++q.2))
theorem Ea (p q:Pt) : Asc (jl p q)∧(∀ x,x∈jl p q↔x∈p.2∨x∈q.2)∧(jl p q).length≤p.2.length + q.2.length:=by
 obtain⟨h1,h2⟩:=aah (abX (p.2++q.2))
 refine⟨h1,fun x=>?_, ?_⟩
 ·unfold jl
  rw[h2,(LA _).mem_iff,List.mem_append]
 ·have:=ahQ (ja (p.2++q.2))
  rw[EK,List.length_append] at this
  exact this
theorem Rn {p q:Pt} (hp:l9 p) (hq:l9 q) (hl:p.2.length + q.2.length≤4096) :
  l9 (qC ja dd p q)∧(∀ x,ed (qC ja dd p q) x=true↔ed p x=true∨ed q x=true)∧(qC ja dd p q).2.length≤p.2.length + q.2.length:=by
 obtain⟨h1,h2,h3⟩:=Ea p q
 have he:qC ja dd p q=settle (max p.1 q.1) (jl p q):=rfl
 rw[he]
 have hpos:∀ y∈jl p q,1≤y:=fun y hy=>by
  rcases(h2 y).1 hy with h | h
  ·have:=hp.2.1 y h; omega
  ·have:=hq.2.1 y h; omega
 have hle:∀ y∈jl p q,y≤1099511627776:=fun y hy=>by
  rcases(h2 y).1 hy with h | h
  ·exact hp.2.2.2.1 y h
  ·exact hq.2.2.2.1 y h
 have hm:max p.1 q.1≤1099511627776:=by have:=hp.2.2.1; have:=hq.2.2.1; omega
 obtain⟨s1,s2,s3,s4⟩:=yS (jl p q) (max p.1 q.1) 1099511627776 h1 hm hle
 have hsl:=Ck (max p.1 q.1) (jl p q)
 refine⟨⟨s1,s2,s3,fun x hx=>hle x (KV hx),by omega⟩,fun x=>?_,by omega⟩
 rw[DC _ _ _ hpos,h2,oO,oO]
 constructor
 ·rintro(h | h | h)
  ·by_cases hx:x≤p.1
   ·exact .inl (.inl ⟨h.1,hx⟩)
   ·exact .inr (.inl ⟨h.1,by omega⟩)
  ·exact .inl (.inr h)
  ·exact .inr (.inr h)
 ·rintro((h | h) | (h | h))
  ·exact .inl ⟨h.1,by omega⟩
  ·exact .inr (.inl h)
  ·exact .inl ⟨h.1,by omega⟩
  ·exact .inr (.inr h)
def DV (ps qs:List Pt) : List Pt:=pg ja dd ps qs 16
structure SI (k:Nat) (ps:List Pt) : Prop where
 len:ps.length=16
 wf:∀ p∈ps,l9 p
 few:∀ p∈ps,p.2.length≤k
theorem SI.at {k:Nat} {ps:List Pt} (h:SI k ps) (i:Nat) : l9 (ps.getD i (0,[]))∧(ps.getD i (0,[])).2.length≤k :=
 ⟨xN h.wf i,uK (R:=fun p=>p.2.length≤k) h.few (Nat.zero_le _) i⟩
theorem Q8 {ps qs:List Pt} {a c:Nat} (h1:SI a ps) (h2:SI c qs) {j:Nat} (hj:j<16) : (DV ps qs).getD j (0,[])=qC ja dd (ps.getD j (0,[])) (qs.getD j (0,[])):=Qf h1.len (Nat.le_refl _) hj
theorem aa8 {ps qs:List Pt} {a c:Nat} (h1:SI a ps) (h2:SI c qs) (hk:a + c≤4096) : SI (a + c) (DV ps qs):=by
 have hlen:(DV ps qs).length=16:=by rw[DV,EZ,h1.len]
 have all:∀ p∈DV ps qs,l9 p∧p.2.length≤a + c:=fun p hp=>by
  obtain⟨i,hi,rfl⟩:=List.getElem_of_mem hp
  rw[hlen] at hi
  have e:=Q8 h1 h2 hi
  rw[BM (by omega)] at e
  rw[e]
  obtain⟨w1,l1⟩:=h1.at i
  obtain⟨w2,l2⟩:=h2.at i
  obtain⟨r1,_,r3⟩:=Rn w1 w2 (by omega)
  exact⟨r1,by omega⟩
 exact⟨hlen,fun p hp=>(all p hp).1,fun p hp=>(all p hp).2⟩
theorem AU.of {k:Nat} {ps:List Pt} {w:List aB} (h:SI k ps) (hs:UR w) (hm:∀ d,d∈w↔gF ps d=true) : AU ps w:=⟨h.len,h.wf,hs,hm⟩
def PX (T:Nat) (c:au) : Prop:=Vy (fun xs=>xs.length≤60000) (fun xs=>xs.length≤60000) ja dd T c
theorem PX.use {T:Nat} {c:au} (h:PX T c) {M:RM} {a b:Nat} {ps qs:List Pt} {S S' : Nat→Prop} {k l:Nat} {Q:ai} (h1:fV T S M a ps) (h2:fV T S' M b qs) (he:a=b→ps=qs) (hn:¬ S' a) (i1:SI k ps) (i2:SI l qs) (hkl:k + l≤60000)
  (hQ:∀ M',fV T (fun e=>S e∨M.next≤e) M' a (DV ps qs)→ag [a] M M'→Q (.tup []) M') : c [.ptr a 0,.ptr b 0] M Q:=by
 refine h h1 h2 he hn (fun i hi=>?_) (fun p hp=>?_) (fun p hp=>?_) (fun i hi=>?_) hQ
 ·have a1:=(i1.at i).2
  have a2:=(i2.at i).2
  show((ps.getD i (0,[])).2++(qs.getD i (0,[])).2).length≤60000∧(ja ((ps.getD i (0,[])).2++(qs.getD i (0,[])).2)).length≤60000
  rw[EK,List.length_append]
  omega
 ·have:=(i1.wf p hp).2.2.1
  have:=i1.few p hp
  omega
 ·have:=(i2.wf p hp).2.2.1
  have:=i2.few p hp
  omega
 ·have a1:=i1.at i
  have a2:=i2.at i
  obtain⟨_,j2,j3⟩:=Ea (ps.getD i (0,[])) (qs.getD i (0,[]))
  refine⟨by have:=j3; unfold jl at this; omega,fun x hx=>?_⟩
  rcases(j2 x).1 hx with h | h
  ·have:=a1.1.2.2.2.1 x h; omega
  ·have:=a2.1.2.2.2.1 x h; omega
end Go.Ab.aB
namespace Go.Ab.Crw
open Go Go.Ab Go.Ab.aB
def RP (T:Nat) (c:au) : Prop:=∀ {M:RM} {b:Nat} {qs:List Pt} {S' : Nat→Prop} {k:Nat} {Q:ai},fV T S' M b qs→SI k qs→k≤4096 →
 (∀ a M',M.next≤a→fV T (fun e=>a<e) M' a qs→ag [] M M'→Q (.ptr a 0) M')→c [.ptr b 0] M Q
theorem UH {q:Pt} (h:l9 q) : qC ja dd (0,[]) q=q:=by
 have e:jl (0,[]) q=q.2:=UN (Ea _ _).1 h.1 fun x=>by rw[(Ea _ _).2.1]; simp
 show Go.Ab.aB.settle (max 0 q.1) (jl (0,[]) q)=q
 rw[e,Nat.zero_max]
 exact UC h.2.1
theorem ym:SI 0 iT:=⟨rfl,JP,fun p hp=>by
 rw[iT,List.mem_replicate] at hp
 rw[hp.2]; exact Nat.le_refl _⟩
theorem XN {T:Nat} {cn cj:au} (hn:Sa T cn) (hj:PX T cj) : RP T fun args M Q=>∃ a0,args=[a0]∧aB.DN cn cj a0 M Q:=by
 intro M b qs S' k Q hB hi hk hQ
 refine⟨_,rfl, ?_⟩
 unfold aB.DN
 have hB0:=hB.below
 refine hn fun M1 hA1 k1 n1=>?_
 have hB1:=hB0.keep k1 (by simp) (by simp)
 have hbl:=hB.lt
 refine hj.use hA1 hB1 (fun e=>by omega) (fun h=>by omega) ym hi (by omega) fun M2 hA2 k2=>?_
 have e:DV iT qs=qs:=amD (aa8 ym hi (by omega)).len hB.len fun j hj=>by
  rw[Q8 ym hi hj,CP,UH (hi.at j).1]
 rw[e] at hA2
 refine hQ M.next M2 (Nat.le_refl _) (hA2.mono (fun e h=>?_) (by omega)) (k1.dU k2 (by simp))
 rcases h with h | h
 ·exact h.elim
 ·omega
section
variable {α:Type} {E:Enc α}
theorem abY {M:RM} {b T bytes:Nat} {zs:List AV} {u:AV} {xs ys:List α} {K:ai} (hb:b<M.next) (hh:M.heap b=some (.row (E.row xs) false T 0)) (hu:Sl E M u ys) (hx:1≤xs.length) (hs:1≤E.size)
  (hn:(xs.length + ys.length) * bytes≤140737488355328) (hn2:xs.length + ys.length≤140737488355328)
  (hK:∀ v' M',Sl E M' v' (xs++ys)→(∀ d∈aD v',d=b∨M.next≤d)→ag [] M M'→K v' M') : appW T E.size bytes zs false (.slc b 0 xs.length (.ex xs.length)) u M K:=by
 refine⟨ys.length,E.row ys,aL.mJ hu _, ?_,by omega, ?_⟩
 ·exact Nat.le_trans (Nat.mul_le_mul_right _ (Nat.le_add_left _ _)) hn
 have hlen:(E.row xs).length=xs.length * E.size:=E.dX xs
 have hld:M.loads b 0 (xs.length * E.size)=some (E.row xs):=by
  rw[RM.bW hh (by omega),List.drop_zero,← hlen,List.take_length]
 by_cases h0:ys.length=0
 ·have:ys=[]:=List.length_eq_zero_iff.1 h0
  subst this
  refine⟨.slc b 0 xs.length (.ex xs.length),M,by simp[qZ],hK _ _ ?_ (by simp[aD]) (ag.refl _ _)⟩
  rw[List.append_nil]
  exact .slc _ _ _ _ _ hb hld
 ·refine⟨.slc M.next 0 (xs.length + ys.length) (.op E.size),M.push (.row (E.row xs++E.row ys) true T 0), ?_,hK _ _ ?_ (by simp[aD]) ((ag.refl _ _).push _)⟩
  ·have hone:(E.row xs++E.row ys).all oneCell=true:=by rw[List.all_append,E.rY,E.rY]; rfl
   simp only[qZ,if_neg h0,if_neg (show ¬ xs.length + ys.length≤xs.length by omega),hld]
   rw[if_pos ⟨hn,by omega,hone⟩]
  ·have hl2:(E.row (xs++ys)).length=(xs.length + ys.length) * E.size:=by rw[E.dX,List.length_append]
   show aL _ E.size _ (E.row (xs++ys)) (xs++ys).length
   rw[List.length_append]
   refine .slc _ _ _ _ _ (by simp[RM.push]) ?_
   rw[← E.pU,RM.bW (RM.aT _) (by omega),List.drop_zero,← hl2,List.take_length]
end
structure qb (TS T:Nat) (B:Nat→Prop) (M:RM) (t:Nat) (ps:List Pt) (es:List aC) : Prop where
 lt:t<M.next
 row:∃ s v,M.heap t=some (.row [.ptr s 0,v] false TS 0)∧(∃ S:Nat→Prop,fV T S M s ps∧∀ d,S d→B d)∧Sl aA M v es∧B s∧∀ d∈aD v,B d
 nb:¬ B t
theorem qb.keep {TS T t:Nat} {B:Nat→Prop} {M M' : RM} {ps:List Pt} {es:List aC} {bs:List Nat} (h:qb TS T B M t ps es) (k:ag bs M M') (ht:t ∉ bs) (hb:∀ d∈bs,¬ B d) : qb TS T B M' t ps es:=by
 obtain⟨s,v,h1,⟨S,h2,h2'⟩,h3,h4,h5⟩:=h.row
 exact⟨Nat.lt_of_lt_of_le h.lt k.next,⟨s,v,k.aR h1 h.lt ht,⟨S,h2.keep k (fun hs=>hb s hs h4) (fun d hd hS=>hb d hd (h2' d hS)),h2'⟩,aL.keep h3 k (fun d hd hm=>hb d hm (h5 d hd)),h4,h5⟩,h.nb⟩
theorem qb.mono {TS T t:Nat} {B B' : Nat→Prop} {M:RM} {ps:List Pt} {es:List aC} (h:qb TS T B M t ps es) (hB:∀ d,B d→B' d) (hn:¬ B' t) : qb TS T B' M t ps es:=by
 obtain⟨s,v,h1,⟨S,h2,h2'⟩,h3,h4,h5⟩:=h.row
 exact⟨h.lt,⟨s,v,h1,⟨S,h2,fun d hd=>hB d (h2' d hd)⟩,h3,hB s h4,fun d hd=>hB d (h5 d hd)⟩,hn⟩
theorem qb.below {TS T t:Nat} {B:Nat→Prop} {M:RM} {ps:List Pt} {es:List aC} (h:qb TS T B M t ps es) : qb TS T (fun d=>B d∧d<M.next) M t ps es:=by
 obtain⟨s,v,h1,⟨S,h2,h2'⟩,h3,h4,h5⟩:=h.row
 exact⟨h.lt,⟨s,v,h1,⟨_,h2.below,fun d hd=>⟨h2' d hd.1,hd.2⟩⟩,h3,⟨h4,h2.lt⟩,fun d hd=>⟨h5 d hd,aL.lt h3 d hd⟩⟩,fun hh=>h.nb hh.1⟩
def PG (TS T:Nat) (c:au) : Prop:=∀ {M:RM} {Q:ai},(∀ t M',M.next≤t→qb TS T (fun d=>M.next≤d∧d<t) M' t iT []→ag [] M M'→Q (.ptr t 0) M')→c [] M Q
theorem Xq {TS T:Nat} {cn:au} (hn:Sa T cn) : PG TS T fun args M Q=>args=[]∧Yo cn TS M Q:=by
 intro M Q hQ
 refine⟨rfl, ?_⟩
 unfold Yo
 refine hn fun M1 h1 k1 n1=>?_
 rw[rU]
 refine⟨[.ptr M.next 0,bO],rfl, ?_⟩
 rw[dL rfl (by simp),bz]
 have k2:ag [] M1 (M1.push (.row [.ptr M.next 0,bO] false TS 0)):=(ag.refl _ _).push _
 refine hQ _ _ (by omega) ⟨by simp[RM.push],⟨M.next,bO,RM.aT _,⟨fun _=>False,h1.keep k2 (by simp) (by simp),fun d hd=>hd.elim⟩,.nil,⟨Nat.le_refl _,by omega⟩,by simp[aD]⟩,fun h=>by omega⟩ (k1.trans k2)
def lG (ps:List Pt) (ds:List aB) : List Pt:=ds.foldl (fun u d=>(jG u d).2) ps
theorem UA {ps:List Pt} {ds:List aB} {i:Nat} (h:i<ds.length) : lG ps (ds.take (i + 1))=(jG (lG ps (ds.take i)) ds[i]).2:=by
 rw[List.take_succ_eq_append_getElem h,lG,List.foldl_append]; rfl
theorem UO {k:Nat} {ps:List Pt} {d:aB} (h:SI k ps) : SI (k + 1) (jG ps d).2:=⟨by rw[aaY,h.len],UT h.wf,ZC h.few⟩
theorem _root_.Go.Ab.aB.SI.mono {k l:Nat} {ps:List Pt} (h:SI k ps) (hl:k≤l) : SI l ps:=⟨h.len,h.wf,fun p hp=>Nat.le_trans (h.few p hp) hl⟩
theorem zl {k:Nat} : ∀ {ds:List aB} {ps:List Pt},SI k ps→SI (k + ds.length) (lG ps ds)
 | [],ps,h=>h
 | d :: ds,ps,h=>by
   have:=zl (ds:=ds) (UO (d:=d) h)
   exact this.mono (by simp; omega)
def je (e:mE) : aC:=(e.1,(e.2.2.1,(e.2.2.2.1,e.2.2.2.2)))
def jM (ps:List Pt) (es:List aC) (e:mE) (ks:List aB) : List aC :=
 (if decide (e.2.1=1) && !gF ps e.1 then oV fI (es++[je e]) else es).filter fun x=>!decide (x.1∈ks)
def yc (ps:List Pt) (e:mE) (ks:List aB) : List Pt:=lG ps (e.1 :: ks)
theorem KG:∀ {ks:List aB} {d:aB} {p:Option aB},gJ d p ks=true→∀ k∈ks,good k=true
 | [],_,_,_,k,hk=>by simp at hk
 | x :: ks,d,p,h,k,hk=>by
   simp only[gJ,Bool.and_eq_true] at h
   rcases List.mem_cons.1 hk with rfl | hk
   ·exact h.1.1.1
   ·exact KG h.2 k hk
theorem yJ {e:mE} {ks:List aB} (h:dz e ks=true) : good e.1=true∧ks.length≤64∧(∀ k∈ks,good k=true)∧gJ e.1 none ks=true∧AL e=true:=by
 simp only[dz,Bool.and_eq_true,decide_eq_true_eq] at h
 exact⟨h.1.1.1.1,h.1.1.2,KG h.1.2,h.1.2,h.2⟩
theorem ZF (e:mE) : zP [(N .i64 0),(N .u64 0),(St []),(St []),(St [])] [(0,2,.agg (aP e.1)),(2,1,St e.2.2.1),(3,1,St e.2.2.2.1),(4,1,St e.2.2.2.2)]=some (aA.cells (je e)):=rfl
def PP (TS T:Nat) (c:au) : Prop:=∀ {M:RM} {t k:Nat} {B:Nat→Prop} {ps:List Pt} {es:List aC} {e:mE} {kv:AV} {ks:List aB} {Q:ai},qb TS T B M t ps es→SI k ps→k + 65≤4000→es.length≤50000→Sl dP M kv ks→t ∉ aD kv →
 (dz e ks=false→∀ M',ag [] M M'→Q (.tup [Bo false,N .i64 1]) M') →
 (dz e ks=true→∀ M',qb TS T (fun d=>B d∨M.next≤d) M' t (yc ps e ks) (jM ps es e ks)→ag [t] M M'→Q (.tup [Bo (!xK (yc ps e ks) ps || !decide (jM ps es e ks=es)),N .i64 0]) M')→c [.ptr t 0,.agg (fA e kv)] M Q
theorem Vz {TS T TE TD TN nc nd:Nat} {cG cC cA cH cL cS cD cW cQ:au} {cv:FuncId→au} (hG:xL cG) (hC:RP T cC) (hA:O8 T cA) (hH:Xy T cH) (hL:Ng TN cL) (hS:Mg (.fn (.func nc) [] []) fI TN cS)
  (hD:∀ b e kv ks,ks.length≤1000000→Jy TN (E5 TE b e kv ks) (fun x=>decide (x.1∈ks)) (.fn (.func nd) [] [.ptr b 0]) cD) (hW:Nt T cW) (hQ' : Nr cQ) :
  PP TS T fun args M Q=>∃ a0 a1,args=[a0,a1]∧wR TE cG cC TD cA cH TN cL cS nc nd cD cW cQ a0 a1 M Q:=by
 intro M0 t k B ps es e kv ks Q hst hsi hk hes TC htk hbad hok
 refine⟨_,_,rfl, ?_⟩
 unfold wR
 simp only[jd,gQ,fC,gp,bZ]
 rw[dL (Lr TC) (by simp),bz]
 have k0:ag [] M0 (M0.push (.row (fA e kv) false TE 0)):=(ag.refl _ _).push _
 have h0:(M0.push (.row (fA e kv) false TE 0)).heap M0.next=some (.row (fA e kv) false TE 0):=RM.aT _
 have hlt:M0.next<(M0.push (.row (fA e kv) false TE 0)).next:=by simp[RM.push]
 have hs:Sl dP (M0.push (.row (fA e kv) false TE 0)) kv ks:=aL.keep TC k0 (by simp)
 have hkl:∀ d∈aD kv,d<M0.next:=aL.lt TC
 have n0:=k0.next
 generalize M0.push (.row (fA e kv) false TE 0)=M at *
 generalize hb0:M0.next=b at *
 rw[eX (n:=7) h0 (by simp[EvE.len]; rfl)]
 refine hG hs fun M1 k1=>?_
 have k01:=k0.trans k1
 rw[bK]
 refine aH (fun hg=>?_) (fun hg=>?_)
 ·exact hbad (by simpa using hg) M1 k01
 have hge:dz e ks=true:=by simpa using hg
 obtain⟨hgd,hkl64,hkg,_,_⟩:=yJ hge
 have hok:=hok hge
 have n1:=k1.next
 obtain⟨s,v,r1,⟨S,r2,r2'⟩,r3,r4,r5⟩:=hst.row
 have htl:=hst.lt
 have e1:=k1.aR h0 hlt (by simp)
 have t1:=k01.aR r1 htl (by simp)
 have set1:=(r2.below).keep k01 (by simp) (by simp)
 have slt:=r2.lt
 rw[aM,bB,av t1 rfl]
 -- the set is copied
 refine hC set1 hsi (by omega) fun s' M2 hs' set2 k2=>?_
 have n2:=k2.next
 have hs'lt:=set2.lt
 have e2:=k2.aR e1 (by omega) (by simp)
 have k02:=k01.trans k2
 rw[bB,zZ e2,pM (x:=.agg (aP e.1)) (size:=2) rfl rfl rfl,bz]
 have k3:ag [] M2 (M2.push (.row (AV.agg (aP e.1)).cells false TD 0)):=(ag.refl _ _).push _
 have l3:(M2.push (.row (AV.agg (aP e.1)).cells false TD 0)).heap M2.next=some (.row (dP.row [e.1]) false TD 0):=by
  rw[RM.aT]; rfl
 have n3:M2.next<(M2.push (.row (AV.agg (aP e.1)).cells false TD 0)).next:=by simp[RM.push]
 have e3:=k3.aR e2 (by omega) (by simp)
 have RY:=set2.keep k3 (by simp) (by simp)
 have kv3:Sl dP (M2.push (.row (AV.agg (aP e.1)).cells false TD 0)) kv ks:=aL.keep TC (k02.trans k3) (by simp)
 have k03:=k02.trans k3
 generalize M2.push (.row (AV.agg (aP e.1)).cells false TD 0)=M3 at *
 generalize hb2:M2.next=b2 at *
 rw[bB,av e3 rfl]
 refine abY (E:=dP) (xs:=[e.1]) (by omega) l3 kv3 (by simp) (by decide) (by simp; omega) (by simp; omega) fun dv M4 hdv hdb k4=>?_
 have hds:(e.1 :: ks).length≤65:=by simp; omega
 have k34:ag [] M3 M4:=k4
 have n4:=k4.next
 have e4:=k4.aR e3 (by omega) (by simp)
 have aoU:=RY.keep k4 (by simp) (by simp)
 have k04:=k03.trans k4
 have hdv:Sl dP M4 dv (e.1 :: ks):=hdv
 have hdl:=aL.lt hdv
 have hdg:∀ d∈e.1 :: ks,good d=true:=fun d hd=>by
  rcases List.mem_cons.1 hd with rfl | hd
  ·exact hgd
  ·exact hkg d hd
 have aoj:s' ∉ aD dv:=fun hm=>by
  rcases hdb s' hm with h | h <;> omega
 generalize hds' : e.1 :: ks=ds at *
 rw[aL.len hdv]
 refine aJ (fun m ys M6=>∃ i:Nat,m=ds.length - i∧ys=[N .i64 (i:Int)]∧i≤ds.length∧ag [s'] M4 M6∧fV T (fun e=>s'<e) M6 s' (lG ps (ds.take i))) _ ⟨0,rfl,rfl,Nat.zero_le _,ag.refl _ _,aoU⟩ ?_
 rintro next m ys M6 hnext ⟨i,rfl,rfl,hi,k6,RO⟩
 dsimp only[aa]
 have an3:Sl dP M6 dv ds:=aL.keep hdv k6 (fun b hb hm=>by simp at hm; subst hm; exact aoj hb)
 have si6:SI (k + (ds.take i).length) (lG ps (ds.take i)):=zl hsi
 have hti:(ds.take i).length≤65:=by rw[List.length_take]; omega
 rw[eO]
 refine aH (fun Rj=>?_) (fun sQ=>?_)
 ·have Rj:i<ds.length:=of_decide_eq_true Rj
  rw[rV an3 Rj,bz,fD (n:=2) (x:=.agg (aP ds[i])) (l:=[N .i64 0,N .u64 0]) (RM.aT _) rfl rfl rfl]
  have k7:ag [] M6 ((M6.push (.row [N .i64 0,N .u64 0] false TD 0)).put M6.next (.row (AV.agg (aP ds[i])).cells false TD 0)):=((ag.refl _ _).push _).new _ (Nat.le_refl _)
  have hk7:((M6.push (.row [N .i64 0,N .u64 0] false TD 0)).put M6.next (.row (AV.agg (aP ds[i])).cells false TD 0)).heap M6.next=some (.row (aP ds[i]) false TD 0):=aU _
  generalize (M6.push (.row [N .i64 0,N .u64 0] false TD 0)).put M6.next (.row (AV.agg (aP ds[i])).cells false TD 0)=M7 at *
  rw[eX (n:=2) hk7 rfl]
  have apa:=RO.keep k7 (by simp) (by simp)
  have n7:=k7.next
  have s6:=RO.lt
  refine hA apa si6.wf fun M8 aoW k8=>?_
  have hgood:=OA (ps:=lG ps (ds.take i)) (d:=ds[i]) (fun p hp=>by have:=si6.few p hp; omega) (hdg _ (List.getElem_mem Rj))
  have h10:(jG (lG ps (ds.take i)) ds[i]).1=0:=by rw[hgood]
  rw[h10,jH,show((0:Int) != 0)=false from rfl,bG,add1 (by omega)]
  refine hnext _ _ _ (by omega) ⟨i + 1,rfl,rfl,by omega,(k6.trans (k7.mono (cs:=[s']) (by simp))).trans k8, ?_⟩
  rw[UA Rj]
  exact aoW.mono (fun d hd=>by rcases hd with hd | hd <;> omega) (by omega)
 have hie:i=ds.length:=by
  have:¬ i<ds.length:=of_decide_eq_false sQ
  omega
 subst hie
 rw[List.take_length] at RO si6
 clear hnext sQ
 have anX:lG ps ds=yc ps e ks:=by rw[← hds']; rfl
 rw[anX] at RO si6
 have si6:=si6.mono (l:=k + 65) (by omega)
 have n6:=k6.next
 have k06:ag [] M0 M6:=k04.dU k6 (fun d hd=>by simp at hd; omega)
 have e6:=k6.aR e4 (by omega) (by simp; omega)
 have t6:=k06.aR r1 htl (by simp)
 have v6:Sl aA M6 v es:=aL.keep r3 k06 (by simp)
 have aiI:=(r2.below).keep k06 (by simp) (by simp)
 have kv6:Sl dP M6 kv ks:=aL.keep TC k06 (by simp)
 rw[aM,aX,av (i:=0 + 1) t6 rfl]
 have alQ:=RO.below
 refine bA (fun zs M'=>∃ (w:AV) (es1:List aC),zs=[w]∧Sl aA M' w es1∧es1.length≤50001∧es1=(if decide (e.2.1=1) && !gF ps e.1 then oV fI (es++[je e]) else es)∧ag [] M6 M') ?_ ?_
 ·rintro zs M9 ⟨w,es1,rfl,hw,hwl,aoe,k9⟩
  dsimp only[aa]
  have n9:=k9.next
  refine hL hw (by omega) fun c M10 oc k10=>?_
  have n10:=k10.next
  have Md:=k9.trans k10
  have k010:=k06.trans Md
  have anp:E5 TE b e kv ks M10:=⟨by omega,Md.aR e6 (by omega) (by simp),aL.keep kv6 Md (by simp)⟩
  refine hD b e kv ks (by omega) anp (fun Ma Mb ks' hP kk hsub=>hP.keep kk (fun hm=>by have:=(oc.blk b (hsub b hm)).1; omega) (fun d hd hm=>by have:=hkl d hd; have:=(oc.blk d (hsub d hm)).1; omega)) oc (by omega) fun x M11 hx hxb k11=>?_
  have CL:ag [] M6 M11:=Md.dU k11 (fun d hd=>.inl (by have:=(oc.blk d hd).1; omega))
  have an7:=k06.trans CL
  have bU:=CL.aR t6 (by omega) (by simp)
  have adk:=alQ.keep CL (by simp) (by simp)
  have ams:=aiI.keep CL (by simp) (by simp)
  have v11:Sl aA M11 v es:=aL.keep v6 CL (by simp)
  rw[aM,bB,av bU rfl]
  refine hW adk ams (fun p hp=>by have:=si6.few p hp; omega) (fun q hq=>⟨(hsi.wf q hq).1,by have:=hsi.few q hq; omega⟩) fun M12 k12=>?_
  have hxl:(es1.filter fun x=>!decide (x.1∈ks)).length≤es1.length:=List.length_filter_le _ _
  have t12:=k12.aR bU (by have:=CL.next; omega) (by simp)
  have hfin:es1.filter (fun x=>!decide (x.1∈ks))=jM ps es e ks:=by rw[aoe]; rfl
  rw[hfin] at hx hxl
  rw[bK]
  refine yB (p:=!decide (jM ps es e ks=es)) (fun _ k hk=>?_) ?_
  ·rw[aM,aX,av (i:=0 + 1) t12 rfl]
   refine hQ' (aL.keep hx k12 (by simp)) (aL.keep v11 k12 (by simp)) (by omega) ?_
   rw[bK]
   exact hk
  have x12:Sl aA M12 x (jM ps es e ks):=aL.keep hx k12 (by simp)
  rw[aM,bB,fT t12 (by simp) rfl rfl,aM,aX]
  rw[fT (aU _) (by simp) (aL.cells x12) (aL.one x12)]
  have kk:ag [t] M12 ((M12.put t (.row ([AV.ptr s 0,v].set 0 (.ptr s' 0)) false TS 0)).put t (.row (([AV.ptr s 0,v].set 0 (.ptr s' 0)).set (0 + 1) x) false TS 0)):=((ag.refl _ _).put _ (.inr (by simp))).put _ (.inr (by simp))
  have hh:((M12.put t (.row ([AV.ptr s 0,v].set 0 (.ptr s' 0)) false TS 0)).put t (.row (([AV.ptr s 0,v].set 0 (.ptr s' 0)).set (0 + 1) x) false TS 0)).heap t=some (.row [.ptr s' 0,x] false TS 0):=aU _
  have hnx:((M12.put t (.row ([AV.ptr s 0,v].set 0 (.ptr s' 0)) false TS 0)).put t (.row (([AV.ptr s 0,v].set 0 (.ptr s' 0)).set (0 + 1) x) false TS 0)).next=M12.next:=rfl
  generalize (M12.put t (.row ([AV.ptr s 0,v].set 0 (.ptr s' 0)) false TS 0)).put t (.row (([AV.ptr s 0,v].set 0 (.ptr s' 0)).set (0 + 1) x) false TS 0)=M13 at *
  have n12:=k12.next
  have n611:=CL.next
  refine hok M13 ⟨by omega,⟨s',x,hh,⟨fun d=>s'<d∧d<M6.next,(adk.keep k12 (by simp) (by simp)).keep kk (by simp; omega) (fun d hd h=>by simp at hd; omega),fun d hd=>.inr (by omega)⟩,aL.keep x12 kk (fun d hd hm=>?_),.inr (by omega),fun d hd=>.inr (by have:=(oc.blk d (hxb d hd)).1; omega)⟩,fun hB=>?_⟩ ((an7.trans k12).mono (by simp) |>.trans kk)
  ·simp at hm
   subst hm
   have:=(oc.blk d (hxb d hd)).1
   omega
  ·rcases hB with hB | hB
   ·exact hst.nb hB
   ·omega
 intro J hJ
 have e2v:∀ {M' : RM},ag [] M6 M'→M'.heap b=some (.row (fA e kv) false TE 0):=fun k=>k.aR e6 (by omega) (by simp)
 have op1:((e.2.1:Int) == 1)=decide (e.2.1=1):=by by_cases h:e.2.1=1 <;> simp[h]
 rw[bB,av e6 rfl,cO,op1]
 refine A7 (P:=fun M'=>ag [] M6 M') (p:=!gF ps e.1) (ag.refl _ _) (fun _ k hk=>?_) fun M7 k7=>?_
 ·rw[aM,bB,av t6 rfl,bB,zZ e6]
  refine hH aiI (fun q hq=>⟨(hsi.wf q hq).1,by have:=hsi.few q hq; omega⟩) fun M7 k7=>?_
  rw[bK]
  exact hk M7 k7
 refine aH (fun hc=>?_) (fun hc=>?_)
 ·have e7:=e2v k7
  rw[bB,zZ e7,bB,av e7 rfl,bB,av e7 rfl,bB,av e7 rfl,rU]
  refine⟨_,ZF e, ?_⟩
  rw[pM (x:=.agg (aA.cells (je e))) (size:=5) rfl rfl rfl,rT]
  have k8:ag [] M7 (M7.push (.row (AV.agg (aA.cells (je e))).cells false TN 0)):=(ag.refl _ _).push _
  have h8:(M7.push (.row (AV.agg (aA.cells (je e))).cells false TN 0)).heap M7.next=some (.row (aA.cells (je e)) false TN 0):=RM.aT _
  have n8:M7.next<(M7.push (.row (AV.agg (aA.cells (je e))).cells false TN 0)).next:=by simp[RM.push]
  generalize M7.push (.row (AV.agg (aA.cells (je e))).cells false TN 0)=M8 at *
  generalize hb7:M7.next=b7 at *
  have k68:=k7.trans k8
  refine hL (aL.keep v6 k68 (by simp)) (by omega) fun c M9 oc k9=>?_
  have k69:=k68.trans k9
  have e9:=e2v k69
  have n9:=k9.next
  rw[zZ e9]
  refine⟨rfl, ?_⟩
  rw[av e9 rfl]
  refine⟨rfl, ?_⟩
  rw[av e9 rfl]
  refine⟨rfl, ?_⟩
  rw[av e9 rfl]
  refine⟨rfl, ?_⟩
  rw[pM (x:=.agg (aA.cells (je e))) (size:=5) rfl rfl rfl,WI]
  have h9:=k9.aR h8 n8 (by simp)
  refine⟨⟨h9,rfl⟩, ?_⟩
  have slx:Sl aA M9 (.slc b7 0 1 (.ex 1)) [je e]:=by
   refine .slc _ _ _ _ _ (by omega) ?_
   rw[RM.bW h9 (by rw[aA.len]; decide),List.drop_zero,Enc.row_one]
   have:(aA.cells (je e)).length=1 * aA.size:=by rw[aA.len,Nat.one_mul]
   rw[← this,List.take_length]
  refine Nc (E:=aA) oc n9 (by decide) slx (by simp; omega) (by simp; omega) fun c2 M10 oc2 k10 n10 _=>?_
  have Md:ag [] M6 M10:=k69.dU k10 (fun d hd=>.inl (by have:=(oc.blk d hd).1; have:=k68.next; omega))
  refine hS oc2 (by simp; omega) fun M11 oc3 k11=>?_
  have CL:ag [] M6 M11:=Md.dU k11 (fun d hd=>.inl (by have:=(oc2.blk d hd).1; have:=k68.next; omega))
  have hsl:(oV fI (es++[je e])).length=(es++[je e]).length:=(pq iI _).length_eq
  exact hJ _ _ ⟨c2,_,rfl,oc3.kU,by rw[hsl]; simp; omega,by rw[if_pos hc],CL⟩
 ·exact hJ _ _ ⟨v,es,rfl,aL.keep v6 k7 (by simp),by omega,by rw[if_neg (by rw[hc]; decide)],k7⟩
end Go.Ab.Crw
