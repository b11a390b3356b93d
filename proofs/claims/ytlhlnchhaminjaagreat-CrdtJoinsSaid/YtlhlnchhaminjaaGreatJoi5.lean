/- Part 5 of the ground of the proofs of this seat (texts Q2 to L3). By an AI agent. -/
import Derived.Test.YtlhlnchhaminjaaGreatJoi4
import Derived.KernelRfl
set_option maxRecDepth 10000
set_option linter.unusedVariables false
set_option linter.unusedSimpArgs false
namespace Go.Ab.aC
open Go Go.Ab
section
variable {body:(List AV→RM→Prop)→List AV→RM→Prop} {p:Nat→Bool} {d:Array Nat} {M:RM}
theorem KY {J i0:Nat} (h:∀ (next:List AV→RM→Prop) (i:Nat),i0≤i→i≤max (J + 1) i0→((decide (i≤J) && p d[i]!)=true→next [N .i64 ((i + 1:Nat) : Int)] M)→((decide (i≤J) && p d[i]!)=false→i=Sort.scanUp p d J i0)→body next [N .i64 (i:Int)] M) :
  aU body [N .i64 (i0:Int)] M:=by
 obtain ⟨R,hR⟩ : ∃ R,R=Sort.scanUp p d J i0:=⟨_,rfl⟩
 refine aJ (fun m ys M3=>∃ (i:Nat),m=J + 1 - i∧ys=[N .i64 (i:Int)]∧i0≤i∧i≤max (J + 1) i0∧M3=M∧R=Sort.scanUp p d J i) _ ⟨i0,rfl,rfl,Nat.le_refl _,by omega,rfl,hR⟩ ?_
 rintro next m ys M3 hnext ⟨i,rfl,rfl,h0,hi,rfl,hm⟩
 rw [Sort.scanUp] at hm
 refine h next i h0 hi (fun hc=>?_) (fun hc=>?_)
 ·rw [if_pos hc] at hm
  have hij:i≤J:=by
   rw [Bool.and_eq_true] at hc
   exact of_decide_eq_true hc.1
  exact hnext _ _ _ (by omega) ⟨i + 1,rfl,rfl,by omega,by omega,rfl,hm⟩
 ·rw [if_neg (by rw [hc]; decide)] at hm
  rw [← hR]; exact hm.symm
theorem Dc {i j0:Nat} (h1:1≤i) (h:∀ (next:List AV→RM→Prop) (j:Nat),j≤j0→(j=j0∨i≤j + 1)→((decide (i≤j) && p d[j]!)=true→next [N .i64 ((j - 1:Nat) : Int)] M)→((decide (i≤j) && p d[j]!)=false→j=Sort.scanDown p d i j0)→body next [N .i64 (j:Int)] M) :
  aU body [N .i64 (j0:Int)] M:=by
 obtain ⟨R,hR⟩ : ∃ R,R=Sort.scanDown p d i j0:=⟨_,rfl⟩
 refine aJ (fun m ys M3=>∃ (j:Nat),m=j + 1∧ys=[N .i64 (j:Int)]∧j≤j0∧(j=j0∨i≤j + 1)∧M3=M∧R=Sort.scanDown p d i j) _ ⟨j0,rfl,rfl,Nat.le_refl _,.inl rfl,rfl,hR⟩ ?_
 rintro next m ys M3 hnext ⟨j,rfl,rfl,h0,hi,rfl,hm⟩
 refine h next j h0 hi (fun hc=>?_) (fun hc=>?_)
 ·have hij:i≤j:=by
   rw [Bool.and_eq_true] at hc
   exact of_decide_eq_true hc.1
  obtain ⟨k,rfl⟩ : ∃ k,j=k + 1:=⟨j - 1,by omega⟩
  rw [Sort.scanDown,if_pos hc] at hm
  exact hnext _ _ _ (by omega) ⟨k,rfl,rfl,by omega,by omega,rfl,hm⟩
 ·rw [← hR]
  cases j with
  | zero=>exact hm.symm
  | succ k=>rw [Sort.scanDown,if_neg (by rw [hc]; decide)] at hm; exact hm.symm
end
theorem wo {d d' : Array Nat} {i j:Nat} (h:d'.size=d.size) : (Sort.swp d' i j).size=d.size:=by rw [eP,h]
def Kn (T:Nat) (c:av) : Prop:=∀ {M:RM} {b a e pv:Nat} {d:Array Nat} {Q:ai},b<M.next→d.size≤1000000→a≤pv→pv<e→e≤d.size→Q (N .i64 (((Sort.partitionEqual lN d a e pv).1:Nat) : Int)) (PM M b T (Sort.partitionEqual lN d a e pv).2) →
 c [vv b d.size,N .i64 (a:Int),N .i64 (e:Int),N .i64 (pv:Int)] (PM M b T d) Q
theorem andM {c p:Bool} {f:ai→Prop} {M:RM} {G:AV→RM→Prop} (hf:c=true→∀ k:ai,k (Bo p) M→f k) (hG:G (Bo (c && p)) M) :
  au (Bo c) true f (fun k=>k .undef M) (fun t M'=>aP (Bo c) t (Bo false) fun u=>G u M'):=by
 cases c with
 | false=>rw [bV]; dsimp only; rw [bU]; exact hG
 | true=>rw [bS]; exact hf rfl _ (by rw [dF]; exact hG)
theorem OL {c p:Bool} {f:KR→Prop} {M:RM} {G:AV→RM→Prop} (hf:c=true→∀ k:KR,k (Bo p) M none→f k) (hG:G (Bo (c && p)) M) :
  ae (Bo c) true f (fun k=>k .undef M none) (fun t M' b=>aP (Bo c) t (Bo false) fun u=>G u M'):=by
 cases c with
 | false=>rw [jL]; dsimp only; rw [bU]; exact hG
 | true=>rw [fe]; exact hf rfl _ (by rw [dF]; exact hG)
theorem PN {T:Nat} {cl:av} (hl:uz cl) : Kn T fun args M Q=>∃ a0 a1 a2 a3,args=[a0,a1,a2,a3]∧iU cl a0 a1 a2 a3 M Q:=by
 intro M b a e pv d Q hb hsz hap hpe he hQ
 refine ⟨_,_,_,_,rfl, ?_⟩
 unfold iU
 simp only [fF,dY,fH]
 rw [Sort.partitionEqual] at hQ
 rw [PM.rd rfl (by omega),PM.rd rfl (by omega),PM.swap rfl (by omega) (by omega),add1 (by omega),dm (by omega) (by omega)]
 obtain ⟨R,hR⟩ : ∃ R,R=Sort.partEqLoop lN a (a + 1) (e - 1) (Sort.swp d a pv):=⟨_,rfl⟩
 rw [← hR] at hQ
 refine aJ (fun m ys M3=>∃ (i j:Nat) (d3:Array Nat),m=j + 1 - i∧ys=[N .i64 (i:Int),N .i64 (j:Int)]∧a + 1≤i∧i≤e + 1∧j<e∧M3=PM M b T d3∧d3.size=d.size∧R=Sort.partEqLoop lN a i j d3) _ ⟨a + 1,e - 1,_,rfl,rfl,Nat.le_refl _,by omega,by omega,rfl,eP _ _ _,hR⟩ ?_
 rintro next m ys M3 hnext ⟨i,j,d3,rfl,rfl,hai,hie,hje,rfl,hs3,hm⟩
 dsimp only [aa]
 rw [Sort.partEqLoop] at hm
 refine KY (p:=fun x=>!lN d3[a]! x) (d:=d3) (J:=j) fun next2 i2 h0 h1 hgo hstop=>?_
 dsimp only [aa]
 rw [pO]
 refine OL (p:=!lN d3[a]! d3[i2]!) (fun hc k hk=>?_) ?_
 ·have hc:i2≤j:=of_decide_eq_true hc
  rw [PM.rd hs3.symm (by omega),PM.rd hs3.symm (by omega)]
  refine hl ?_
  rw [bO]
  exact hk
 refine aI (fun h=>?_) (fun h=>?_)
 ·rw [add1 (by omega)]
  exact hgo h
 have hi2:=hstop h
 rw [← hi2] at hm
 refine Dc (p:=fun x=>lN d3[a]! x) (d:=d3) (i:=i2) (by omega) fun next3 j2 q0 q1 hgo3 hstop3=>?_
 dsimp only [aa]
 rw [pO]
 refine andM (p:=lN d3[a]! d3[j2]!) (fun hc k hk=>?_) ?_
 ·have hc:i2≤j2:=of_decide_eq_true hc
  rw [PM.rd hs3.symm (by omega),PM.rd hs3.symm (by omega)]
  exact hl hk
 refine aI (fun h=>?_) (fun h=>?_)
 ·have hc:i2≤j2:=by
   rw [Bool.and_eq_true] at h
   exact of_decide_eq_true h.1
  rw [dm (by omega) (by omega)]
  exact hgo3 h
 have hj2:=hstop3 h
 simp only [← hj2] at hm
 rw [vB]
 refine aI (fun hg=>?_) (fun hg=>?_)
 ·rw [if_pos (of_decide_eq_true hg)] at hm
  rw [hm] at hQ
  exact hQ
 ·have hg:¬ i2 > j2:=of_decide_eq_false hg
  rw [if_neg hg,dif_pos (by omega)] at hm
  rw [PM.rd hs3.symm (by omega),PM.rd hs3.symm (by omega),PM.swap hs3.symm (by omega) (by omega),add1 (by omega),dm (by omega) (by omega)]
  exact hnext _ _ _ (by omega) ⟨i2 + 1,j2 - 1,_,rfl,rfl,by omega,by omega,by omega,rfl,wo hs3,hm⟩
def Tt (T:Nat) (c:av) : Prop:=∀ {M:RM} {b a e pv:Nat} {d:Array Nat} {Q:ai},b<M.next→d.size≤1000000→a≤pv→pv<e→e≤d.size→Q (.tup [N .i64 (((Sort.partition lN d a e pv).1:Nat) : Int),Bo (Sort.partition lN d a e pv).2.1]) (PM M b T (Sort.partition lN d a e pv).2.2) →
 c [vv b d.size,N .i64 (a:Int),N .i64 (e:Int),N .i64 (pv:Int)] (PM M b T d) Q
theorem Ec (d:Array Nat) (a e pv:Nat) : Sort.partition lN d a e pv =
  if Sort.scanUp (fun x=>lN x (Sort.swp d a pv)[a]!) (Sort.swp d a pv) (e - 1) (a + 1) > Sort.scanDown (fun x=>!lN x (Sort.swp d a pv)[a]!) (Sort.swp d a pv) (Sort.scanUp (fun x=>lN x (Sort.swp d a pv)[a]!) (Sort.swp d a pv) (e - 1) (a + 1)) (e - 1) then
   (Sort.scanDown (fun x=>!lN x (Sort.swp d a pv)[a]!) (Sort.swp d a pv) (Sort.scanUp (fun x=>lN x (Sort.swp d a pv)[a]!) (Sort.swp d a pv) (e - 1) (a + 1)) (e - 1),true,Sort.swp (Sort.swp d a pv) (Sort.scanDown (fun x=>!lN x (Sort.swp d a pv)[a]!) (Sort.swp d a pv) (Sort.scanUp (fun x=>lN x (Sort.swp d a pv)[a]!) (Sort.swp d a pv) (e - 1) (a + 1)) (e - 1)) a)
  else ((Sort.partLoop lN a (Sort.scanUp (fun x=>lN x (Sort.swp d a pv)[a]!) (Sort.swp d a pv) (e - 1) (a + 1) + 1) (Sort.scanDown (fun x=>!lN x (Sort.swp d a pv)[a]!) (Sort.swp d a pv) (Sort.scanUp (fun x=>lN x (Sort.swp d a pv)[a]!) (Sort.swp d a pv) (e - 1) (a + 1)) (e - 1) - 1) (Sort.swp (Sort.swp d a pv) (Sort.scanUp (fun x=>lN x (Sort.swp d a pv)[a]!) (Sort.swp d a pv) (e - 1) (a + 1)) (Sort.scanDown (fun x=>!lN x (Sort.swp d a pv)[a]!) (Sort.swp d a pv) (Sort.scanUp (fun x=>lN x (Sort.swp d a pv)[a]!) (Sort.swp d a pv) (e - 1) (a + 1)) (e - 1)))).1,false,
   Sort.swp (Sort.partLoop lN a (Sort.scanUp (fun x=>lN x (Sort.swp d a pv)[a]!) (Sort.swp d a pv) (e - 1) (a + 1) + 1) (Sort.scanDown (fun x=>!lN x (Sort.swp d a pv)[a]!) (Sort.swp d a pv) (Sort.scanUp (fun x=>lN x (Sort.swp d a pv)[a]!) (Sort.swp d a pv) (e - 1) (a + 1)) (e - 1) - 1) (Sort.swp (Sort.swp d a pv) (Sort.scanUp (fun x=>lN x (Sort.swp d a pv)[a]!) (Sort.swp d a pv) (e - 1) (a + 1)) (Sort.scanDown (fun x=>!lN x (Sort.swp d a pv)[a]!) (Sort.swp d a pv) (Sort.scanUp (fun x=>lN x (Sort.swp d a pv)[a]!) (Sort.swp d a pv) (e - 1) (a + 1)) (e - 1)))).2
    (Sort.partLoop lN a (Sort.scanUp (fun x=>lN x (Sort.swp d a pv)[a]!) (Sort.swp d a pv) (e - 1) (a + 1) + 1) (Sort.scanDown (fun x=>!lN x (Sort.swp d a pv)[a]!) (Sort.swp d a pv) (Sort.scanUp (fun x=>lN x (Sort.swp d a pv)[a]!) (Sort.swp d a pv) (e - 1) (a + 1)) (e - 1) - 1) (Sort.swp (Sort.swp d a pv) (Sort.scanUp (fun x=>lN x (Sort.swp d a pv)[a]!) (Sort.swp d a pv) (e - 1) (a + 1)) (Sort.scanDown (fun x=>!lN x (Sort.swp d a pv)[a]!) (Sort.swp d a pv) (Sort.scanUp (fun x=>lN x (Sort.swp d a pv)[a]!) (Sort.swp d a pv) (e - 1) (a + 1)) (e - 1)))).1 a):=rfl
theorem UK {T:Nat} {cl:av} (hl:uz cl) : Tt T fun args M Q=>∃ a0 a1 a2 a3,args=[a0,a1,a2,a3]∧j5 cl a0 a1 a2 a3 M Q:=by
 intro M b a e pv d Q hb hsz hap hpe he hQ
 refine ⟨_,_,_,_,rfl, ?_⟩
 unfold j5
 simp only [fF,dY,fH]
 have hs2:=eP d a pv
 rw [Ec] at hQ
 rw [PM.rd rfl (by omega),PM.rd rfl (by omega),PM.swap rfl (by omega) (by omega),add1 (by omega),dm (by omega) (by omega)]
 generalize Sort.swp d a pv=d2 at *
 refine KY (p:=fun x=>lN x d2[a]!) (d:=d2) (J:=e - 1) fun next2 i h0 h1 hgo hstop=>?_
 dsimp only [aa]
 rw [pO]
 refine andM (p:=lN d2[i]! d2[a]!) (fun hc k hk=>?_) ?_
 ·have hc:i≤e - 1:=of_decide_eq_true hc
  rw [PM.rd hs2.symm (by omega),PM.rd hs2.symm (by omega)]
  exact hl hk
 refine aI (fun h=>?_) (fun h=>?_)
 ·rw [add1 (by omega)]
  exact hgo h
 have hi2:=hstop h
 simp only [← hi2] at hQ
 refine Dc (p:=fun x=>!lN x d2[a]!) (d:=d2) (i:=i) (by omega) fun next3 j q0 q1 hgo3 hstop3=>?_
 dsimp only [aa]
 rw [pO]
 refine OL (p:=!lN d2[j]! d2[a]!) (fun hc k hk=>?_) ?_
 ·have hc:i≤j:=of_decide_eq_true hc
  rw [PM.rd hs2.symm (by omega),PM.rd hs2.symm (by omega)]
  refine hl ?_
  rw [bO]
  exact hk
 refine aI (fun h=>?_) (fun h=>?_)
 ·have hc:i≤j:=by
   rw [Bool.and_eq_true] at h
   exact of_decide_eq_true h.1
  rw [dm (by omega) (by omega)]
  exact hgo3 h
 have hj2:=hstop3 h
 simp only [← hj2] at hQ
 rw [vB]
 refine aI (fun hg=>?_) (fun hg=>?_)
 ·rw [if_pos (of_decide_eq_true hg)] at hQ
  rw [PM.rd hs2.symm (by omega),PM.rd hs2.symm (by omega),PM.swap hs2.symm (by omega) (by omega)]
  exact hQ
 have hg:¬ i > j:=of_decide_eq_false hg
 rw [if_neg hg] at hQ
 rw [PM.rd hs2.symm (by omega),PM.rd hs2.symm (by omega),PM.swap hs2.symm (by omega) (by omega),add1 (by omega),dm (by omega) (by omega)]
 obtain ⟨R,hR⟩ : ∃ R,R=Sort.partLoop lN a (i + 1) (j - 1) (Sort.swp d2 i j):=⟨_,rfl⟩
 simp only [← hR] at hQ
 refine aJ (fun m ys M3=>∃ (i j:Nat) (d3:Array Nat),m=j + 1 - i∧ys=[N .i64 (i:Int),N .i64 (j:Int)]∧a + 1≤i∧i≤e + 1∧j<e∧M3=PM M b T d3∧d3.size=d.size∧R=Sort.partLoop lN a i j d3) _ ⟨i + 1,j - 1,_,rfl,rfl,by omega,by omega,by omega,rfl,wo hs2,hR⟩ ?_
 rintro next m ys M3 hnext ⟨i,j,d3,rfl,rfl,hai,hie,hje,rfl,hs3,hm⟩
 dsimp only [aa]
 rw [Sort.partLoop] at hm
 refine KY (p:=fun x=>lN x d3[a]!) (d:=d3) (J:=j) fun next2 i2 h0 h1 hgo hstop=>?_
 dsimp only [aa]
 rw [pO]
 refine andM (p:=lN d3[i2]! d3[a]!) (fun hc k hk=>?_) ?_
 ·have hc:i2≤j:=of_decide_eq_true hc
  rw [PM.rd hs3.symm (by omega),PM.rd hs3.symm (by omega)]
  exact hl hk
 refine aI (fun h=>?_) (fun h=>?_)
 ·rw [add1 (by omega)]
  exact hgo h
 have hi2:=hstop h
 rw [← hi2] at hm
 refine Dc (p:=fun x=>!lN x d3[a]!) (d:=d3) (i:=i2) (by omega) fun next3 j2 q0 q1 hgo3 hstop3=>?_
 dsimp only [aa]
 rw [pO]
 refine OL (p:=!lN d3[j2]! d3[a]!) (fun hc k hk=>?_) ?_
 ·have hc:i2≤j2:=of_decide_eq_true hc
  rw [PM.rd hs3.symm (by omega),PM.rd hs3.symm (by omega)]
  refine hl ?_
  rw [bO]
  exact hk
 refine aI (fun h=>?_) (fun h=>?_)
 ·have hc:i2≤j2:=by
   rw [Bool.and_eq_true] at h
   exact of_decide_eq_true h.1
  rw [dm (by omega) (by omega)]
  exact hgo3 h
 have hj2:=hstop3 h
 simp only [← hj2] at hm
 rw [vB]
 refine aI (fun hg=>?_) (fun hg=>?_)
 ·rw [if_pos (of_decide_eq_true hg)] at hm
  rw [hm] at hQ
  rw [PM.rd hs3.symm (by omega),PM.rd hs3.symm (by omega),PM.swap hs3.symm (by omega) (by omega)]
  exact hQ
 ·have hg:¬ i2 > j2:=of_decide_eq_false hg
  rw [if_neg hg,dif_pos (by omega)] at hm
  rw [PM.rd hs3.symm (by omega),PM.rd hs3.symm (by omega),PM.swap hs3.symm (by omega) (by omega),add1 (by omega),dm (by omega) (by omega)]
  exact hnext _ _ _ (by omega) ⟨i2 + 1,j2 - 1,_,rfl,rfl,by omega,by omega,by omega,rfl,wo hs3,hm⟩
end Go.Ab.aC
set_option maxRecDepth 10000
set_option linter.unusedVariables false
set_option linter.unusedSimpArgs false
namespace Go.Ab.aC
open Go Go.Ab
def Up (xs:List Nat) : Prop:=∀ i j (hi:i<xs.length) (hj:j<xs.length),i≤j→xs[i]≤xs[j]
theorem Asc.up {xs:List Nat} (h:Asc xs) : Up xs:=fun i j hi hj hij=>by
 rcases Nat.lt_or_ge i j with h1 | h1
 ·exact Nat.le_of_lt (h.lt h1 hj)
 ·have:i=j:=by omega
  subst this; exact Nat.le_refl _
theorem Own.u64 {M:RM} {base T:Nat} {v:AV} {xs:List Nat} (h:Ow aS M base T v xs) : Sl aS M v xs:=h.eu
theorem qM (a b:Nat) : (a:Int).tdiv (b:Int)=((a / b:Nat) : Int):=by
 rw [Int.tdiv_eq_ediv_of_nonneg (by omega)]; rfl
end Go.Ab.aC
set_option maxRecDepth 10000
set_option linter.unusedVariables false
set_option linter.unusedSimpArgs false
namespace Go.Ab.aC
open Go Go.Ab
def SM (M:RM) (s T k:Nat) : RM:=M.put s (.row [N .i64 (k:Int)] false T 0)
theorem SM.put {M:RM} {s T k k' : Nat} : (SM M s T k).put s (.row [N .i64 (k' : Int)] false T 0)=SM M s T k':=by
 unfold SM RM.put
 congr 1
 funext c
 simp only
 by_cases h:c=s <;> simp [h]
theorem SM.new {M:RM} {T:Nat} : M.push (.row [N .i64 0] false T 0)=SM (M.push (.row [N .i64 0] false T 0)) M.next T 0:=by
 unfold SM RM.put RM.push
 congr 1
 funext c
 simp only
 by_cases h:c=M.next <;> simp [h]
def Jw (T TI:Nat) (c:av) : Prop:=∀ {M:RM} {b s k i j:Nat} {d:Array Nat} {Q:ai},s≠b→i<d.size→j<d.size→k≤1000 →
 Q (.tup [N .i64 (((Sort.order2 lN d i j k).1:Nat) : Int),N .i64 (((Sort.order2 lN d i j k).2.1:Nat) : Int)]) (PM (SM M s TI (Sort.order2 lN d i j k).2.2) b T d)→c [vv b d.size,N .i64 (i:Int),N .i64 (j:Int),.ptr s 0] (PM (SM M s TI k) b T d) Q
theorem Pq {T TI:Nat} {cl:av} (hl:uz cl) : Jw T TI fun args M Q=>∃ a0 a1 a2 a3,args=[a0,a1,a2,a3]∧lT cl a0 a1 a2 a3 M Q:=by
 intro M b s k i j d Q hsb hi hj hk hQ
 refine ⟨_,_,_,_,rfl, ?_⟩
 unfold lT
 rw [PM.rd rfl (by omega),PM.rd rfl (by omega)]
 refine hl ?_
 unfold Sort.order2 at hQ
 refine aI (fun h=>?_) (fun h=>?_)
 ·rw [if_pos (by exact h)] at hQ
  have hh:(PM (SM M s TI k) b T d).heap s=some (.row [N .i64 (k:Int)] false TI 0):=by
   rw [PM.I9 hsb]; exact RM.uo _ _
  rw [aK,ak hh rfl,add1 (by omega),aK,fq hh (by simp) rfl rfl]
  rw [PM.Sq hsb]
  rw [show ([N .i64 (k:Int)] : List AV).set 0 (N .i64 ((k + 1:Nat) : Int))=[N .i64 ((k + 1:Nat) : Int)] from rfl,SM.put]
  exact hQ
 ·rw [if_neg (by rw [show lN d[j]! d[i]! = false from h]; decide)] at hQ
  exact hQ
theorem uW (d:Array Nat) (i j k:Nat) : (((Sort.order2 lN d i j k).1=i∧(Sort.order2 lN d i j k).2.1=j)∨((Sort.order2 lN d i j k).1=j∧(Sort.order2 lN d i j k).2.1=i))∧k≤(Sort.order2 lN d i j k).2.2∧(Sort.order2 lN d i j k).2.2≤k + 1:=by
 unfold Sort.order2
 split <;> simp
def EW (T TI:Nat) (c:av) : Prop:=∀ {M:RM} {b s k i j h:Nat} {d:Array Nat} {Q:ai},s≠b→i<d.size→j<d.size→h<d.size→k≤900 →
 Q (N .i64 (((Sort.median lN d i j h k).1:Nat) : Int)) (PM (SM M s TI (Sort.median lN d i j h k).2) b T d)→c [vv b d.size,N .i64 (i:Int),N .i64 (j:Int),N .i64 (h:Int),.ptr s 0] (PM (SM M s TI k) b T d) Q
theorem NB {T TI:Nat} {c2:av} (h2:Jw T TI c2) : EW T TI fun args M Q=>∃ a0 a1 a2 a3 a4,args=[a0,a1,a2,a3,a4]∧lU c2 a0 a1 a2 a3 a4 M Q:=by
 intro M b s k i j h d Q hsb hi hj hh hk hQ
 refine ⟨_,_,_,_,_,rfl, ?_⟩
 unfold lU
 unfold Sort.median at hQ
 have o1:=uW d i j k
 refine h2 hsb hi hj (by omega) ?_
 rw [oZ,pF]
 dsimp only at hQ
 generalize Sort.order2 lN d i j k=r1 at *
 have o2:=uW d r1.2.1 h r1.2.2
 refine h2 hsb (by omega) hh (by omega) ?_
 rw [oZ,pF]
 generalize Sort.order2 lN d r1.2.1 h r1.2.2=r2 at *
 refine h2 hsb (by omega) (by omega) (by omega) ?_
 rw [oZ,pF]
 exact hQ
theorem Dl (d:Array Nat) {i j h k n:Nat} (hi:i<n) (hj:j<n) (hh:h<n) : (Sort.median lN d i j h k).1<n∧(Sort.median lN d i j h k).2≤k + 3:=by
 unfold Sort.median
 dsimp only
 have o1:=uW d i j k
 generalize Sort.order2 lN d i j k=r1 at *
 have o2:=uW d r1.2.1 h r1.2.2
 generalize Sort.order2 lN d r1.2.1 h r1.2.2=r2 at *
 have o3:=uW d r1.1 r2.1 r2.2.2
 omega
def Kl (T TI:Nat) (c:av) : Prop:=∀ {M:RM} {b s k i:Nat} {d:Array Nat} {Q:ai},s≠b→d.size≤1000000→1≤i→i + 1<d.size→k≤900 →
 Q (N .i64 (((Sort.medianAdjacent lN d i k).1:Nat) : Int)) (PM (SM M s TI (Sort.medianAdjacent lN d i k).2) b T d)→c [vv b d.size,N .i64 (i:Int),.ptr s 0] (PM (SM M s TI k) b T d) Q
theorem Ni {T TI:Nat} {cm:av} (hm:EW T TI cm) : Kl T TI fun args M Q=>∃ a0 a1 a2,args=[a0,a1,a2]∧iP cm a0 a1 a2 M Q:=by
 intro M b s k i d Q hsb hsz h1 h2 hk hQ
 refine ⟨_,_,_,rfl, ?_⟩
 unfold iP
 rw [dm (by omega) (by omega),add1 (by omega)]
 exact hm hsb (by omega) (by omega) (by omega) hk hQ
def qy:Sort.Hint→Int
 | .unknown=>0
 | .increasing=>1
 | .decreasing=>2
def Jv (T:Nat) (c:av) : Prop:=∀ {M:RM} {b a e:Nat} {d:Array Nat} {Q:ai},b<M.next→d.size≤1000000→a<e→e≤d.size →
 (∀ M',ah [] M M'→Q (.tup [N .i64 (((Sort.choosePivot lN d a e).1:Nat) : Int),N .i64 (qy (Sort.choosePivot lN d a e).2)]) (PM M' b T d))→c [vv b d.size,N .i64 (a:Int),N .i64 (e:Int)] (PM M b T d) Q
theorem Og {T TI:Nat} {ca cm:av} (ha:Kl T TI ca) (hm:EW T TI cm) : Jv T fun args M Q=>∃ a0 a1 a2,args=[a0,a1,a2]∧jG TI ca cm a0 a1 a2 M Q:=by
 intro M b a e d Q hb hsz hae he hQ
 refine ⟨_,_,_,rfl, ?_⟩
 unfold jG
 simp only [cZ]
 rw [gK (by omega) (by omega),aX,PM.push hb]
 have hnx:(PM M b T d).next=M.next:=rfl
 rw [hnx]
 have kk:ah [] M (M.push (.row [N .i64 0] false TI 0)):=(ah.refl _ _).push _
 have kS:∀ k,ah [] M (SM (M.push (.row [N .i64 0] false TI 0)) M.next TI k):=fun k=>kk.new _ (Nat.le_refl _)
 rw [show PM (M.push (.row [N .i64 0] false TI 0)) b T d=PM (SM (M.push (.row [N .i64 0] false TI 0)) M.next TI 0) b T d by rw [← SM.new]]
 generalize M.push (.row [N .i64 0] false TI 0)=M1 at *
 have hsb:M.next≠b:=by omega
 generalize M.next=s at *
 have hq:∀ (k:Nat) (c:Int),c=(k:Int)→k≤3→∀ (K:AV→Prop),(af .quo (N .i64 ((e - a:Nat) : Int)) (N .i64 4) fun t18=>af .mul t18 (N .i64 c) fun t19=>af .add (N .i64 (a:Int)) t19 K)=K (N .i64 ((a + (e - a) / 4 * k:Nat) : Int)):=fun k c hc hk K=>by
  subst hc
  have hb:(e - a) / 4 * k≤(e - a) * 3:=Nat.mul_le_mul (Nat.div_le_self _ _) hk
  rw [nz,show (4:Int)=((4:Nat) : Int) from rfl,qM,bD (by omega) (by omega),xA,← Int.natCast_mul,bD (by omega) (by omega),addN (by omega)]
  exact propext ⟨fun h=>h.2,fun h=>⟨by decide,h⟩⟩
 rw [hq 1 1 rfl (by omega),hq 2 2 rfl (by omega),hq 3 3 rfl (by omega)]
 have hcp:Sort.choosePivot lN d a e=((if e - a ≥ 8 then (if e - a ≥ 50 then Sort.median lN d (Sort.medianAdjacent lN d (a + (e - a) / 4 * 1) 0).1 (Sort.medianAdjacent lN d (a + (e - a) / 4 * 2) (Sort.medianAdjacent lN d (a + (e - a) / 4 * 1) 0).2).1 (Sort.medianAdjacent lN d (a + (e - a) / 4 * 3) (Sort.medianAdjacent lN d (a + (e - a) / 4 * 2) (Sort.medianAdjacent lN d (a + (e - a) / 4 * 1) 0).2).2).1 (Sort.medianAdjacent lN d (a + (e - a) / 4 * 3) (Sort.medianAdjacent lN d (a + (e - a) / 4 * 2) (Sort.medianAdjacent lN d (a + (e - a) / 4 * 1) 0).2).2).2
   else Sort.median lN d (a + (e - a) / 4 * 1) (a + (e - a) / 4 * 2) (a + (e - a) / 4 * 3) 0) else (a + (e - a) / 4 * 2,0) : Nat × Nat).1,
   if (if e - a ≥ 8 then (if e - a ≥ 50 then Sort.median lN d (Sort.medianAdjacent lN d (a + (e - a) / 4 * 1) 0).1 (Sort.medianAdjacent lN d (a + (e - a) / 4 * 2) (Sort.medianAdjacent lN d (a + (e - a) / 4 * 1) 0).2).1 (Sort.medianAdjacent lN d (a + (e - a) / 4 * 3) (Sort.medianAdjacent lN d (a + (e - a) / 4 * 2) (Sort.medianAdjacent lN d (a + (e - a) / 4 * 1) 0).2).2).1 (Sort.medianAdjacent lN d (a + (e - a) / 4 * 3) (Sort.medianAdjacent lN d (a + (e - a) / 4 * 2) (Sort.medianAdjacent lN d (a + (e - a) / 4 * 1) 0).2).2).2
   else Sort.median lN d (a + (e - a) / 4 * 1) (a + (e - a) / 4 * 2) (a + (e - a) / 4 * 3) 0) else (a + (e - a) / 4 * 2,0) : Nat × Nat).2=0 then .increasing else if (if e - a ≥ 8 then (if e - a ≥ 50 then Sort.median lN d (Sort.medianAdjacent lN d (a + (e - a) / 4 * 1) 0).1 (Sort.medianAdjacent lN d (a + (e - a) / 4 * 2) (Sort.medianAdjacent lN d (a + (e - a) / 4 * 1) 0).2).1 (Sort.medianAdjacent lN d (a + (e - a) / 4 * 3) (Sort.medianAdjacent lN d (a + (e - a) / 4 * 2) (Sort.medianAdjacent lN d (a + (e - a) / 4 * 1) 0).2).2).1 (Sort.medianAdjacent lN d (a + (e - a) / 4 * 3) (Sort.medianAdjacent lN d (a + (e - a) / 4 * 2) (Sort.medianAdjacent lN d (a + (e - a) / 4 * 1) 0).2).2).2
   else Sort.median lN d (a + (e - a) / 4 * 1) (a + (e - a) / 4 * 2) (a + (e - a) / 4 * 3) 0) else (a + (e - a) / 4 * 2,0) : Nat × Nat).2=12 then .decreasing else .unknown):=rfl
 rw [hcp] at hQ
 generalize hr:(if e - a ≥ 8 then (if e - a ≥ 50 then Sort.median lN d (Sort.medianAdjacent lN d (a + (e - a) / 4 * 1) 0).1 (Sort.medianAdjacent lN d (a + (e - a) / 4 * 2) (Sort.medianAdjacent lN d (a + (e - a) / 4 * 1) 0).2).1 (Sort.medianAdjacent lN d (a + (e - a) / 4 * 3) (Sort.medianAdjacent lN d (a + (e - a) / 4 * 2) (Sort.medianAdjacent lN d (a + (e - a) / 4 * 1) 0).2).2).1 (Sort.medianAdjacent lN d (a + (e - a) / 4 * 3) (Sort.medianAdjacent lN d (a + (e - a) / 4 * 2) (Sort.medianAdjacent lN d (a + (e - a) / 4 * 1) 0).2).2).2
   else Sort.median lN d (a + (e - a) / 4 * 1) (a + (e - a) / 4 * 2) (a + (e - a) / 4 * 3) 0) else (a + (e - a) / 4 * 2,0) : Nat × Nat)=r at hQ
 refine bn (fun zs M'=>zs=[N .i64 ((r.1:Nat) : Int)]∧M'=PM (SM M1 s TI r.2) b T d) ?_ ?_
 ·rintro zs M' ⟨rfl,rfl⟩
  dsimp only [aa]
  have hh:(PM (SM M1 s TI r.2) b T d).heap s=some (.row [N .i64 (r.2:Int)] false TI 0):=by
   rw [PM.I9 hsb]; exact RM.uo _ _
  have:=hQ _ (kS r.2)
  rw [ak hh rfl,di]
  by_cases h0:r.2=0
  ·rw [show ((r.2:Int) == 0)=true by rw [h0]; rfl,dP]
   rw [if_pos h0] at this
   exact this
  ·rw [show ((r.2:Int) == 0)=false by rw [beq_eq_false_iff_ne]; omega,bK,di]
   rw [if_neg h0] at this
   by_cases h12:r.2=12
   ·rw [show ((r.2:Int) == 12)=true by rw [h12]; rfl,dP]
    rw [if_pos h12] at this
    exact this
   ·rw [show ((r.2:Int) == 12)=false by rw [beq_eq_false_iff_ne]; omega,bK]
    rw [if_neg h12] at this
    exact this
 intro J hJ
 rw [show (8:Int)=((8:Nat) : Int) from rfl,mP]
 refine aI (fun h8=>?_) (fun h8=>?_)
 ·have h8:e - a ≥ 8:=of_decide_eq_true h8
  rw [if_pos h8] at hr
  refine bn (fun zs M'=>∃ x y z k:Nat,zs=[N .i64 (x:Int),N .i64 (y:Int),N .i64 (z:Int)]∧M'=PM (SM M1 s TI k) b T d∧x<d.size∧y<d.size∧z<d.size∧k≤900∧Sort.median lN d x y z k=r) ?_ ?_
  ·rintro zs M' ⟨x,y,z,k,rfl,rfl,hx,hy,hz,hk,he⟩
   dsimp only [aa]
   refine hm hsb hx hy hz hk ?_
   rw [he]
   exact hJ _ _ ⟨rfl,rfl⟩
  intro J0 hJ0
  rw [show (50:Int)=((50:Nat) : Int) from rfl,mP]
  refine aI (fun h50=>?_) (fun h50=>?_)
  ·have h50:e - a ≥ 50:=of_decide_eq_true h50
   rw [if_pos h50] at hr
   have m1:=Dl d (i:=a + (e - a) / 4 * 1 - 1) (j:=a + (e - a) / 4 * 1) (h:=a + (e - a) / 4 * 1 + 1) (k:=0) (n:=d.size) (by omega) (by omega) (by omega)
   have r1:(Sort.medianAdjacent lN d (a + (e - a) / 4 * 1) 0).1<d.size∧(Sort.medianAdjacent lN d (a + (e - a) / 4 * 1) 0).2≤0 + 3:=m1
   refine ha hsb hsz (by omega) (by omega) (by omega) ?_
   generalize Sort.medianAdjacent lN d (a + (e - a) / 4 * 1) 0=q1 at *
   have m2:=Dl d (i:=a + (e - a) / 4 * 2 - 1) (j:=a + (e - a) / 4 * 2) (h:=a + (e - a) / 4 * 2 + 1) (k:=q1.2) (n:=d.size) (by omega) (by omega) (by omega)
   have r2:(Sort.medianAdjacent lN d (a + (e - a) / 4 * 2) q1.2).1<d.size∧(Sort.medianAdjacent lN d (a + (e - a) / 4 * 2) q1.2).2≤q1.2 + 3:=m2
   refine ha hsb hsz (by omega) (by omega) (by omega) ?_
   generalize Sort.medianAdjacent lN d (a + (e - a) / 4 * 2) q1.2=q2 at *
   have m3:=Dl d (i:=a + (e - a) / 4 * 3 - 1) (j:=a + (e - a) / 4 * 3) (h:=a + (e - a) / 4 * 3 + 1) (k:=q2.2) (n:=d.size) (by omega) (by omega) (by omega)
   have r3:(Sort.medianAdjacent lN d (a + (e - a) / 4 * 3) q2.2).1<d.size∧(Sort.medianAdjacent lN d (a + (e - a) / 4 * 3) q2.2).2≤q2.2 + 3:=m3
   refine ha hsb hsz (by omega) (by omega) (by omega) ?_
   generalize Sort.medianAdjacent lN d (a + (e - a) / 4 * 3) q2.2=q3 at *
   exact hJ0 _ _ ⟨q1.1,q2.1,q3.1,q3.2,rfl,rfl,r1.1,r2.1,r3.1,by omega,hr⟩
  ·have h50:¬ e - a ≥ 50:=of_decide_eq_false h50
   rw [if_neg h50] at hr
   exact hJ0 _ _ ⟨_,_,_,0,rfl,rfl,by omega,by omega,by omega,by omega,hr⟩
 ·have h8:¬ e - a ≥ 8:=of_decide_eq_false h8
  rw [if_neg h8] at hr
  subst hr
  exact hJ _ _ ⟨rfl,rfl⟩
theorem wJ:∀ (j:Nat) (d:Array Nat),(Sort.shiftDown lN j d).size=d.size
 | 0,d=>rfl
 | j + 1,d=>by
   rw [Sort.shiftDown]
   split
   ·rfl
   ·rw [wJ j,eP]
theorem AO (e:Nat) : ∀ (k j:Nat) (d:Array Nat),e - j≤k→(Sort.shiftUp lN e j d).size=d.size
 | 0,j,d,h=>by rw [Sort.shiftUp,if_neg (by omega)]
 | k + 1,j,d,h=>by
   rw [Sort.shiftUp]
   split
   ·split
    ·rfl
    ·rw [AO e k _ _ (by omega),eP]
   ·rfl
def Gp (T:Nat) (c:av) : Prop:=∀ {M:RM} {b a e:Nat} {d:Array Nat} {Q:ai},b<M.next→d.size≤1000000→a<e→e≤d.size→Q (Bo (Sort.partialInsertionSort lN d a e).2) (PM M b T (Sort.partialInsertionSort lN d a e).1) →
 c [vv b d.size,N .i64 (a:Int),N .i64 (e:Int)] (PM M b T d) Q
theorem Cg (a b s i:Nat) (d:Array Nat) : Sort.partialIns lN a b (s + 1) i d =
  if Sort.scanSorted lN d b i=b then (d,true) else if b - a<50 then (d,false) else
   Sort.partialIns lN a b s (Sort.scanSorted lN d b i) (if b - Sort.scanSorted lN d b i ≥ 2 then Sort.shiftUp lN b (Sort.scanSorted lN d b i + 1) (if Sort.scanSorted lN d b i - a ≥ 2 then Sort.shiftDown lN (Sort.scanSorted lN d b i - 1) (Sort.swp d (Sort.scanSorted lN d b i) (Sort.scanSorted lN d b i - 1)) else Sort.swp d (Sort.scanSorted lN d b i) (Sort.scanSorted lN d b i - 1))
    else (if Sort.scanSorted lN d b i - a ≥ 2 then Sort.shiftDown lN (Sort.scanSorted lN d b i - 1) (Sort.swp d (Sort.scanSorted lN d b i) (Sort.scanSorted lN d b i - 1)) else Sort.swp d (Sort.scanSorted lN d b i) (Sort.scanSorted lN d b i - 1))):=rfl
theorem L8 {T:Nat} {cl:av} (hl:uz cl) : Gp T fun args M Q=>∃ a0 a1 a2,args=[a0,a1,a2]∧gF cl a0 a1 a2 M Q:=by
 intro M b a e d Q hb hsz hae he hQ
 refine ⟨_,_,_,rfl, ?_⟩
 unfold gF
 simp only [fF,dY,fH,cZ]
 rw [add1 (by omega)]
 unfold Sort.partialInsertionSort at hQ
 obtain ⟨R,hR⟩ : ∃ R,R=Sort.partialIns lN a e 5 (a + 1) d:=⟨_,rfl⟩
 rw [← hR] at hQ
 refine aJ (fun m ys M3=>∃ (i s:Nat) (d3:Array Nat),m=s∧s≤5∧ys=[N .i64 (i:Int),N .i64 ((5 - s:Nat) : Int)]∧a + 1≤i∧i≤e∧M3=PM M b T d3∧d3.size=d.size∧R=Sort.partialIns lN a e s i d3) _ ⟨a + 1,5,d,rfl,by omega,rfl,by omega,by omega,rfl,rfl,hR⟩ ?_
 rintro next m ys M3 hnext ⟨i,s,d3,hms,hs5,rfl,hai,hie,rfl,hs3,hm⟩
 dsimp only [aa]
 rw [show (5:Int)=((5:Nat) : Int) from rfl,dX]
 refine aI (fun hg=>?_) (fun hg=>?_)
 ·have hg:5 - s<5:=of_decide_eq_true hg
  obtain ⟨s',rfl⟩ : ∃ s',s=s' + 1:=⟨s - 1,by omega⟩
  rw [Cg] at hm
  refine bn (fun zs M'=>∃ (i' : Nat) (d4:Array Nat),zs=[N .i64 (i' : Int)]∧a + 1≤i'∧i'≤e∧M'=PM M b T d4∧d4.size=d.size∧R=Sort.partialIns lN a e s' i' d4) ?_ ?_
  ·rintro zs M' ⟨i',d4,rfl,h1,h2,rfl,h3,h4⟩
   dsimp only [aa]
   rw [add1 (by omega)]
   exact hnext _ _ _ (by omega) ⟨i',s',d4,rfl,by omega,by congr 4; omega,h1,h2,rfl,h3,h4⟩
  intro J hJ
  obtain ⟨R5,hR5⟩ : ∃ R5,R5=Sort.scanSorted lN d3 e i:=⟨_,rfl⟩
  rw [← hR5] at hm
  refine aJ (fun m ys M5=>∃ (j:Nat),m=e - j∧ys=[N .i64 (j:Int)]∧i≤j∧j≤e∧M5=PM M b T d3∧R5=Sort.scanSorted lN d3 e j) _ ⟨i,rfl,rfl,Nat.le_refl _,hie,rfl,hR5⟩ ?_
  rintro next2 m ys M5 hnext2 ⟨j,rfl,rfl,hij,hje,rfl,hm5⟩
  dsimp only [aa]
  rw [Sort.scanSorted] at hm5
  rw [dX]
  refine OL (p:=!lN d3[j]! d3[j - 1]!) (fun hc k hk=>?_) ?_
  ·have hc:j<e:=of_decide_eq_true hc
   rw [PM.rd hs3.symm (by omega),dm (by omega) (by omega),PM.rd hs3.symm (by omega)]
   refine hl ?_
   rw [bO]
   exact hk
  refine aI (fun h=>?_) (fun h=>?_)
  ·have hc:j<e:=by
    rw [Bool.and_eq_true] at h
    exact of_decide_eq_true h.1
   rw [if_pos h] at hm5
   rw [add1 (by omega)]
   exact hnext2 _ _ _ (by omega) ⟨j + 1,rfl,rfl,by omega,by omega,rfl,hm5⟩
  rw [if_neg (by rw [h]; decide)] at hm5
  subst hm5
  rw [Ui]
  refine aI (fun hje2=>?_) (fun hje2=>?_)
  ·rw [if_pos (of_decide_eq_true hje2)] at hm
   rw [hm] at hQ
   exact hQ
  have hje2:¬ R5=e:=of_decide_eq_false hje2
  rw [if_neg hje2] at hm
  rw [gK (by omega) (by omega),show (50:Int)=((50:Nat) : Int) from rfl,dX]
  refine aI (fun h50=>?_) (fun h50=>?_)
  ·rw [if_pos (of_decide_eq_true h50)] at hm
   rw [hm] at hQ
   exact hQ
  rw [if_neg (of_decide_eq_false h50)] at hm
  rw [dm (by omega) (by omega),dm (by omega) (by omega),PM.rd hs3.symm (by omega),PM.rd hs3.symm (by omega),PM.swap hs3.symm (by omega) (by omega)]
  have hs6:=wo (i:=R5) (j:=R5 - 1) hs3
  generalize Sort.swp d3 R5 (R5 - 1)=d6 at *
  refine bn (fun zs M'=>zs=[]∧M'=PM M b T (if R5 - a ≥ 2 then Sort.shiftDown lN (R5 - 1) d6 else d6)) ?_ ?_
  ·rintro zs M' ⟨rfl,rfl⟩
   have hs7:(if R5 - a ≥ 2 then Sort.shiftDown lN (R5 - 1) d6 else d6).size=d.size:=by
    split
    ·rw [wJ,hs6]
    ·exact hs6
   generalize (if R5 - a ≥ 2 then Sort.shiftDown lN (R5 - 1) d6 else d6)=d7 at *
   rw [gK (by omega) (by omega),show (2:Int)=((2:Nat) : Int) from rfl,mP]
   refine aI (fun h2=>?_) (fun h2=>?_)
   ·rw [if_pos (of_decide_eq_true h2)] at hm
    rw [add1 (by omega)]
    have hs8:=AO e e (R5 + 1) d7 (by omega)
    obtain ⟨R8,hR8⟩ : ∃ R8,R8=Sort.shiftUp lN e (R5 + 1) d7:=⟨_,rfl⟩
    rw [← hR8] at hm hs8
    refine aJ (fun m ys M8=>∃ (j:Nat) (d8:Array Nat),m=e - j∧ys=[N .i64 (j:Int)]∧R5 + 1≤j∧j≤e∧M8=PM M b T d8∧d8.size=d.size∧R8=Sort.shiftUp lN e j d8) _ ⟨R5 + 1,d7,rfl,rfl,Nat.le_refl _,by omega,rfl,hs7,hR8⟩ ?_
    rintro next3 m ys M8 hnext3 ⟨j,d8,rfl,rfl,hj1,hj2,rfl,hs8',hm8⟩
    dsimp only [aa]
    rw [Sort.shiftUp] at hm8
    rw [dX]
    refine aI (fun hl1=>?_) (fun hl1=>?_)
    ·have hl1:j<e:=of_decide_eq_true hl1
     rw [if_pos hl1] at hm8
     rw [PM.rd hs8'.symm (by omega),dm (by omega) (by omega),PM.rd hs8'.symm (by omega)]
     refine hl ?_
     rw [bO]
     refine aI (fun hn=>?_) (fun hn=>?_)
     ·rw [if_pos hn] at hm8
      subst hm8
      exact hJ _ _ ⟨R5,R8,rfl,by omega,by omega,rfl,hs8',hm⟩
     ·rw [if_neg (by rw [show (!lN d8[j]! d8[j - 1]!)=false from hn]; decide)] at hm8
      rw [dm (by omega) (by omega),dm (by omega) (by omega),PM.rd hs8'.symm (by omega),PM.rd hs8'.symm (by omega),PM.swap hs8'.symm (by omega) (by omega),add1 (by omega)]
      exact hnext3 _ _ _ (by omega) ⟨j + 1,_,rfl,rfl,by omega,by omega,rfl,wo hs8',hm8⟩
    ·rw [if_neg (of_decide_eq_false hl1)] at hm8
     subst hm8
     exact hJ _ _ ⟨R5,R8,rfl,by omega,by omega,rfl,hs8',hm⟩
   ·rw [if_neg (of_decide_eq_false h2)] at hm
    exact hJ _ _ ⟨R5,d7,rfl,by omega,by omega,rfl,hs7,hm⟩
  intro J2 hJ2
  rw [gK (by omega) (by omega),show (2:Int)=((2:Nat) : Int) from rfl,mP]
  refine aI (fun h2=>?_) (fun h2=>?_)
  ·rw [if_pos (of_decide_eq_true h2)] at hJ2
   rw [dm (by omega) (by omega)]
   obtain ⟨R8,hR8⟩ : ∃ R8,R8=Sort.shiftDown lN (R5 - 1) d6:=⟨_,rfl⟩
   rw [← hR8] at hJ2
   refine aJ (fun m ys M8=>∃ (j:Nat) (d8:Array Nat),m=j + 1∧ys=[N .i64 (j:Int)]∧j<R5∧M8=PM M b T d8∧d8.size=d.size∧R8=Sort.shiftDown lN j d8) _ ⟨R5 - 1,d6,rfl,rfl,by omega,rfl,hs6,hR8⟩ ?_
   rintro next3 m ys M8 hnext3 ⟨j,d8,rfl,rfl,hj1,rfl,hs8',hm8⟩
   dsimp only [aa]
   rw [show (1:Int)=((1:Nat) : Int) from rfl,mP]
   refine aI (fun hl1=>?_) (fun hl1=>?_)
   ·have hl1:j ≥ 1:=of_decide_eq_true hl1
    obtain ⟨j',rfl⟩ : ∃ j',j=j' + 1:=⟨j - 1,by omega⟩
    rw [Sort.shiftDown] at hm8
    rw [PM.rd hs8'.symm (by omega),gK (by omega) (by omega),Nat.add_sub_cancel,PM.rd hs8'.symm (by omega)]
    refine hl ?_
    rw [bO]
    refine aI (fun hn=>?_) (fun hn=>?_)
    ·rw [if_pos hn] at hm8
     subst hm8
     exact hJ2 _ _ ⟨rfl,rfl⟩
    ·rw [if_neg (by rw [show (!lN d8[j' + 1]! d8[j']!)=false from hn]; decide)] at hm8
     rw [gK (by omega) (by omega),gK (by omega) (by omega),Nat.add_sub_cancel,PM.rd hs8'.symm (by omega),PM.rd hs8'.symm (by omega),PM.swap hs8'.symm (by omega) (by omega),gK (by omega) (by omega),Nat.add_sub_cancel]
     exact hnext3 _ _ _ (by omega) ⟨j',_,rfl,rfl,by omega,rfl,wo hs8',hm8⟩
   ·have hl1:¬ j ≥ 1:=of_decide_eq_false hl1
    have h0:j=0:=by omega
    subst h0
    rw [Sort.shiftDown] at hm8
    subst hm8
    exact hJ2 _ _ ⟨rfl,rfl⟩
  ·rw [if_neg (of_decide_eq_false h2)] at hJ2
   exact hJ2 _ _ ⟨rfl,rfl⟩
 ·have hg:¬ 5 - s<5:=of_decide_eq_false hg
  have h0:s=0:=by omega
  subst h0
  rw [Sort.partialIns] at hm
  rw [hm] at hQ
  exact hQ
end Go.Ab.aC
set_option maxRecDepth 10000
set_option linter.unusedVariables false
set_option linter.unusedSimpArgs false
namespace Go.Ab.aC
open Go Go.Ab
def Ug (P:List Nat→Prop) (f:List Nat→List Nat) (T:Nat) (c:av) : Prop:=∀ {M:RM} {base:Nat} {v:AV} {xs:List Nat} {Q:ai},Ow aS M base T v xs→P xs→(∀ M',Ow aS M' base T v (f xs)→ah (aF v) M M'→Q (.tup []) M')→c [v] M Q
def Ha (P:List Nat→Prop) (f:List Nat→List Nat) (T:Nat) (c:av) : Prop:=∀ {M:RM} {base:Nat} {v:AV} {xs:List Nat} {Q:ai},Ow aS M base T v xs→P xs→(∀ v' M',Sl aS M' v' (f xs)→kY v'→(∀ d∈aF v',d∈aF v)→ah (aF v) M M'→Q v' M')→c [v] M Q
def SE (T:Nat) (c:av) : Prop:=∀ {M:RM} {n:Nat} {Q:ai},n≤10000000→(n=0→Q eG M) →
 (0<n→∀ b M',M.next≤b→b<M'.next→M'.heap b=some (.row (bM [N .u64 0] n) true T 0)→ah [] M M'→Q (.slc b 0 0 (.op 1)) M')→c [eG,N .i64 (n:Int)] M Q
theorem U8 {TS T:Nat} : SE T fun args M Q=>∃ a0 a1,args=[a0,a1]∧vg TS T a0 a1 M Q:=by
 intro M n Q hn h0 h1
 refine ⟨_,_,rfl, ?_⟩
 unfold vg
 rw [uh,bL,show decide ((n:Int)<0)=false by simp,bK]
 dsimp only
 rw [uh]
 have hcap:∀ K:AV→Prop,yR eG K=K (N .i64 0):=fun K=>by
  unfold yR
  exact propext ⟨fun ⟨m,h,k⟩=>by cases h; exact k,fun k=>⟨0,rfl,k⟩⟩
 rw [hcap,FY,gT,show IntKind.wrap .i64 ((0:Int) - 0)=0 from by rw [bD] <;> decide,gT,Int.sub_zero,bD (by omega) (by omega),iC]
 dsimp only [aa]
 by_cases hz:n=0
 ·rw [show decide ((n:Int) > 0)=false by simp; omega,bK]
  exact h0 hz
 ·rw [show decide ((n:Int) > 0)=true by simp; omega,dP,hcap,show bR 1 eG none (some (N .i64 0)) none=some eG by simp [bR,bnd],dD]
  have hr:=om n
  refine nI (base:=M.next) (m:=n) (ds:=bM [N .u64 0] n) .nil (Nat.le_refl _) (Nat.le_refl _) (by simp [kN]) (by rw [hr.1,Nat.mul_one]) hr.2 (by omega) (by omega) ?_
  intro v' M' o k _ _
  rw [Nat.zero_add] at o
  obtain ⟨b,rfl,q1,q2,q3,q4⟩:=Own.wI o (by omega)
  rw [FY,show bR 1 (.slc b 0 n (.op 1)) none (some (N .i64 0)) none=some (.slc b 0 0 (.op 1)) by simp [bR,bnd]; omega,dD]
  exact h1 (by omega) b M' q1 q2 (by simpa using q3) (by simpa [aF] using k)
end Go.Ab.aC
set_option maxRecDepth 10000
set_option linter.unusedVariables false
set_option linter.unusedSimpArgs false
namespace Go.Ab.aC
open Go Go.Ab
theorem AQ (p:Nat→Bool) (d:Array Nat) (J:Nat) : ∀ (n i:Nat),J + 1 - i≤n→i≤Sort.scanUp p d J i∧Sort.scanUp p d J i≤max (J + 1) i
 | 0,i,h=>by
   rw [Sort.scanUp,if_neg (by simp; omega)]; omega
 | n + 1,i,h=>by
   rw [Sort.scanUp]
   split
   ·rename_i hc
    rw [Bool.and_eq_true] at hc
    have:=of_decide_eq_true hc.1
    have:=AQ p d J n (i + 1) (by omega)
    omega
   ·omega
theorem xq (p:Nat→Bool) (d:Array Nat) (i:Nat) : ∀ j,Sort.scanDown p d i j≤j
 | 0=>Nat.le_refl _
 | j + 1=>by
   rw [Sort.scanDown]
   split
   ·have:=xq p d i j; omega
   ·omega
theorem zw (a:Nat) : ∀ (n i j:Nat) (d:Array Nat),j + 1 - i≤n→i≤(Sort.partEqLoop lN a i j d).1∧(Sort.partEqLoop lN a i j d).1≤max (j + 1) i∧(Sort.partEqLoop lN a i j d).2.size=d.size
 | n,i,j,d,h=>by
   have h1:=AQ (fun x=>!lN d[a]! x) d j _ i (Nat.le_refl _)
   have h2:=xq (fun x=>lN d[a]! x) d (Sort.scanUp (fun x=>!lN d[a]! x) d j i) j
   rw [Sort.partEqLoop]
   generalize Sort.scanUp (fun x=>!lN d[a]! x) d j i=i2 at *
   generalize Sort.scanDown (fun x=>lN d[a]! x) d i2 j=j2 at *
   split
   ·exact ⟨h1.1,h1.2,rfl⟩
   ·split
    ·cases n with
     | zero=>omega
     | succ n =>
       have h3:=zw a n (i2 + 1) (j2 - 1) (Sort.swp d i2 j2) (by omega)
       rw [eP] at h3
       omega
    ·exact ⟨h1.1,h1.2,rfl⟩
theorem FM (a:Nat) : ∀ (n i j:Nat) (d:Array Nat),j + 1 - i≤n→(Sort.partLoop lN a i j d).1≤j∧(Sort.partLoop lN a i j d).2.size=d.size
 | n,i,j,d,h=>by
   have h1:=AQ (fun x=>lN x d[a]!) d j _ i (Nat.le_refl _)
   have h2:=xq (fun x=>!lN x d[a]!) d (Sort.scanUp (fun x=>lN x d[a]!) d j i) j
   rw [Sort.partLoop]
   generalize Sort.scanUp (fun x=>lN x d[a]!) d j i=i2 at *
   generalize Sort.scanDown (fun x=>!lN x d[a]!) d i2 j=j2 at *
   split
   ·exact ⟨h2,rfl⟩
   ·split
    ·cases n with
     | zero=>omega
     | succ n =>
       have h3:=FM a n (i2 + 1) (j2 - 1) (Sort.swp d i2 j2) (by omega)
       rw [eP] at h3
       exact ⟨by omega,h3.2⟩
    ·exact ⟨h2,rfl⟩
theorem BN (a e:Nat) : ∀ (s i:Nat) (d:Array Nat),(Sort.partialIns lN a e s i d).1.size=d.size
 | 0,i,d=>rfl
 | s + 1,i,d=>by
   rw [Cg]
   split
   ·rfl
   ·split
    ·rfl
    ·rw [BN a e s]
     have h1:∀ x,(if x - a ≥ 2 then Sort.shiftDown lN (x - 1) (Sort.swp d x (x - 1)) else Sort.swp d x (x - 1)).size=d.size:=fun x=>by
      split
      ·rw [wJ,eP]
      ·rw [eP]
     split
     ·rw [AO e e _ _ (by omega),h1]
     ·rw [h1]
theorem Wq {x:Nat} (h:256≤x) : Sort.bitsLen x=Sort.bitsLen (x / 256) + 8:=by
 have h0:x / 256≠0:=by omega
 unfold Sort.bitsLen
 rw [if_neg (by omega),if_neg h0]
 have h1:=(Nat.log2_eq_iff h0 (k:=(x / 256).log2)).1 rfl
 have h2:x.log2=(x / 256).log2 + 8:=by
  rw [Nat.log2_eq_iff (by omega)]
  rw [show (x / 256).log2 + 8 + 1=((x / 256).log2 + 1) + 8 by omega,Nat.pow_add,Nat.pow_add _ ((x / 256).log2 + 1)]
  generalize 2 ^ (x / 256).log2=u at *
  generalize 2 ^ ((x / 256).log2 + 1)=v at *
  omega
 omega
theorem Vd {tab:List UInt8} {x:Nat} (h:(List.range 256).all (fun i=>tab[i]? == some (UInt8.ofNat (Sort.bitsLen i)))=true) (hx:x<256) : tab[x]?=some (UInt8.ofNat (Sort.bitsLen x)):=by
 have:=List.all_eq_true.1 h x (List.mem_range.2 hx)
 exact eq_of_beq this
theorem Zf {x:Nat} (h:x<256) : Sort.bitsLen x≤8:=by
 unfold Sort.bitsLen
 split
 ·omega
 ·rename_i h0
  have:=(Nat.log2_lt h0 (k:=8)).2 (by omega)
  omega
def CQ (c:av) : Prop:=∀ {M:RM} {x:Nat} {Q:ai},x<65536→Q (N .i64 (Sort.bitsLen x:Nat)) M→c [N .u64 (x:Int)] M Q
theorem Qy:CQ fun args M Q=>∃ a0,args=[a0]∧pU a0 M Q:=by
 intro M x Q hx hQ
 refine ⟨_,rfl, ?_⟩
 unfold pU
 rw [uh,jw,show decide ((x:Int) ≥ 4294967296)=false by simp; omega,bK]
 dsimp only [aa]
 rw [uh,jw,show decide ((x:Int) ≥ 65536)=false by simp; omega,bK]
 dsimp only [aa]
 rw [uh,jw]
 have fin:∀ (y z:Nat),y<256→z≤8→Sort.bitsLen x=z + Sort.bitsLen y→gp .u8 (N .u64 (y:Int)) fun t21=>NN (St [0,1,2,2,3,3,3,3,4,4,4,4,4,4,4,4,5,5,5,5,5,5,5,5,5,5,5,5,5,5,5,5,6,6,6,6,6,6,6,6,6,6,6,6,6,6,6,6,6,6,6,6,6,6,6,6,6,6,6,6,6,6,6,6,7,7,7,7,7,7,7,7,7,7,7,7,7,7,7,7,7,7,7,7,7,7,7,7,7,7,7,7,7,7,7,7,7,7,7,7,7,7,7,7,7,7,7,7,7,7,7,7,7,7,7,7,7,7,7,7,7,7,7,7,7,7,7,7,8,8,8,8,8,8,8,8,8,8,8,8,8,8,8,8,8,8,8,8,8,8,8,8,8,8,8,8,8,8,8,8,8,8,8,8,8,8,8,8,8,8,8,8,8,8,8,8,8,8,8,8,8,8,8,8,8,8,8,8,8,8,8,8,8,8,8,8,8,8,8,8,8,8,8,8,8,8,8,8,8,8,8,8,8,8,8,8,8,8,8,8,8,8,8,8,8,8,8,8,8,8,8,8,8,8,8,8,8,8,8,8,8,8,8,8,8,8,8,8,8,8,8,8,8,8,8,8]) t21 fun t22 =>
   gp .i64 t22 fun t23=>af .add (N .i64 (z:Int)) t23 fun t24=>Q t24 M:=fun y z hy hz e=>by
  rw [eX,AP (by omega) (by omega),Y4]
  refine ⟨by omega, ?_⟩
  rw [Int.toNat_natCast]
  refine ⟨_,Vd (by kernel_rfl) hy, ?_⟩
  have hb:=Zf hy
  have hu:(UInt8.ofNat (Sort.bitsLen y)).toNat=Sort.bitsLen y:=by rw [UInt8.toNat_ofNat']; omega
  rw [hu,eX,bD (by omega) (by omega),addN (by omega),← e]
  exact hQ
 by_cases h:x ≥ 256
 ·rw [show decide ((x:Int) ≥ 256)=true by simp; omega,dP]
  dsimp only [aa]
  rw [wm]
  refine ⟨by decide, ?_⟩
  rw [show (8:Int)=((8:Nat) : Int) from rfl,BB _ _ _ (by decide),bH,Int.zero_add,bD (by omega) (by omega)]
  exact fin (x / 256) 8 (by omega) (by omega) (by rw [Wq h]; omega)
 ·rw [show decide ((x:Int) ≥ 256)=false by simp; omega,bK]
  dsimp only [aa]
  exact fin x 0 (by omega) (by omega) (by omega)
theorem U6 {c3 c6:av} (h6:CQ c6) : CQ fun args M Q=>∃ a0,args=[a0]∧rH c3 c6 a0 M Q:=by
 intro M x Q hx hQ
 refine ⟨_,rfl, ?_⟩
 unfold rH
 rw [bK]
 exact h6 hx hQ
end Go.Ab.aC
set_option maxRecDepth 10000
set_option linter.unusedVariables false
set_option linter.unusedSimpArgs false
namespace Go.Ab.aC
open Go Go.Ab
def XM (M:RM) (s T:Nat) (r:UInt64) : RM:=M.put s (.row [N .u64 (r.toNat:Int)] false T 0)
theorem XM.put {M:RM} {s T:Nat} {r r' : UInt64} : (XM M s T r).put s (.row [N .u64 (r'.toNat:Int)] false T 0)=XM M s T r':=by
 unfold XM RM.put
 congr 1
 funext c
 simp only
 by_cases h:c=s <;> simp [h]
theorem XM.new {M:RM} {T:Nat} {x:RB} {r:UInt64} : (M.push x).put M.next (.row [N .u64 (r.toNat:Int)] false T 0)=XM (M.push x) M.next T r:=rfl
theorem EB {r k:UInt64} {n:Nat} (hk:k.toNat=n) (h:n<64) : TK .u64 (r.toNat:Int) (n:Int)=((r <<< k).toNat:Int):=by
 rw [Pk rfl _ _ (by show n≤64; omega),UInt64.toNat_shiftLeft,hk,Nat.mod_eq_of_lt h,Nat.shiftLeft_eq]; rfl
theorem QN {r k:UInt64} {n:Nat} (hk:k.toNat=n) (h:n<64) : Jt .u64 (r.toNat:Int) (n:Int)=((r >>> k).toNat:Int):=by
 rw [BB _ _ _ (by show n≤64; omega),UInt64.toNat_shiftRight,hk,Nat.mod_eq_of_lt h,Nat.shiftRight_eq_div_pow]
theorem u64_xor (a b:UInt64) : SK .u64 (a.toNat:Int) (b.toNat:Int)=((a ^^^ b).toNat:Int):=by
 rw [XX rfl,← UInt64.toNat_xor]
 have:=(a ^^^ b).toNat_lt
 rw [Nat.mod_eq_of_lt (by show _<2 ^ 64; omega)]
def XT (T TX:Nat) (c:av) : Prop:=∀ {M:RM} {b s:Nat} {r:UInt64} {d:Array Nat} {Q:ai},s≠b→Q (N .u64 ((Sort.xorNext r).toNat:Int)) (PM (XM M s TX (Sort.xorNext r)) b T d)→c [.ptr s 0] (PM (XM M s TX r) b T d) Q
theorem Xi {T TX:Nat} : XT T TX fun args M Q=>∃ a0,args=[a0]∧lC a0 M Q:=by
 intro M b s r d Q hsb hQ
 refine ⟨_,rfl, ?_⟩
 unfold lC
 have hh:∀ r,(PM (XM M s TX r) b T d).heap s=some (.row [N .u64 (r.toNat:Int)] false TX 0):=fun r=>by rw [PM.I9 hsb]; exact RM.uo _ _
 have st:∀ (r r' : UInt64) (K:RM→Prop),aN (PM (XM M s TX r) b T d) (.ptr s 0) (N .u64 (r'.toNat:Int)) 1 K=K (PM (XM M s TX r') b T d):=fun r r' K=>by
  rw [fq (hh r) (by simp) rfl rfl,PM.Sq hsb]
  rw [show ([N .u64 (r.toNat:Int)] : List AV).set 0 (N .u64 (r'.toNat:Int))=[N .u64 (r'.toNat:Int)] from rfl,XM.put]
 rw [aK,ak (hh r) rfl,aK,ak (hh r) rfl,zo]
 refine ⟨by decide, ?_⟩
 rw [show (13:Int)=((13:Nat) : Int) from rfl,EB (k:=13) (n:=13) rfl (by decide),tV,u64_xor,aK,st]
 rw [aK,ak (hh _) rfl,aK,ak (hh _) rfl,wm]
 refine ⟨by decide, ?_⟩
 rw [show (7:Int)=((7:Nat) : Int) from rfl,QN (k:=7) (n:=7) rfl (by decide),tV,u64_xor,aK,st]
 rw [aK,ak (hh _) rfl,aK,ak (hh _) rfl,zo]
 refine ⟨by decide, ?_⟩
 rw [show (17:Int)=((17:Nat) : Int) from rfl,EB (k:=17) (n:=17) rfl (by decide),tV,u64_xor,aK,st]
 rw [aK,ak (hh _) rfl]
 exact hQ
def Tc (c:av) : Prop:=∀ {M:RM} {x:Nat} {Q:ai},0<x→x<65536→Q (N .u64 ((2 ^ Sort.bitsLen x:Nat) : Int)) M→c [N .i64 (x:Int)] M Q
theorem zG {x:Nat} (h0:0<x) (h:x<65536) : Sort.bitsLen x≤16∧2 ^ Sort.bitsLen x≤2 * x∧x<2 ^ Sort.bitsLen x:=by
 unfold Sort.bitsLen
 rw [if_neg (by omega)]
 have h1:=(Nat.log2_eq_iff (show x≠0 by omega) (k:=x.log2)).1 rfl
 have h2:=(Nat.log2_lt (show x≠0 by omega) (k:=16)).2 (by omega)
 rw [Nat.pow_succ] at *
 omega
theorem Wh {cl:av} (hl:CQ cl) : Tc fun args M Q=>∃ a0,args=[a0]∧qC cl a0 M Q:=by
 intro M x Q h0 hx hQ
 refine ⟨_,rfl, ?_⟩
 unfold qC
 have hb:=zG h0 hx
 rw [eX,dx (by omega) (by omega)]
 refine hl hx ?_
 rw [zo]
 refine ⟨by omega, ?_⟩
 rw [show (1:Int)=((1:Nat) : Int) from rfl,Pk rfl _ _ (by show Sort.bitsLen x≤64; omega),Nat.one_mul]
 have:2 ^ Sort.bitsLen x<2 ^ 64:=Nat.pow_lt_pow_right (by decide) (by omega)
 rw [Nat.mod_eq_of_lt (by exact this)]
 exact hQ
def Cm (a l m i0:Nat) (d:Array Nat) : Nat→UInt64 × Array Nat
 | 0=>(UInt64.ofNat l,d)
 | k + 1=>Sort.breakStep a l m (Cm a l m i0 d k) (i0 + k)
theorem Vi (a l m i0:Nat) (d:Array Nat) : ∀ k,(Cm a l m i0 d k).2.size=d.size
 | 0=>rfl
 | k + 1=>by
   rw [Cm,Sort.breakStep]
   show (Sort.swp _ _ _).size=_
   rw [eP,Vi a l m i0 d k]
def MO (T:Nat) (c:av) : Prop:=∀ {M:RM} {b a e:Nat} {d:Array Nat} {Q:ai},b<M.next→d.size≤60000→a≤e→e≤d.size→(∀ M',ah [] M M'→Q (.tup []) (PM M' b T (Sort.breakPatterns d a e))) →
 c [vv b d.size,N .i64 (a:Int),N .i64 (e:Int)] (PM M b T d) Q
theorem Sd {T TX:Nat} {cp cx:av} (hp:Tc cp) (hx:XT T TX cx) : MO T fun args M Q=>∃ a0 a1 a2,args=[a0,a1,a2]∧jd TX cp cx a0 a1 a2 M Q:=by
 intro M b a e d Q hb hsz hae he hQ
 refine ⟨_,_,_,rfl, ?_⟩
 unfold jd
 simp only [cZ]
 rw [gK hae (by omega),show (8:Int)=((8:Nat) : Int) from rfl,mP]
 unfold Sort.breakPatterns at hQ
 refine aI (fun h8=>?_) (fun h8=>?_)
 ·have h8:e - a ≥ 8:=of_decide_eq_true h8
  rw [if_pos h8] at hQ
  have hbl:=zG (x:=e - a) (by omega) (by omega)
  rw [eX,dx (by omega) (by omega),aX,PM.push hb]
  have hnx:(PM M b T d).next=M.next:=rfl
  rw [hnx]
  have hsb:M.next≠b:=by omega
  have kk:ah [] M (M.push (.row [(N .u64 0)] false TX 0)):=(ah.refl _ _).push _
  have kS:∀ r,ah [] M (XM (M.push (.row [(N .u64 0)] false TX 0)) M.next TX r):=fun r=>kk.new _ (Nat.le_refl _)
  have hh0:(PM (M.push (.row [(N .u64 0)] false TX 0)) b T d).heap M.next=some (.row [N .u64 0] false TX 0):=by rw [PM.I9 hsb]; exact RM.aR _
  have hl64:(UInt64.ofNat (e - a)).toNat=e - a:=by rw [UInt64.toNat_ofNat']; omega
  rw [fq hh0 (by simp) rfl rfl,PM.Sq hsb]
  rw [show ([N .u64 0] : List AV).set 0 (N .u64 ((e - a:Nat) : Int))=[N .u64 ((UInt64.ofNat (e - a)).toNat:Int)] by rw [hl64]; rfl,XM.new]
  generalize M.push (.row [(N .u64 0)] false TX 0)=M1 at *
  generalize M.next=s at *
  refine hp (by omega) (by omega) ?_
  have hq:∀ (c:Int),c=((2:Nat) : Int)→∀ (K:AV→Prop),(af .quo (N .i64 ((e - a:Nat) : Int)) (N .i64 4) fun t18=>af .mul t18 (N .i64 c) fun t19=>af .add (N .i64 (a:Int)) t19 K)=K (N .i64 ((a + (e - a) / 4 * 2:Nat) : Int)):=fun c hc K=>by
   subst hc
   rw [nz,show (4:Int)=((4:Nat) : Int) from rfl,qM,bD (by omega) (by omega),xA,← Int.natCast_mul,bD (by omega) (by omega),addN (by omega)]
   exact propext ⟨fun h=>h.2,fun h=>⟨by decide,h⟩⟩
  rw [hq 2 rfl,dm (by omega) (by omega)]
  have hst3:(Sort.breakStep a (e - a) (1 <<< Sort.bitsLen (e - a)) (Sort.breakStep a (e - a) (1 <<< Sort.bitsLen (e - a)) (Sort.breakStep a (e - a) (1 <<< Sort.bitsLen (e - a)) (UInt64.ofNat (e - a),d) (a + (e - a) / 4 * 2 - 1)) (a + (e - a) / 4 * 2 - 1 + 1)) (a + (e - a) / 4 * 2 - 1 + 2)).2=(Cm a (e - a) (2 ^ Sort.bitsLen (e - a)) (a + (e - a) / 4 * 2 - 1) d 3).2:=by
   rw [Nat.shiftLeft_eq,Nat.one_mul]; rfl
  have hQ:∀ M',ah [] M M'→Q (.tup []) (PM M' b T (Cm a (e - a) (2 ^ Sort.bitsLen (e - a)) (a + (e - a) / 4 * 2 - 1) d 3).2):=fun M' k=>by
   have:=hQ M' k
   rw [← hst3]; exact this
  generalize hmd:2 ^ Sort.bitsLen (e - a)=md at *
  generalize hi0:a + (e - a) / 4 * 2 - 1=i0 at *
  refine aJ (fun m ys M3=>∃ (k:Nat),m=3 - k∧k≤3∧ys=[N .i64 ((i0 + k:Nat) : Int)]∧M3=PM (XM M1 s TX (Cm a (e - a) md i0 d k).1) b T (Cm a (e - a) md i0 d k).2) _ ⟨0,rfl,by omega,rfl,rfl⟩ ?_
  rintro next m ys M3 hnext ⟨k,rfl,hk,rfl,rfl⟩
  dsimp only [aa]
  have hsk:=Vi a (e - a) md i0 d k
  have hnx' : Cm a (e - a) md i0 d (k + 1)=Sort.breakStep a (e - a) md (Cm a (e - a) md i0 d k) (i0 + k):=rfl
  generalize hstk:Cm a (e - a) md i0 d k=st at *
  rw [hq 2 rfl,add1 (by omega),pO]
  refine aI (fun hg=>?_) (fun hg=>?_)
  ·have hg:i0 + k≤a + (e - a) / 4 * 2 + 1:=of_decide_eq_true hg
   refine bn (fun zs M'=>M'=PM (XM M1 s TX (Cm a (e - a) md i0 d (k + 1)).1) b T (Cm a (e - a) md i0 d (k + 1)).2) ?_ ?_
   ·rintro zs M' rfl
    rw [add1 (by omega)]
    exact hnext _ _ _ (by omega) ⟨k + 1,rfl,by omega,rfl,rfl⟩
   intro J hJ
   refine hx hsb ?_
   rw [hnx'] at hJ
   unfold Sort.breakStep at hJ
   dsimp only at hJ
   generalize Sort.xorNext st.1=r at *
   rw [gT,dx (by omega) (by omega),show (md:Int) - 1=((md - 1:Nat) : Int) by omega,Bj,MJ rfl]
   have hlt:r.toNat &&& (md - 1)<md:=by
    rw [← hmd,Nat.and_two_pow_sub_one_eq_mod]
    exact Nat.mod_lt _ (by rw [hmd]; omega)
   rw [Nat.mod_eq_of_lt (show r.toNat &&& (md - 1)<2 ^ uD .u64 by show _<2 ^ 64; omega)]
   generalize r.toNat &&& (md - 1)=o at *
   rw [eX,bD (by omega) (by omega)]
   refine bn (fun zs M'=>zs=[N .i64 (((if o ≥ e - a then o - (e - a) else o) : Nat) : Int)]∧M'=PM (XM M1 s TX r) b T st.2) ?_ ?_
   ·rintro zs M' ⟨rfl,rfl⟩
    dsimp only [aa]
    have ho:(if o ≥ e - a then o - (e - a) else o)<e - a:=by split <;> omega
    generalize (if o ≥ e - a then o - (e - a) else o)=o2 at *
    rw [addN (by omega),addN (by omega),PM.rd hsk.symm (by omega),PM.rd hsk.symm (by omega),PM.swap hsk.symm (by omega) (by omega)]
    exact hJ _ _ rfl
   intro J4 hJ4
   rw [mP]
   refine aI (fun hg2=>?_) (fun hg2=>?_)
   ·have hg2:o ≥ e - a:=of_decide_eq_true hg2
    rw [gK (by omega) (by omega)]
    exact hJ4 _ _ ⟨by rw [if_pos hg2],rfl⟩
   ·exact hJ4 _ _ ⟨by rw [if_neg (of_decide_eq_false hg2)],rfl⟩
  ·have hg:¬ i0 + k≤a + (e - a) / 4 * 2 + 1:=of_decide_eq_false hg
   have h3:k=3:=by omega
   subst h3
   rw [hstk] at hQ
   exact hQ _ (kS _)
 ·rw [if_neg (of_decide_eq_false h8)] at hQ
  exact hQ M (ah.refl _ _)
end Go.Ab.aC
set_option maxRecDepth 10000
set_option linter.unusedVariables false
set_option linter.unusedSimpArgs false
namespace Go.Ab.aC
open Go Go.Ab
theorem Oz:Sort.SWO lN where
 irrefl x:=by simp [lN]
 trans x y z:=by simp [lN]; omega
 ntrans x y z:=by simp [lN]; omega
def Nr (d3:Array Nat) (a e pv limit:Nat) (wb wp:Bool) : Array Nat :=
 if a > 0 && !lN d3[a - 1]! d3[pv]! then
  match Sort.partitionEqual lN d3 a e pv with
  | (mid,d4)=>if _h:a<mid∧mid≤e then Sort.pdq lN d4 mid e limit wb wp else d4
 else
  match Sort.partition lN d3 a e pv with
  | (mid,ap,d4) =>
    if _h:a≤mid∧mid<e then
     if mid - a<e - mid then Sort.pdq lN (Sort.pdq lN d4 a mid limit true true) (mid + 1) e limit (decide (mid - a ≥ (e - a) / 8)) ap
     else Sort.pdq lN (Sort.pdq lN d4 (mid + 1) e limit true true) a mid limit (decide (e - mid ≥ (e - a) / 8)) ap
    else d4
def XK (pi:Array Nat × Bool) (a e pv limit:Nat) (wb wp:Bool) : Array Nat:=if pi.2 then pi.1 else Nr pi.1 a e pv limit wb wp
def Ww (d2:Array Nat) (a e pv:Nat) (hint:Sort.Hint) (limit:Nat) (wb wp:Bool) : Array Nat :=
 XK (if wb && wp && hint=.increasing then Sort.partialInsertionSort lN d2 a e else (d2,false)) a e pv limit wb wp
def Wm (d1:Array Nat) (a e limit:Nat) (wb wp:Bool) : Array Nat :=
 Ww (if (Sort.choosePivot lN d1 a e).2=.decreasing then Sort.reverseRange d1 a e else d1) a e (if (Sort.choosePivot lN d1 a e).2=.decreasing then (e - 1) - ((Sort.choosePivot lN d1 a e).1 - a) else (Sort.choosePivot lN d1 a e).1)
  (if (Sort.choosePivot lN d1 a e).2=.decreasing then .increasing else (Sort.choosePivot lN d1 a e).2) limit wb wp
theorem pdq_eq (d:Array Nat) (a e limit:Nat) (wb wp:Bool) : Sort.pdq lN d a e limit wb wp =
  if e - a≤12 then Sort.insertionSort lN d a e else if limit=0 then Sort.heapSort lN d a e else Wm (if !wb then Sort.breakPatterns d a e else d) a e (if !wb then limit - 1 else limit) wb wp:=by
 rw [Sort.pdq]; rfl
theorem FK (a e:Nat) : ∀ (k i:Nat) (d:Array Nat),e - i≤k→(Sort.insOuter lN a e i d).size=d.size
 | 0,i,d,h=>by rw [Sort.insOuter,if_neg (by omega)]
 | k + 1,i,d,h=>by
   rw [Sort.insOuter]
   split
   ·rw [FK a e k _ _ (by omega),FO]
   ·rfl
theorem aak (d:Array Nat) (a e:Nat) : (Sort.insertionSort lN d a e).size=d.size:=FK a e _ _ _ (Nat.le_refl _)
theorem Vg (first:Nat) : ∀ (k:Nat) (d:Array Nat),(Sort.heapPop lN first k d).size=d.size
 | 0,d=>rfl
 | k + 1,d=>by rw [Sort.heapPop,Vg first k,wy _ _ k _ _ (by omega),eP]
theorem Wx (d:Array Nat) (a e:Nat) : (Sort.heapSort lN d a e).size=d.size:=by rw [Sort.heapSort,Vg,OC]
theorem IG:∀ (k i j:Nat) (d:Array Nat),j - i≤k→(Sort.reverseLoop i j d).size=d.size
 | 0,i,j,d,h=>by rw [Sort.reverseLoop,if_neg (by omega)]
 | k + 1,i,j,d,h=>by
   rw [Sort.reverseLoop]
   split
   ·rw [IG k _ _ _ (by omega),eP]
   ·rfl
theorem Uz (d:Array Nat) (a e:Nat) : (Sort.reverseRange d a e).size=d.size:=IG _ _ _ _ (Nat.le_refl _)
theorem wE (a l m:Nat) (st:UInt64 × Array Nat) (i:Nat) : (Sort.breakStep a l m st i).2.size=st.2.size:=eP _ _ _
theorem O7 (d:Array Nat) (a e:Nat) : (Sort.breakPatterns d a e).size=d.size:=by
 unfold Sort.breakPatterns
 dsimp only
 split
 ·rw [wE,wE,wE]
 ·rfl
theorem O1 (d:Array Nat) (a e pv:Nat) (h:a<e) : (Sort.partitionEqual lN d a e pv).2.size=d.size∧a<(Sort.partitionEqual lN d a e pv).1∧(Sort.partitionEqual lN d a e pv).1≤e:=by
 unfold Sort.partitionEqual
 have:=zw a _ (a + 1) (e - 1) (Sort.swp d a pv) (Nat.le_refl _)
 rw [eP] at this
 omega
theorem QQ (d:Array Nat) (a e pv:Nat) : (Sort.partition lN d a e pv).2.2.size=d.size:=by
 rw [Ec]
 split
 ·show (Sort.swp _ _ _).size=_
  rw [eP,eP]
 ·show (Sort.swp _ _ _).size=_
  rw [eP,(FM a _ _ _ _ (Nat.le_refl _)).2,eP,eP]
theorem xy:∀ (n:Nat) (d:Array Nat) (a e limit:Nat) (wb wp:Bool),e - a≤n→(Sort.pdq lN d a e limit wb wp).size=d.size
 | n,d,a,e,limit,wb,wp,hn=>by
   rw [pdq_eq]
   split
   ·exact aak d a e
   split
   ·exact Wx d a e
   have h1:(if !wb then Sort.breakPatterns d a e else d).size=d.size:=by split; exact O7 d a e; rfl
   rw [← h1]
   generalize (if !wb then Sort.breakPatterns d a e else d)=d1
   unfold Wm
   have h2:(if (Sort.choosePivot lN d1 a e).2=.decreasing then Sort.reverseRange d1 a e else d1).size=d1.size:=by split; exact Uz d1 a e; rfl
   rw [← h2]
   generalize (if (Sort.choosePivot lN d1 a e).2=.decreasing then Sort.reverseRange d1 a e else d1)=d2
   generalize (if (Sort.choosePivot lN d1 a e).2=.decreasing then (e - 1) - ((Sort.choosePivot lN d1 a e).1 - a) else (Sort.choosePivot lN d1 a e).1)=pv
   generalize (if (Sort.choosePivot lN d1 a e).2=.decreasing then Sort.Hint.increasing else (Sort.choosePivot lN d1 a e).2)=hint
   unfold Ww
   have h3:(if wb && wp && hint=.increasing then Sort.partialInsertionSort lN d2 a e else (d2,false)).1.size=d2.size:=by
    split
    ·exact BN a e _ _ _
    ·rfl
   rw [← h3]
   generalize (if wb && wp && hint=.increasing then Sort.partialInsertionSort lN d2 a e else (d2,false))=pi
   unfold XK
   split
   ·rfl
   unfold Nr
   have hE:=O1 pi.1 a e pv
   have hP:=QQ pi.1 a e pv
   generalize Sort.partitionEqual lN pi.1 a e pv=pe at *
   generalize Sort.partition lN pi.1 a e pv=pp at *
   obtain ⟨mid,d4⟩:=pe
   obtain ⟨mid2,ap,d5⟩:=pp
   cases n with
   | zero=>omega
   | succ n =>
     split
     ·dsimp only
      split
      ·rw [xy n _ _ _ _ _ _ (by omega)]
       exact (hE (by omega)).1
      ·exact (hE (by omega)).1
     ·dsimp only at hP ⊢
      split
      ·split
       ·rw [xy n _ _ _ _ _ _ (by omega),xy n _ _ _ _ _ _ (by omega)]; exact hP
       ·rw [xy n _ _ _ _ _ _ (by omega),xy n _ _ _ _ _ _ (by omega)]; exact hP
      ·exact hP
def SG (T m:Nat) (c:av) : Prop:=∀ {M:RM} {b a e limit:Nat} {d:Array Nat} {Q:ai},b<M.next→d.size≤60000→a≤e→e≤d.size→e - a<m→limit≤1000000→(∀ M',ah [] M M'→Q (.tup []) (PM M' b T (Sort.pdq lN d a e limit true true))) →
 c [vv b d.size,N .i64 (a:Int),N .i64 (e:Int),N .i64 (limit:Int)] (PM M b T d) Q
theorem UD {T m:Nat} {ci ch cb cc cr cp cl ce ct cq:av} (hi:vG T (Sort.insertionSort lN) (fun _ _ _=>True) ci) (hh:vG T (Sort.heapSort lN) (fun _ a e=>a<e) ch) (hb:MO T cb) (hc:Jv T cc) (hr:vG T Sort.reverseRange (fun _ a e=>a<e) cr)
  (hp:Gp T cp) (hl:uz cl) (he:Kn T ce) (ht:Tt T ct) (hq:SG T m cq) : SG T (m + 1) fun args M Q=>∃ a0 a1 a2 a3,args=[a0,a1,a2,a3]∧gN ci ch cb cc cr cp cl ce ct cq a0 a1 a2 a3 M Q:=by
 intro M b a e limit d Q hbn hsz hae hed hm hlim hQ
 refine ⟨_,_,_,_,rfl, ?_⟩
 unfold gN
 simp only [fF,dY,fH,cZ]
 obtain ⟨R,hR⟩ : ∃ R,R=Sort.pdq lN d a e limit true true:=⟨_,rfl⟩
 rw [← hR] at hQ
 refine aJ (fun m' ys M3=>∃ (a e limit:Nat) (wb wp:Bool) (d3:Array Nat) (M4:RM),m'=e - a∧ys=[N .i64 (a:Int),N .i64 (e:Int),N .i64 (limit:Int),Bo wb,Bo wp]∧a≤e∧e≤d.size∧e - a<m + 1∧limit≤1000000∧M3=PM M4 b T d3∧ah [] M M4∧d3.size=d.size∧R=Sort.pdq lN d3 a e limit wb wp) _
  ⟨a,e,limit,true,true,d,M,rfl,rfl,hae,hed,hm,hlim,rfl,ah.refl _ _,rfl,hR⟩ ?_
 clear hR hae hed hm hlim
 rintro next m' ys M3 hnext ⟨a,e,limit,wb,wp,d3,M4,rfl,rfl,hae,hed,hm,hlim,rfl,k4,hs3,hR⟩
 dsimp only [aa]
 have hb4:b<M4.next:=Nat.lt_of_lt_of_le hbn k4.next
 rw [pdq_eq] at hR
 rw [gK hae (by omega),show (12:Int)=((12:Nat) : Int) from rfl,pO]
 refine aI (fun hg=>?_) (fun hg=>?_)
 ·rw [if_pos (of_decide_eq_true hg)] at hR
  rw [← hs3]
  refine hi hb4 (by omega) hae (by omega) trivial ?_
  rw [← hR]
  exact hQ M4 k4
 have hg:¬ e - a≤12:=of_decide_eq_false hg
 rw [if_neg hg] at hR
 rw [show (0:Int)=((0:Nat) : Int) from rfl,Ui]
 refine aI (fun hg0=>?_) (fun hg0=>?_)
 ·rw [if_pos (of_decide_eq_true hg0)] at hR
  rw [← hs3]
  refine hh hb4 (by omega) hae (by omega) (by omega) ?_
  rw [← hR]
  exact hQ M4 k4
 have hg0:¬ limit=0:=of_decide_eq_false hg0
 rw [if_neg hg0] at hR
 refine bn (fun zs M'=>∃ (M5:RM),zs=[N .i64 (((if !wb then limit - 1 else limit) : Nat) : Int)]∧M'=PM M5 b T (if !wb then Sort.breakPatterns d3 a e else d3)∧ah [] M M5) ?_ ?_
 ·rintro zs M' ⟨M5,rfl,rfl,k5⟩
  dsimp only [aa]
  have hs5:(if !wb then Sort.breakPatterns d3 a e else d3).size=d.size:=by
   split
   ·rw [O7,hs3]
   ·exact hs3
  have hl5:(if !wb then limit - 1 else limit)≤1000000:=by split <;> omega
  generalize (if !wb then Sort.breakPatterns d3 a e else d3)=d5 at *
  generalize (if !wb then limit - 1 else limit)=lim at *
  have hb5:b<M5.next:=Nat.lt_of_lt_of_le hbn k5.next
  rw [← hs5]
  refine hc hb5 (by omega) (by omega) (by omega) fun M6 k6=>?_
  rw [hs5]
  have hcr:=Sort.choosePivot_holds lN d5 a e (by omega)
  unfold Wm at hR
  generalize Sort.choosePivot lN d5 a e=cpv at *
  have k6':=k5.trans k6
  have hb6:b<M6.next:=Nat.lt_of_lt_of_le hbn k6'.next
  rw [oZ,pF]
  refine bn (fun zs M'=>zs=[N .i64 (((if cpv.2=.decreasing then (e - 1) - (cpv.1 - a) else cpv.1) : Nat) : Int),N .i64 (qy (if cpv.2=.decreasing then .increasing else cpv.2))]∧M'=PM M6 b T (if cpv.2=.decreasing then Sort.reverseRange d5 a e else d5)) ?_ ?_
  ·rintro zs M' ⟨rfl,rfl⟩
   dsimp only [aa]
   have hs7:(if cpv.2=.decreasing then Sort.reverseRange d5 a e else d5).size=d.size:=by
    split
    ·rw [Uz,hs5]
    ·exact hs5
   have hpv:a≤(if cpv.2=.decreasing then (e - 1) - (cpv.1 - a) else cpv.1)∧(if cpv.2=.decreasing then (e - 1) - (cpv.1 - a) else cpv.1)<e:=by
    split <;> omega
   generalize (if cpv.2=.decreasing then Sort.reverseRange d5 a e else d5)=d7 at *
   generalize (if cpv.2=.decreasing then (e - 1) - (cpv.1 - a) else cpv.1)=pv at *
   generalize (if cpv.2=.decreasing then Sort.Hint.increasing else cpv.2)=hint at *
   unfold Ww XK at hR
   -- behind the short insertion sort
   have rest:∀ d8:Array Nat,d8.size=d.size→R=Nr d8 a e pv lim wb wp→∀ (J:ai),True→af .gtr (N .i64 (a:Int)) (N .i64 ((0:Nat) : Int)) fun t74 =>
     ae t74 true (fun k'=>af .sub (N .i64 (a:Int)) (N .i64 1) fun t78=>ax (vv b d.size) t78 1 fun t79=>aj (PM M6 b T d8) t79 fun t80=>ax (vv b d.size) (N .i64 (pv:Int)) 1 fun t83=>aj (PM M6 b T d8) t83 fun t84=>cl [t80,t84] (PM M6 b T d8) fun t85 M_52=>dU t85 fun t86=>k' t86 M_52 none) (fun k=>k .undef (PM M6 b T d8) none) fun t86_56 M_57 b_58 =>
     aP t74 t86_56 (Bo false) fun t87=>aA t87 (
      ce [vv b d.size,N .i64 (a:Int),N .i64 (e:Int),N .i64 (pv:Int)] M_57 fun t92 M_59=>next [t92,N .i64 (e:Int),N .i64 (lim:Int),Bo wb,Bo wp] M_59) (
      ct [vv b d.size,N .i64 (a:Int),N .i64 (e:Int),N .i64 (pv:Int)] M_57 fun t99 M_60=>gU t99 0 fun t100=>gU t99 1 fun t101=>af .sub t100 (N .i64 (a:Int)) fun t105=>af .sub (N .i64 (e:Int)) t100 fun t108 =>
      af .quo (N .i64 ((e - a:Nat) : Int)) (N .i64 8) fun t110=>af .lss t105 t108 fun t113=>aA t113 (af .geq t105 t110 fun t116=>cq [vv b d.size,N .i64 (a:Int),t100,N .i64 (lim:Int)] M_60 fun t121 M_61=>af .add t100 (N .i64 1) fun t123=>next [t123,N .i64 (e:Int),N .i64 (lim:Int),t116,t101] M_61) (
      af .geq t108 t110 fun t126=>af .add t100 (N .i64 1) fun t129=>cq [vv b d.size,t129,N .i64 (e:Int),N .i64 (lim:Int)] M_60 fun t132 M_62=>next [N .i64 (a:Int),t100,N .i64 (lim:Int),t126,t101] M_62)):=fun d8 hs8 hR8 _ _=>by
    unfold Nr at hR8
    rw [vB]
    refine OL (p:=!lN d8[a - 1]! d8[pv]!) (fun hc k hk=>?_) ?_
    ·have hc:a > 0:=of_decide_eq_true hc
     rw [dm (by omega) (by omega),PM.rd hs8.symm (by omega),PM.rd hs8.symm (by omega)]
     refine hl ?_
     rw [bO]
     exact hk
    refine aI (fun h=>?_) (fun h=>?_)
    ·rw [if_pos h] at hR8
     rw [← hs8]
     refine he hb6 (by omega) hpv.1 hpv.2 (by omega) ?_
     have hE:=O1 d8 a e pv (by omega)
     generalize Sort.partitionEqual lN d8 a e pv=pe at *
     dsimp only at hR8
     rw [dif_pos ⟨hE.2.1,hE.2.2⟩] at hR8
     exact hnext _ _ _ (by omega) ⟨pe.1,e,lim,wb,wp,pe.2,M6,rfl,rfl,hE.2.2,hed,by omega,hl5,rfl,k6',by rw [hE.1,hs8],hR8⟩
    ·rw [if_neg (by rw [h]; decide)] at hR8
     rw [← hs8]
     refine ht hb6 (by omega) hpv.1 hpv.2 (by omega) ?_
     have hT:=Sort.partition_holds lN Oz d8 a e pv hpv.1 hpv.2 (by omega)
     have hTs:=QQ d8 a e pv
     generalize Sort.partition lN d8 a e pv=pp at *
     obtain ⟨mid,ap,d9⟩:=pp
     dsimp only at hR8 hT hTs ⊢
     rw [dif_pos ⟨hT.1,hT.2.1⟩] at hR8
     have hT1:=hT.1
     have hT2:=hT.2.1
     rw [oZ,pF,gK hT1 (by omega),gK (by omega) (by omega),nz]
     refine ⟨by decide, ?_⟩
     rw [show (8:Int)=((8:Nat) : Int) from rfl,qM,bD (by omega) (by omega),dX]
     refine aI (fun hc1=>?_) (fun hc1=>?_)
     ·have hc1:mid - a<e - mid:=of_decide_eq_true hc1
      rw [if_pos hc1] at hR8
      rw [mP,← hTs]
      refine hq hb6 (by omega) hT1 (by omega) (by omega) hl5 fun M7 k7=>?_
      rw [add1 (by omega)]
      exact hnext _ _ _ (by omega) ⟨mid + 1,e,lim,_,ap,_,M7,rfl,rfl,by omega,hed,by omega,hl5,rfl,k6'.trans k7,by rw [xy _ _ _ _ _ _ _ (Nat.le_refl _),hTs,hs8],hR8⟩
     ·have hc1:¬ mid - a<e - mid:=of_decide_eq_false hc1
      rw [if_neg hc1] at hR8
      rw [mP,add1 (by omega),← hTs]
      refine hq hb6 (by omega) (by omega) (by omega) (by omega) hl5 fun M7 k7=>?_
      exact hnext _ _ _ (by omega) ⟨a,mid,lim,_,ap,_,M7,rfl,rfl,hT1,by omega,by omega,hl5,rfl,k6'.trans k7,by rw [xy _ _ _ _ _ _ _ (Nat.le_refl _),hTs,hs8],hR8⟩
   refine bn (fun zs M'=>∃ d8:Array Nat,M'=PM M6 b T d8∧d8.size=d.size∧R=Nr d8 a e pv lim wb wp) ?_ ?_
   ·rintro zs M' ⟨d8,rfl,hs8,hR8⟩
    exact rest d8 hs8 hR8 (fun _ _=>True) trivial
   intro J10 hJ10
   have no:¬ (wb && wp && decide (hint=.increasing))=true→J10 [] (PM M6 b T d7):=fun hn=>by
    have hpi:(if (wb && wp && decide (hint=.increasing))=true then Sort.partialInsertionSort lN d7 a e else (d7,false))=(d7,false):=if_neg hn
    rw [hpi] at hR
    exact hJ10 _ _ ⟨d7,rfl,hs7,hR⟩
   cases wb with
   | false =>
     rw [bV]
     dsimp only
     rw [bU,bV]
     dsimp only
     rw [bV]
     dsimp only
     rw [bU,bK]
     exact no (by simp)
   | true =>
     rw [bS]
     dsimp only
     rw [dF]
     cases wp with
     | false =>
       rw [bV]
       dsimp only
       rw [bV]
       dsimp only
       rw [bU,bK]
       exact no (by simp)
     | true =>
       rw [bS]
       dsimp only
       rw [bS]
       dsimp only
       rw [di,dF]
       by_cases hin:hint=.increasing
       ·rw [show (qy hint == 1)=true by rw [hin]; rfl,dP]
        have hpi:(if (true && true && decide (hint=.increasing))=true then Sort.partialInsertionSort lN d7 a e else (d7,false))=Sort.partialInsertionSort lN d7 a e:=if_pos (by simp [hin])
        rw [hpi] at hR
        rw [← hs7]
        refine hp hb6 (by omega) (by omega) (by omega) ?_
        have hs8:(Sort.partialInsertionSort lN d7 a e).1.size=d.size:=by
         rw [Sort.partialInsertionSort,BN,hs7]
        generalize Sort.partialInsertionSort lN d7 a e=pi at *
        refine aI (fun h=>?_) (fun h=>?_)
        ·rw [if_pos h] at hR
         rw [← hR]
         exact hQ M6 k6'
        ·rw [if_neg (by rw [h]; decide)] at hR
         exact hJ10 _ _ ⟨pi.1,rfl,hs8,hR⟩
       ·rw [show (qy hint == 1)=false by cases hint <;> first | rfl | exact absurd rfl hin,bK]
        exact no (by simp [hin])
  intro J6 hJ6
  rw [di]
  by_cases hdec:cpv.2=.decreasing
  ·rw [show (qy cpv.2 == 2)=true by rw [hdec]; rfl,dP,← hs5]
   refine hr hb6 (by omega) hae (by omega) (by omega) ?_
   rw [dm (by omega) (by omega),gK (by omega) (by omega),gK (by omega) (by omega)]
   exact hJ6 _ _ ⟨by rw [if_pos hdec,if_pos hdec]; rfl,by rw [if_pos hdec]⟩
  ·rw [show (qy cpv.2 == 2)=false by cases h:cpv.2 <;> first | rfl | exact absurd h hdec,bK]
   exact hJ6 _ _ ⟨by rw [if_neg hdec,if_neg hdec],by rw [if_neg hdec]⟩
 intro J hJ
 rw [bO]
 cases wb with
 | true =>
   rw [Bool.not_true,bK]
   exact hJ _ _ ⟨M4,rfl,rfl,k4⟩
 | false =>
   rw [Bool.not_false,dP,← hs3]
   refine hb hb4 (by omega) hae (by omega) fun M5 k5=>?_
   rw [dm (by omega) (by omega)]
   exact hJ _ _ ⟨M5,rfl,rfl,k4.trans k5⟩
end Go.Ab.aC
set_option maxRecDepth 10000
set_option linter.unusedVariables false
set_option linter.unusedSimpArgs false
namespace Go.Ab.Crw
open Go Go.Ab Go.Ab.aC
section
variable {α:Type} [Inhabited α] {E:Enc α} {M M' : RM} {T b z n i j:Nat} {d:Array α}
structure At (E:Enc α) (T b:Nat) (d:Array α) (M:RM) : Prop where
 heap:M.heap b=some (.row (E.row d.toList) true T 0)
 lt:b<M.next
abbrev sv (b n z:Nat) : AV:=.slc b 0 n (.op z)
theorem At.keep {α:Type} {E:Enc α} {d:Array α} (h:At E T b d M) (k:ah [] M M') : At E T b d M':=⟨k.aO h.heap h.lt (by simp),Nat.lt_of_lt_of_le h.lt k.next⟩
theorem Kh (hi:i<d.size) : d[i]! = d[i]:=getElem!_pos d i hi
theorem At.idx {kd:IntKind} {K:AV→Prop} (hi:i<n) : ax (sv b n z) (N kd (i:Int)) z K=K (.ptr b (i * z)):=by
 rw [lQ]
 simp only [Int.toNat_natCast]
 rw [Nat.zero_add]
 exact propext ⟨fun h=>h.2.2,fun h=>⟨by omega,by omega,h⟩⟩
theorem At.ld (h:At E T b d M) (hz:E.size=z) (hi:i<d.size) {K:AV→Prop} : aH M (.ptr b (i * z)) z K=K (.agg (E.cells d[i]!)):=by
 subst hz
 have hl:M.loads b (i * E.size) E.size=some (E.cells d[i]!):=by
  have hlen:(E.row d.toList).length=d.size * E.size:=by rw [Enc.ed,Array.length_toList]
  have hsum:i * E.size + E.size≤d.size * E.size:=by rw [← Nat.succ_mul]; exact Nat.mul_le_mul_right _ hi
  rw [RM.dh h.heap (by omega),E.Rs (by rw [Array.length_toList]; exact hi),Kh hi]
  simp
 rw [eQ,hl]
 simp
theorem At.rd (h:At E T b d M) (hz:E.size=z) (hn:n=d.size) (hi:i<d.size) {kd:IntKind} {K:AV→Prop} : (ax (sv b n z) (N kd (i:Int)) z fun p=>aH M p z K)=K (.agg (E.cells d[i]!)):=by
 rw [At.idx (by omega),h.ld hz hi]
theorem YS {α:Type} {E:Enc α} {l:List α} {i:Nat} {x:α} (hi:i<l.length) : (E.row l).take (i * E.size)++E.cells x++(E.row l).drop (i * E.size + E.size)=E.row (l.set i x):=by
 rw [List.set_eq_take_append_cons_drop,if_pos hi,E.rJ,E.iH,E.uk,← Nat.succ_mul,E.uq,List.append_assoc]
theorem At.st {α:Type} {E:Enc α} {d:Array α} (h:At E T b d M) (hz:E.size=z) (hi:i<d.size) {x:α} {K:RM→Prop} (hK:∀ M',At E T b (d.setIfInBounds i x) M'→ah [b] M M'→M'.next=M.next→K M') : aN M (.ptr b (i * z)) (.agg (E.cells x)) z K:=by
 subst hz
 have hlen:(E.row d.toList).length=d.size * E.size:=by rw [Enc.ed,Array.length_toList]
 have hsum:i * E.size + E.size≤d.size * E.size:=by rw [← Nat.succ_mul]; exact Nat.mul_le_mul_right _ hi
 rw [vR]
 refine ⟨E.len x,_,RM.Ae h.heap (by show i * E.size + (E.cells x).length≤_; rw [E.len]; omega) (Nat.zero_le _) (E.one x), ?_⟩
 refine hK _ ⟨?_,h.lt⟩ ((ah.refl _ _).put _ (.inr (by simp))) rfl
 rw [aZ]
 have hi' : i<d.toList.length:=by rw [Array.length_toList]; exact hi
 have:=YS (E:=E) (x:=x) hi'
 rw [Array.toList_setIfInBounds,← this]
 show some (RB.row ((E.row d.toList).take (i * E.size)++E.cells x++(E.row d.toList).drop (i * E.size + (E.cells x).length)) true T 0)=_
 rw [E.len]
theorem dR (d:Array α) (i j:Nat) : (Sort.swp d i j).size=d.size:=by simp [Sort.swp]
theorem At.swap (h:At E T b d M) (hz:E.size=z) (hn:n=d.size) (hi:i<d.size) (hj:j<d.size) {k1 k2:IntKind} {K:RM→Prop} (hK:∀ M',At E T b (Sort.swp d i j) M'→ah [b] M M'→K M') :
  ax (sv b n z) (N k1 (i:Int)) z fun p=>aN M p (.agg (E.cells d[j]!)) z fun M1=>ax (sv b n z) (N k2 (j:Int)) z fun q=>aN M1 q (.agg (E.cells d[i]!)) z K:=by
 rw [At.idx (by omega)]
 refine h.st hz hi fun M1 h1 k1 _=>?_
 rw [At.idx (by omega)]
 refine h1.st hz (by simpa using hj) fun M2 h2 k2 _=>?_
 exact hK M2 h2 (k1.trans k2)
def wY (E:Enc α) (lt:α→α→Bool) (c:List AV→RM→ai→Prop) : Prop:=∀ {M:RM} {x y:α} {Q:ai},(∀ (n:Int) M',decide (n<0)=lt x y→ah [] M M'→Q (N .i64 n) M')→c [.agg (E.cells x),.agg (E.cells y)] M Q
theorem wY.use {α:Type} {E:Enc α} {lt:α→α→Bool} {c:List AV→RM→ai→Prop} (h:wY E lt c) {M:RM} {x y:α} {K:AV→RM→Prop} (hK:∀ M',ah [] M M'→K (Bo (lt x y)) M') :
  c [.agg (E.cells x),.agg (E.cells y)] M fun t M'=>af .lss t (N .i64 0) fun u=>K u M':=by
 refine h fun n M' hn k=>?_
 rw [bL,hn]
 exact hK M' k
def SortG (E:Enc α) (T z:Nat) (fv:AV) (f:Array α→Nat→Nat→Array α) (P:Array α→Nat→Nat→Prop) (c:av) : Prop:=∀ {M:RM} {b a e:Nat} {d:Array α} {Q:ai},At E T b d M→d.size≤60000→a≤e→e≤d.size→P d a e→(∀ M',At E T b (f d a e) M'→ah [b] M M'→Q (.tup []) M') →
 c [sv b d.size z,N .i64 (a:Int),N .i64 (e:Int),fv] M Q
end
section
variable {α:Type} [Inhabited α] (lt:α→α→Bool)
theorem H6 (a:Nat) : ∀ (j:Nat) (d:Array α),(Sort.insInner lt a j d).size=d.size
 | 0,d=>rfl
 | j + 1,d=>by
   rw [Sort.insInner]
   split
   ·rw [H6 a j,dR]
   ·rfl
theorem Ie (a e:Nat) : ∀ (k i:Nat) (d:Array α),e - i≤k→(Sort.insOuter lt a e i d).size=d.size
 | 0,i,d,h=>by rw [Sort.insOuter,if_neg (by omega)]
 | k + 1,i,d,h=>by
   rw [Sort.insOuter]
   split
   ·rw [Ie a e k _ _ (by omega),H6]
   ·rfl
theorem aa3 (d:Array α) (a e:Nat) : (Sort.insertionSort lt d a e).size=d.size:=Ie lt a e _ _ _ (Nat.le_refl _)
theorem zK (hi first:Nat) : ∀ (k lo:Nat) (d:Array α),hi - lo≤k→(Sort.siftDown lt hi first lo d).size=d.size
 | 0,lo,d,h=>by rw [Sort.siftDown,dif_pos (by omega)]
 | k + 1,lo,d,h=>by
   rw [Sort.siftDown]
   split
   ·rfl
   ·split
    ·split
     ·rfl
     ·split
      ·rw [zK hi first k _ _ (by omega),dR]
      ·rfl
    ·split
     ·rfl
     ·rw [zK hi first k _ _ (by omega),dR]
theorem QS (hi first:Nat) : ∀ (k:Nat) (d:Array α),(Sort.heapBuild lt hi first k d).size=d.size
 | 0,d=>rfl
 | k + 1,d=>by rw [Sort.heapBuild,QS hi first k,zK lt hi first hi _ _ (by omega)]
theorem Yi (first:Nat) : ∀ (k:Nat) (d:Array α),(Sort.heapPop lt first k d).size=d.size
 | 0,d=>rfl
 | k + 1,d=>by rw [Sort.heapPop,Yi first k,zK lt _ _ k _ _ (by omega),dR]
theorem Zy (d:Array α) (a e:Nat) : (Sort.heapSort lt d a e).size=d.size:=by rw [Sort.heapSort,Yi,QS]
theorem Ld:∀ (k i j:Nat) (d:Array α),j - i≤k→(Sort.reverseLoop i j d).size=d.size
 | 0,i,j,d,h=>by rw [Sort.reverseLoop,if_neg (by omega)]
 | k + 1,i,j,d,h=>by
   rw [Sort.reverseLoop]
   split
   ·rw [Ld k _ _ _ (by omega),dR]
   ·rfl
theorem Ym (d:Array α) (a e:Nat) : (Sort.reverseRange d a e).size=d.size:=Ld _ _ _ _ (Nat.le_refl _)
theorem uH (a l m:Nat) (st:UInt64 × Array α) (i:Nat) : (Sort.breakStep a l m st i).2.size=st.2.size:=dR _ _ _
theorem Rh (d:Array α) (a e:Nat) : (Sort.breakPatterns d a e).size=d.size:=by
 unfold Sort.breakPatterns
 dsimp only
 split
 ·rw [uH,uH,uH]
 ·rfl
theorem yD:∀ (j:Nat) (d:Array α),(Sort.shiftDown lt j d).size=d.size
 | 0,d=>rfl
 | j + 1,d=>by
   rw [Sort.shiftDown]
   split
   ·rfl
   ·rw [yD j,dR]
theorem LZ (e:Nat) : ∀ (k j:Nat) (d:Array α),e - j≤k→(Sort.shiftUp lt e j d).size=d.size
 | 0,j,d,h=>by rw [Sort.shiftUp,if_neg (by omega)]
 | k + 1,j,d,h=>by
   rw [Sort.shiftUp]
   split
   ·split
    ·rfl
    ·rw [LZ e k _ _ (by omega),dR]
   ·rfl
theorem xR (a b s i:Nat) (d:Array α) : Sort.partialIns lt a b (s + 1) i d =
  if Sort.scanSorted lt d b i=b then (d,true) else if b - a<50 then (d,false) else
   Sort.partialIns lt a b s (Sort.scanSorted lt d b i) (if b - Sort.scanSorted lt d b i ≥ 2 then Sort.shiftUp lt b (Sort.scanSorted lt d b i + 1) (if Sort.scanSorted lt d b i - a ≥ 2 then Sort.shiftDown lt (Sort.scanSorted lt d b i - 1) (Sort.swp d (Sort.scanSorted lt d b i) (Sort.scanSorted lt d b i - 1)) else Sort.swp d (Sort.scanSorted lt d b i) (Sort.scanSorted lt d b i - 1))
    else (if Sort.scanSorted lt d b i - a ≥ 2 then Sort.shiftDown lt (Sort.scanSorted lt d b i - 1) (Sort.swp d (Sort.scanSorted lt d b i) (Sort.scanSorted lt d b i - 1)) else Sort.swp d (Sort.scanSorted lt d b i) (Sort.scanSorted lt d b i - 1))):=rfl
theorem Ea (a e:Nat) : ∀ (s i:Nat) (d:Array α),(Sort.partialIns lt a e s i d).1.size=d.size
 | 0,i,d=>rfl
 | s + 1,i,d=>by
   rw [xR]
   split
   ·rfl
   ·split
    ·rfl
    ·rw [Ea a e s]
     have h1:∀ x,(if x - a ≥ 2 then Sort.shiftDown lt (x - 1) (Sort.swp d x (x - 1)) else Sort.swp d x (x - 1)).size=d.size:=fun x=>by
      split
      ·rw [yD,dR]
      ·rw [dR]
     split
     ·rw [LZ lt e e _ _ (by omega),h1]
     ·rw [h1]
theorem GH (p:α→Bool) (d:Array α) (J:Nat) : ∀ (n i:Nat),J + 1 - i≤n→i≤Sort.scanUp p d J i∧Sort.scanUp p d J i≤max (J + 1) i
 | 0,i,h=>by
   rw [Sort.scanUp,if_neg (by simp; omega)]; omega
 | n + 1,i,h=>by
   rw [Sort.scanUp]
   split
   ·rename_i hc
    rw [Bool.and_eq_true] at hc
    have:=of_decide_eq_true hc.1
    have:=GH p d J n (i + 1) (by omega)
    omega
   ·omega
theorem Ak (p:α→Bool) (d:Array α) (i:Nat) : ∀ j,Sort.scanDown p d i j≤j
 | 0=>Nat.le_refl _
 | j + 1=>by
   rw [Sort.scanDown]
   split
   ·have:=Ak p d i j; omega
   ·omega
theorem DT (a:Nat) : ∀ (n i j:Nat) (d:Array α),j + 1 - i≤n→i≤(Sort.partEqLoop lt a i j d).1∧(Sort.partEqLoop lt a i j d).1≤max (j + 1) i∧(Sort.partEqLoop lt a i j d).2.size=d.size
 | n,i,j,d,h=>by
   have h1:=GH (fun x=>!lt d[a]! x) d j _ i (Nat.le_refl _)
   have h2:=Ak (fun x=>lt d[a]! x) d (Sort.scanUp (fun x=>!lt d[a]! x) d j i) j
   rw [Sort.partEqLoop]
   generalize Sort.scanUp (fun x=>!lt d[a]! x) d j i=i2 at *
   generalize Sort.scanDown (fun x=>lt d[a]! x) d i2 j=j2 at *
   split
   ·exact ⟨h1.1,h1.2,rfl⟩
   ·split
    ·cases n with
     | zero=>omega
     | succ n =>
       have h3:=DT a n (i2 + 1) (j2 - 1) (Sort.swp d i2 j2) (by omega)
       rw [dR] at h3
       omega
    ·exact ⟨h1.1,h1.2,rfl⟩
theorem Jm (a:Nat) : ∀ (n i j:Nat) (d:Array α),j + 1 - i≤n→(Sort.partLoop lt a i j d).1≤j∧(Sort.partLoop lt a i j d).2.size=d.size
 | n,i,j,d,h=>by
   have h1:=GH (fun x=>lt x d[a]!) d j _ i (Nat.le_refl _)
   have h2:=Ak (fun x=>!lt x d[a]!) d (Sort.scanUp (fun x=>lt x d[a]!) d j i) j
   rw [Sort.partLoop]
   generalize Sort.scanUp (fun x=>lt x d[a]!) d j i=i2 at *
   generalize Sort.scanDown (fun x=>!lt x d[a]!) d i2 j=j2 at *
   split
   ·exact ⟨h2,rfl⟩
   ·split
    ·cases n with
     | zero=>omega
     | succ n =>
       have h3:=Jm a n (i2 + 1) (j2 - 1) (Sort.swp d i2 j2) (by omega)
       rw [dR] at h3
       exact ⟨by omega,h3.2⟩
    ·exact ⟨h2,rfl⟩
theorem Rn (d:Array α) (a e pv:Nat) (h:a<e) : (Sort.partitionEqual lt d a e pv).2.size=d.size∧a<(Sort.partitionEqual lt d a e pv).1∧(Sort.partitionEqual lt d a e pv).1≤e:=by
 unfold Sort.partitionEqual
 have:=DT lt a _ (a + 1) (e - 1) (Sort.swp d a pv) (Nat.le_refl _)
 rw [dR] at this
 omega
def pI (d2:Array α) (a e:Nat) : Nat:=Sort.scanUp (fun x=>lt x d2[a]!) d2 (e - 1) (a + 1)
def pJ (d2:Array α) (a e:Nat) : Nat:=Sort.scanDown (fun x=>!lt x d2[a]!) d2 (pI lt d2 a e) (e - 1)
def pL (d2:Array α) (a e:Nat) : Nat × Array α:=Sort.partLoop lt a (pI lt d2 a e + 1) (pJ lt d2 a e - 1) (Sort.swp d2 (pI lt d2 a e) (pJ lt d2 a e))
theorem zY (d:Array α) (a e pv:Nat) : Sort.partition lt d a e pv =
  if pI lt (Sort.swp d a pv) a e > pJ lt (Sort.swp d a pv) a e then (pJ lt (Sort.swp d a pv) a e,true,Sort.swp (Sort.swp d a pv) (pJ lt (Sort.swp d a pv) a e) a)
  else ((pL lt (Sort.swp d a pv) a e).1,false,Sort.swp (pL lt (Sort.swp d a pv) a e).2 (pL lt (Sort.swp d a pv) a e).1 a):=rfl
theorem Vy (d:Array α) (a e pv:Nat) : (Sort.partition lt d a e pv).2.2.size=d.size:=by
 rw [zY]
 split
 ·show (Sort.swp _ _ _).size=_
  rw [dR,dR]
 ·show (Sort.swp _ _ _).size=_
  rw [dR,pL,(Jm lt a _ _ _ _ (Nat.le_refl _)).2,dR,dR]
def gC (d3:Array α) (a e pv limit:Nat) (wb wp:Bool) : Array α :=
 if a > 0 && !lt d3[a - 1]! d3[pv]! then
  match Sort.partitionEqual lt d3 a e pv with
  | (mid,d4)=>if _h:a<mid∧mid≤e then Sort.pdq lt d4 mid e limit wb wp else d4
 else
  match Sort.partition lt d3 a e pv with
  | (mid,ap,d4) =>
    if _h:a≤mid∧mid<e then
     if mid - a<e - mid then Sort.pdq lt (Sort.pdq lt d4 a mid limit true true) (mid + 1) e limit (decide (mid - a ≥ (e - a) / 8)) ap
     else Sort.pdq lt (Sort.pdq lt d4 (mid + 1) e limit true true) a mid limit (decide (e - mid ≥ (e - a) / 8)) ap
    else d4
def gP (pi:Array α × Bool) (a e pv limit:Nat) (wb wp:Bool) : Array α:=if pi.2 then pi.1 else gC lt pi.1 a e pv limit wb wp
def gB (d2:Array α) (a e pv:Nat) (hint:Sort.Hint) (limit:Nat) (wb wp:Bool) : Array α :=
 gP lt (if wb && wp && hint=.increasing then Sort.partialInsertionSort lt d2 a e else (d2,false)) a e pv limit wb wp
def gA (d1:Array α) (a e limit:Nat) (wb wp:Bool) : Array α :=
 gB lt (if (Sort.choosePivot lt d1 a e).2=.decreasing then Sort.reverseRange d1 a e else d1) a e (if (Sort.choosePivot lt d1 a e).2=.decreasing then (e - 1) - ((Sort.choosePivot lt d1 a e).1 - a) else (Sort.choosePivot lt d1 a e).1)
  (if (Sort.choosePivot lt d1 a e).2=.decreasing then .increasing else (Sort.choosePivot lt d1 a e).2) limit wb wp
theorem Gi (d:Array α) (a e limit:Nat) (wb wp:Bool) : Sort.pdq lt d a e limit wb wp =
  if e - a≤12 then Sort.insertionSort lt d a e else if limit=0 then Sort.heapSort lt d a e else gA lt (if !wb then Sort.breakPatterns d a e else d) a e (if !wb then limit - 1 else limit) wb wp:=by
 rw [Sort.pdq]; rfl
theorem BR:∀ (n:Nat) (d:Array α) (a e limit:Nat) (wb wp:Bool),e - a≤n→(Sort.pdq lt d a e limit wb wp).size=d.size
 | n,d,a,e,limit,wb,wp,hn=>by
   rw [Gi]
   split
   ·exact aa3 lt d a e
   split
   ·exact Zy lt d a e
   have h1:(if !wb then Sort.breakPatterns d a e else d).size=d.size:=by split; exact Rh d a e; rfl
   rw [← h1]
   generalize (if !wb then Sort.breakPatterns d a e else d)=d1
   unfold gA
   have h2:(if (Sort.choosePivot lt d1 a e).2=.decreasing then Sort.reverseRange d1 a e else d1).size=d1.size:=by split; exact Ym d1 a e; rfl
   rw [← h2]
   generalize (if (Sort.choosePivot lt d1 a e).2=.decreasing then Sort.reverseRange d1 a e else d1)=d2
   generalize (if (Sort.choosePivot lt d1 a e).2=.decreasing then (e - 1) - ((Sort.choosePivot lt d1 a e).1 - a) else (Sort.choosePivot lt d1 a e).1)=pv
   generalize (if (Sort.choosePivot lt d1 a e).2=.decreasing then Sort.Hint.increasing else (Sort.choosePivot lt d1 a e).2)=hint
   unfold gB
   have h3:(if wb && wp && hint=.increasing then Sort.partialInsertionSort lt d2 a e else (d2,false)).1.size=d2.size:=by
    split
    ·exact Ea lt a e _ _ _
    ·rfl
   rw [← h3]
   generalize (if wb && wp && hint=.increasing then Sort.partialInsertionSort lt d2 a e else (d2,false))=pi
   unfold gP
   split
   ·rfl
   unfold gC
   have hE:=Rn lt pi.1 a e pv
   have hP:=Vy lt pi.1 a e pv
   generalize Sort.partitionEqual lt pi.1 a e pv=pe at *
   generalize Sort.partition lt pi.1 a e pv=pp at *
   obtain ⟨mid,d4⟩:=pe
   obtain ⟨mid2,ap,d5⟩:=pp
   cases n with
   | zero=>omega
   | succ n =>
     split
     ·dsimp only
      split
      ·rw [BR n _ _ _ _ _ _ (by omega)]
       exact (hE (by omega)).1
      ·exact (hE (by omega)).1
     ·dsimp only at hP ⊢
      split
      ·split
       ·rw [BR n _ _ _ _ _ _ (by omega),BR n _ _ _ _ _ _ (by omega)]; exact hP
       ·rw [BR n _ _ _ _ _ _ (by omega),BR n _ _ _ _ _ _ (by omega)]; exact hP
      ·exact hP
theorem xn (d:Array α) (i j k:Nat) : (((Sort.order2 lt d i j k).1=i∧(Sort.order2 lt d i j k).2.1=j)∨((Sort.order2 lt d i j k).1=j∧(Sort.order2 lt d i j k).2.1=i))∧k≤(Sort.order2 lt d i j k).2.2∧(Sort.order2 lt d i j k).2.2≤k + 1:=by
 unfold Sort.order2
 split <;> simp
theorem Gl (d:Array α) {i j h k n:Nat} (hi:i<n) (hj:j<n) (hh:h<n) : (Sort.median lt d i j h k).1<n∧(Sort.median lt d i j h k).2≤k + 3:=by
 unfold Sort.median
 dsimp only
 have o1:=xn lt d i j k
 generalize Sort.order2 lt d i j k=r1 at *
 have o2:=xn lt d r1.2.1 h r1.2.2
 generalize Sort.order2 lt d r1.2.1 h r1.2.2=r2 at *
 have o3:=xn lt d r1.1 r2.1 r2.2.2
 omega
end
end Go.Ab.Crw
set_option maxRecDepth 10000
set_option linter.unusedVariables false
set_option linter.unusedSimpArgs false
namespace Go.Ab.Crw
open Go Go.Ab Go.Ab.aC
section
variable {α:Type} [Inhabited α] {E:Enc α} {M M' : RM} {T b z n i j:Nat} {d:Array α} {ks:List Nat}
theorem At.keep' {α:Type} {E:Enc α} {d:Array α} (h:At E T b d M) (k:ah ks M M') (hb:b ∉ ks) : At E T b d M':=⟨k.aO h.heap h.lt hb,Nat.lt_of_lt_of_le h.lt k.next⟩
theorem vC {c p:Bool} {f:KR→Prop} {P:RM→Prop} {G:AV→RM→Prop} (h0:P M) (hf:c=true→∀ k:KR,(∀ M',P M'→k (Bo p) M' none)→f k) (hG:∀ M',P M'→G (Bo (c && p)) M') :
  ae (Bo c) true f (fun k=>k .undef M none) (fun t M' b=>aP (Bo c) t (Bo false) fun u=>G u M'):=by
 cases c with
 | false=>rw [jL]; dsimp only; rw [bU]; exact hG M h0
 | true=>rw [fe]; exact hf rfl _ fun M' h=>by rw [dF]; exact hG M' h
variable {body:(List AV→RM→Prop)→List AV→RM→Prop} {p:α→Bool} {P:RM→Prop}
theorem JK {J i0:Nat} (hP:P M) (h:∀ (next:List AV→RM→Prop) (i:Nat) (M' : RM),P M'→i0≤i→i≤max (J + 1) i0→((decide (i≤J) && p d[i]!)=true→∀ M'',P M''→next [N .i64 ((i + 1:Nat) : Int)] M'')→((decide (i≤J) && p d[i]!)=false→i=Sort.scanUp p d J i0)→body next [N .i64 (i:Int)] M') :
  aU body [N .i64 (i0:Int)] M:=by
 obtain ⟨R,hR⟩ : ∃ R,R=Sort.scanUp p d J i0:=⟨_,rfl⟩
 refine aJ (fun m ys M3=>∃ (i:Nat),m=J + 1 - i∧ys=[N .i64 (i:Int)]∧i0≤i∧i≤max (J + 1) i0∧P M3∧R=Sort.scanUp p d J i) _ ⟨i0,rfl,rfl,Nat.le_refl _,by omega,hP,hR⟩ ?_
 rintro next m ys M3 hnext ⟨i,rfl,rfl,h0,hi,h3,hm⟩
 rw [Sort.scanUp] at hm
 refine h next i M3 h3 h0 hi (fun hc M4 h4=>?_) (fun hc=>?_)
 ·rw [if_pos hc] at hm
  have hij:i≤J:=by
   rw [Bool.and_eq_true] at hc
   exact of_decide_eq_true hc.1
  exact hnext _ _ _ (by omega) ⟨i + 1,rfl,rfl,by omega,by omega,h4,hm⟩
 ·rw [if_neg (by rw [hc]; decide)] at hm
  rw [← hR]; exact hm.symm
theorem DZ {i j0:Nat} (hP:P M) (h1:1≤i) (h:∀ (next:List AV→RM→Prop) (j:Nat) (M' : RM),P M'→j≤j0→(j=j0∨i≤j + 1)→((decide (i≤j) && p d[j]!)=true→∀ M'',P M''→next [N .i64 ((j - 1:Nat) : Int)] M'')→((decide (i≤j) && p d[j]!)=false→j=Sort.scanDown p d i j0)→body next [N .i64 (j:Int)] M') :
  aU body [N .i64 (j0:Int)] M:=by
 obtain ⟨R,hR⟩ : ∃ R,R=Sort.scanDown p d i j0:=⟨_,rfl⟩
 refine aJ (fun m ys M3=>∃ (j:Nat),m=j + 1∧ys=[N .i64 (j:Int)]∧j≤j0∧(j=j0∨i≤j + 1)∧P M3∧R=Sort.scanDown p d i j) _ ⟨j0,rfl,rfl,Nat.le_refl _,.inl rfl,hP,hR⟩ ?_
 rintro next m ys M3 hnext ⟨j,rfl,rfl,h0,hi,h3,hm⟩
 refine h next j M3 h3 h0 hi (fun hc M4 h4=>?_) (fun hc=>?_)
 ·have hij:i≤j:=by
   rw [Bool.and_eq_true] at hc
   exact of_decide_eq_true hc.1
  obtain ⟨k,rfl⟩ : ∃ k,j=k + 1:=⟨j - 1,by omega⟩
  rw [Sort.scanDown,if_pos hc] at hm
  exact hnext _ _ _ (by omega) ⟨k,rfl,rfl,by omega,by omega,h4,hm⟩
 ·rw [← hR]
  cases j with
  | zero=>exact hm.symm
  | succ k=>rw [Sort.scanDown,if_neg (by rw [hc]; decide)] at hm; exact hm.symm
end
def Wt (TX:Nat) (c:av) : Prop:=∀ {M:RM} {s:Nat} {r:UInt64} {Q:ai},M.heap s=some (.row [N .u64 (r.toNat:Int)] false TX 0)→s<M.next→(∀ M',M'.heap s=some (.row [N .u64 ((Sort.xorNext r).toNat:Int)] false TX 0)→ah [s] M M'→M'.next=M.next→Q (N .u64 ((Sort.xorNext r).toNat:Int)) M')→c [.ptr s 0] M Q
theorem Vl {TX:Nat} : Wt TX fun args M Q=>∃ a0,args=[a0]∧lC a0 M Q:=by
 intro M s r Q hh hlt hQ
 refine ⟨_,rfl, ?_⟩
 unfold lC
 have st:∀ (M:RM) (r r' : UInt64) (K:RM→Prop),M.heap s=some (.row [N .u64 (r.toNat:Int)] false TX 0)→(∀ M',M'.heap s=some (.row [N .u64 (r'.toNat:Int)] false TX 0)→ah [s] M M'→M'.next=M.next→K M')→aN M (.ptr s 0) (N .u64 (r'.toNat:Int)) 1 K:=fun M r r' K h hK=>by
  rw [fq h (by simp) rfl rfl]
  exact hK _ (aZ _) ((ah.refl _ _).put _ (.inr (by simp))) rfl
 rw [aK,ak hh rfl,aK,ak hh rfl,zo]
 refine ⟨by decide, ?_⟩
 rw [show (13:Int)=((13:Nat) : Int) from rfl,EB (k:=13) (n:=13) rfl (by decide),tV,u64_xor,aK]
 refine st _ _ _ _ hh fun M1 h1 k1 n1=>?_
 rw [aK,ak h1 rfl,aK,ak h1 rfl,wm]
 refine ⟨by decide, ?_⟩
 rw [show (7:Int)=((7:Nat) : Int) from rfl,QN (k:=7) (n:=7) rfl (by decide),tV,u64_xor,aK]
 refine st _ _ _ _ h1 fun M2 h2 k2 n2=>?_
 rw [aK,ak h2 rfl,aK,ak h2 rfl,zo]
 refine ⟨by decide, ?_⟩
 rw [show (17:Int)=((17:Nat) : Int) from rfl,EB (k:=17) (n:=17) rfl (by decide),tV,u64_xor,aK]
 refine st _ _ _ _ h2 fun M3 h3 k3 n3=>?_
 rw [aK,ak h3 rfl]
 exact hQ M3 h3 ((k1.trans k2).trans k3) (by omega)
def BX {α:Type} [Inhabited α] (a l m i0:Nat) (d:Array α) : Nat→UInt64 × Array α
 | 0=>(UInt64.ofNat l,d)
 | k + 1=>Sort.breakStep a l m (BX a l m i0 d k) (i0 + k)
theorem Va {α:Type} [Inhabited α] (a l m i0:Nat) (d:Array α) : ∀ k,(BX a l m i0 d k).2.size=d.size
 | 0=>rfl
 | k + 1=>by
   rw [BX,uH,Va a l m i0 d k]
abbrev aL:=aC × (List UInt8 × List UInt8 × List UInt8)
def ay:Enc aL:=⟨5,fun x=>aQ x.1++[St x.2.1,St x.2.2.1,St x.2.2.2],fun _=>rfl,fun _=>rfl⟩
end Go.Ab.Crw
set_option maxRecDepth 10000
set_option linter.unusedVariables false
set_option linter.unusedSimpArgs false
namespace Go.Ab.Crw
open Go Go.Ab Go.Ab.aC
theorem Xx {T:Nat} {fv:AV} {lt:aL→aL→Bool} {cv:FuncId→av} (hl:wY ay lt (dZ cv fv)) : SortG ay T 5 fv (Sort.insertionSort lt) (fun _ _ _=>True) fun args M Q=>∃ a0 a1 a2 a3,args=[a0,a1,a2,a3]∧fC cv a0 a1 a2 a3 M Q:=by
 intro M b a e d Q hat hsz hae he _ hQ
 refine ⟨_,_,_,_,rfl, ?_⟩
 unfold fC
 simp only [fF,dY,fH]
 rw [add1 (by omega)]
 rw [Sort.insertionSort] at hQ
 obtain ⟨R,hR⟩ : ∃ R,R=Sort.insOuter lt a e (a + 1) d:=⟨_,rfl⟩
 rw [← hR] at hQ
 refine aJ (fun m ys M3=>∃ (i:Nat) (d3:Array aL),m=d.size - i∧ys=[N .i64 (i:Int)]∧i≤d.size + 1∧At ay T b d3 M3∧ah [b] M M3∧d3.size=d.size∧R=Sort.insOuter lt a e i d3) _ ⟨a + 1,d,rfl,rfl,by omega,hat,ah.refl _ _,rfl,hR⟩ ?_
 rintro next m ys M3 hnext ⟨i,d3,rfl,rfl,hi,h3,k3,hs3,hm⟩
 dsimp only [aa]
 rw [dX]
 refine aI (fun hlt=>?_) (fun hge=>?_)
 ·have hlt:i<e:=of_decide_eq_true hlt
  rw [Sort.insOuter,if_pos hlt] at hm
  obtain ⟨R5,hR5⟩ : ∃ R5,R5=Sort.insInner lt a i d3:=⟨_,rfl⟩
  rw [← hR5] at hm
  refine aJ (fun m ys M5=>∃ (j:Nat) (d5:Array aL),m=j + 1∧ys=[N .i64 (j:Int)]∧j≤i∧At ay T b d5 M5∧ah [b] M M5∧d5.size=d.size∧R5=Sort.insInner lt a j d5) _ ⟨i,d3,rfl,rfl,Nat.le_refl _,h3,k3,hs3,hR5⟩ ?_
  rintro next2 m ys M5 hnext2 ⟨j,d5,rfl,rfl,hj,h5,k5,hs5,hm5⟩
  dsimp only [aa]
  rw [vB]
  have out:∀ M6,At ay T b d5 M6→ah [b] M M6→Sort.insInner lt a j d5=d5→af .add (N .i64 (i:Int)) (N .i64 1) (fun t14=>next [t14] M6):=fun M6 h6 k6 h=>by
   rw [add1 (by omega)]
   refine hnext _ _ _ (by omega) ⟨i + 1,d5,rfl,rfl,by omega,h6,k6,hs5, ?_⟩
   rw [hm,hm5,h]
  by_cases hg:j > a
  ·obtain ⟨k,rfl⟩ : ∃ k,j=k + 1:=⟨j - 1,by omega⟩
   rw [decide_eq_true hg,fe]
   dsimp only
   rw [h5.rd (z:=5) rfl hs5.symm (by omega),dm (by omega) (by omega),Nat.add_sub_cancel,h5.rd (z:=5) rfl hs5.symm (by omega)]
   refine hl.use fun M6 k6=>?_
   have h6:=h5.keep k6
   have k6':=k5.trans (k6.mono (cs:=[b]) (by simp))
   rw [dF]
   rw [Sort.insInner] at hm5 out
   refine aI (fun h=>?_) (fun h=>?_)
   ·rw [if_pos (by simp [hg,h])] at hm5
    rw [dm (by omega) (by omega),dm (by omega) (by omega),Nat.add_sub_cancel,h6.rd (z:=5) rfl hs5.symm (by omega),h6.rd (z:=5) rfl hs5.symm (by omega)]
    refine h6.swap (z:=5) rfl hs5.symm (by omega) (by omega) fun M7 h7 k7=>?_
    rw [dm (by omega) (by omega),Nat.add_sub_cancel]
    exact hnext2 _ _ _ (by omega) ⟨k,_,rfl,rfl,by omega,h7,k6'.trans k7,by rw [dR]; exact hs5,hm5⟩
   ·exact out M6 h6 k6' (by rw [if_neg (by simp [h])])
  ·rw [decide_eq_false hg,jL]
   dsimp only
   rw [bU,bK]
   refine out M5 h5 k5 ?_
   cases j with
   | zero=>rfl
   | succ k=>rw [Sort.insInner,if_neg (by simp [hg])]
 ·have hge:¬ i<e:=of_decide_eq_false hge
  rw [Sort.insOuter,if_neg hge] at hm
  subst hm
  exact hQ M3 h3 k3
theorem Xy {T:Nat} {fv:AV} : SortG ay T 5 fv Sort.reverseRange (fun _ a e=>a<e) fun args M Q=>∃ a0 a1 a2 a3,args=[a0,a1,a2,a3]∧jK a0 a1 a2 a3 M Q:=by
 intro M b a e d Q hat hsz hae he hP hQ
 refine ⟨_,_,_,_,rfl, ?_⟩
 unfold jK
 rw [dm (by omega) (by omega)]
 rw [Sort.reverseRange] at hQ
 obtain ⟨R,hR⟩ : ∃ R,R=Sort.reverseLoop a (e - 1) d:=⟨_,rfl⟩
 rw [← hR] at hQ
 refine aJ (fun m ys M3=>∃ (i j:Nat) (d3:Array aL),m=j - i∧ys=[N .i64 (i:Int),N .i64 (j:Int)]∧j<d.size∧i≤d.size∧At ay T b d3 M3∧ah [b] M M3∧d3.size=d.size∧R=Sort.reverseLoop i j d3) _ ⟨a,e - 1,d,rfl,rfl,by omega,by omega,hat,ah.refl _ _,rfl,hR⟩ ?_
 rintro next m ys M3 hnext ⟨i,j,d3,rfl,rfl,hj,hi,h3,k3,hs3,hm⟩
 dsimp only [aa]
 rw [dX]
 rw [Sort.reverseLoop] at hm
 refine aI (fun hlt=>?_) (fun hge=>?_)
 ·have hlt:i<j:=of_decide_eq_true hlt
  rw [if_pos hlt] at hm
  rw [h3.rd (z:=5) rfl hs3.symm (by omega),h3.rd (z:=5) rfl hs3.symm (by omega)]
  refine h3.swap (z:=5) rfl hs3.symm (by omega) (by omega) fun M4 h4 k4=>?_
  rw [add1 (by omega),dm (by omega) (by omega)]
  exact hnext _ _ _ (by omega) ⟨i + 1,j - 1,_,rfl,rfl,by omega,by omega,h4,k3.trans k4,by rw [dR]; exact hs3,hm⟩
 ·have hge:¬ i<j:=of_decide_eq_false hge
  rw [if_neg hge] at hm
  subst hm
  exact hQ M3 h3 k3
def SB (T:Nat) (fv:AV) (lt:aL→aL→Bool) (c:av) : Prop:=∀ {M:RM} {b lo hi first:Nat} {d:Array aL} {Q:ai},At ay T b d M→d.size≤60000→first + hi≤d.size→lo≤1000000→(∀ M',At ay T b (Sort.siftDown lt hi first lo d) M'→ah [b] M M'→Q (.tup []) M') →
 c [sv b d.size 5,N .i64 (lo:Int),N .i64 (hi:Int),N .i64 (first:Int),fv] M Q
theorem Ub {T:Nat} {fv:AV} {lt:aL→aL→Bool} {cv:FuncId→av} (hl:wY ay lt (dZ cv fv)) : SB T fv lt fun args M Q=>∃ a0 a1 a2 a3 a4,args=[a0,a1,a2,a3,a4]∧lc cv a0 a1 a2 a3 a4 M Q:=by
 intro M b lo hi first d Q hat hsz hfe hlo hQ
 refine ⟨_,_,_,_,_,rfl, ?_⟩
 unfold lc
 simp only [fF,dY,fH,cZ]
 obtain ⟨R,hR⟩ : ∃ R,R=Sort.siftDown lt hi first lo d:=⟨_,rfl⟩
 rw [← hR] at hQ
 refine aJ (fun m ys M3=>∃ (r:Nat) (d3:Array aL),m=1000000 + hi - r∧ys=[N .i64 (r:Int)]∧(r≤1000000)∧At ay T b d3 M3∧ah [b] M M3∧d3.size=d.size∧R=Sort.siftDown lt hi first r d3) _ ⟨lo,d,rfl,rfl,hlo,hat,ah.refl _ _,rfl,hR⟩ ?_
 rintro next m ys M3 hnext ⟨r,d3,rfl,rfl,hr,h3,k3,hs3,hm⟩
 dsimp only [aa]
 rw [aad (by omega),add1 (by omega),mP]
 rw [Sort.siftDown] at hm
 refine aI (fun hg=>?_) (fun hg=>?_)
 ·rw [dif_pos (of_decide_eq_true hg)] at hm
  subst hm
  exact hQ M3 h3 k3
 have hg:¬ 2 * r + 1 ≥ hi:=of_decide_eq_false hg
 rw [dif_neg hg] at hm
 refine bn (fun zs M'=>∃ c:Nat,zs=[N .i64 (c:Int)]∧At ay T b d3 M'∧ah [b] M M'∧r<c∧c<hi∧R=if !lt d3[first + r]! d3[first + c]! then d3 else Sort.siftDown lt hi first c (Sort.swp d3 (first + r) (first + c))) ?_ ?_
 ·rintro zs M' ⟨c,rfl,h4,k4,hrc,hchi,hm2⟩
  dsimp only [aa]
  rw [addN (by omega),h4.rd (z:=5) rfl hs3.symm (by omega),addN (by omega),h4.rd (z:=5) rfl hs3.symm (by omega)]
  refine hl.use fun M5 k5=>?_
  have h5:=h4.keep k5
  have k5':=k4.trans (k5.mono (cs:=[b]) (by simp))
  rw [bO]
  refine aI (fun h=>?_) (fun h=>?_)
  ·rw [if_pos h] at hm2
   subst hm2
   exact hQ M5 h5 k5'
  ·rw [if_neg (by rw [h]; decide)] at hm2
   rw [addN (by omega),addN (by omega),addN (by omega),h5.rd (z:=5) rfl hs3.symm (by omega),addN (by omega),h5.rd (z:=5) rfl hs3.symm (by omega)]
   refine h5.swap (z:=5) rfl hs3.symm (by omega) (by omega) fun M6 h6 k6=>?_
   exact hnext _ _ _ (by omega) ⟨c,_,rfl,rfl,by omega,h6,k5'.trans k6,by rw [dR]; exact hs3,hm2⟩
 intro J hJ
 rw [add1 (by omega),dX]
 refine vC (P:=fun M'=>At ay T b d3 M'∧ah [b] M M') (p:=lt d3[first + (2 * r + 1)]! d3[first + (2 * r + 1) + 1]!) ⟨h3,k3⟩ (fun hc k hk=>?_) fun M4 ⟨h4,k4⟩=>?_
 ·have hc:2 * r + 1 + 1<hi:=of_decide_eq_true hc
  rw [addN (by omega),h3.rd (z:=5) rfl hs3.symm (by omega),addN (by omega),add1 (by omega),h3.rd (z:=5) rfl hs3.symm (by omega)]
  exact hl.use fun M5 k5=>hk M5 ⟨h3.keep k5,k3.trans (k5.mono (cs:=[b]) (by simp))⟩
 refine aI (fun h=>?_) (fun h=>?_)
 ·have hc:2 * r + 1 + 1<hi:=by
   rw [Bool.and_eq_true] at h
   exact of_decide_eq_true h.1
  rw [add1 (by omega)]
  refine hJ _ _ ⟨2 * r + 2,rfl,h4,k4,by omega,by omega, ?_⟩
  rw [if_pos h,dif_pos (by omega)] at hm
  exact hm
 ·refine hJ _ _ ⟨2 * r + 1,rfl,h4,k4,by omega,by omega, ?_⟩
  rw [if_neg (by rw [h]; decide)] at hm
  exact hm
theorem Ul {T:Nat} {fv:AV} {lt:aL→aL→Bool} {cs:av} (hs:SB T fv lt cs) : SortG ay T 5 fv (Sort.heapSort lt) (fun _ a e=>a<e) fun args M Q=>∃ a0 a1 a2 a3,args=[a0,a1,a2,a3]∧lh cs a0 a1 a2 a3 M Q:=by
 intro M b a e d Q hat hsz hae he hP hQ
 refine ⟨_,_,_,_,rfl, ?_⟩
 unfold lh
 rw [Sort.heapSort] at hQ
 rw [gK hae (by omega),dm (by omega) (by omega),nz]
 refine ⟨by decide, ?_⟩
 rw [show (2:Int)=((2:Nat) : Int) from rfl,qM,bD (by omega) (by omega)]
 obtain ⟨R,hR⟩ : ∃ R,R=Sort.heapBuild lt (e - a) a ((e - a - 1) / 2 + 1) d:=⟨_,rfl⟩
 rw [← hR] at hQ
 refine aJ (fun m ys M3=>∃ (k:Nat) (d3:Array aL),m=k + 1∧ys=[N .i64 ((k:Int) - 1)]∧k≤(e - a - 1) / 2 + 1∧At ay T b d3 M3∧ah [b] M M3∧d3.size=d.size∧R=Sort.heapBuild lt (e - a) a k d3) _ ⟨(e - a - 1) / 2 + 1,d,rfl,by congr 3; omega,Nat.le_refl _,hat,ah.refl _ _,rfl,hR⟩ ?_
 rintro next m ys M3 hnext ⟨k,d3,rfl,rfl,hk,h3,k3,hs3,hm⟩
 dsimp only [aa]
 rw [jw]
 refine aI (fun hg=>?_) (fun hg=>?_)
 ·have hg:1≤k:=by
   have:(k:Int) - 1 ≥ 0:=of_decide_eq_true hg
   omega
  obtain ⟨k',rfl⟩ : ∃ k',k=k' + 1:=⟨k - 1,by omega⟩
  rw [Sort.heapBuild] at hm
  rw [show ((k' + 1:Nat) : Int) - 1=(k' : Int) by omega,← hs3]
  refine hs h3 (by omega) (by omega) (by omega) fun M4 h4 k4=>?_
  rw [gT,bD (by omega) (by omega)]
  exact hnext _ _ _ (by omega) ⟨k',_,rfl,rfl,by omega,h4,k3.trans k4,by rw [zK lt _ _ (e - a) _ _ (by omega)]; exact hs3,hm⟩
 ·have hk0:k=0:=by
   have:¬ (k:Int) - 1 ≥ 0:=of_decide_eq_false hg
   omega
  subst hk0
  rw [Sort.heapBuild] at hm
  rw [hm] at hQ
  rw [dm (by omega) (by omega)]
  obtain ⟨R4,hR4⟩ : ∃ R4,R4=Sort.heapPop lt a (e - a) d3:=⟨_,rfl⟩
  rw [← hR4] at hQ
  refine aJ (fun m ys M4=>∃ (k:Nat) (d4:Array aL),m=k + 1∧ys=[N .i64 ((k:Int) - 1)]∧k≤e - a∧At ay T b d4 M4∧ah [b] M M4∧d4.size=d.size∧R4=Sort.heapPop lt a k d4) _ ⟨e - a,d3,rfl,by congr 3; omega,Nat.le_refl _,h3,k3,hs3,hR4⟩ ?_
  rintro next2 m ys M4 hnext2 ⟨k,d4,rfl,rfl,hk,h4,k4,hs4,hm4⟩
  dsimp only [aa]
  rw [jw]
  refine aI (fun hg=>?_) (fun hg=>?_)
  ·have hg:1≤k:=by
    have:(k:Int) - 1 ≥ 0:=of_decide_eq_true hg
    omega
   obtain ⟨k',rfl⟩ : ∃ k',k=k' + 1:=⟨k - 1,by omega⟩
   rw [Sort.heapPop] at hm4
   rw [show ((k' + 1:Nat) : Int) - 1=(k' : Int) by omega,addN (by omega),addN (by omega),h4.rd (z:=5) rfl hs4.symm (by omega),h4.rd (z:=5) rfl hs4.symm (by omega)]
   refine h4.swap (z:=5) rfl hs4.symm (by omega) (by omega) fun M5 h5 k5=>?_
   rw [show d.size=(Sort.swp d4 a (a + k')).size by rw [dR]; exact hs4.symm]
   refine hs (lo:=0) h5 (by rw [dR]; omega) (by rw [dR]; omega) (by decide) fun M6 h6 k6=>?_
   rw [gT,bD (by omega) (by omega)]
   exact hnext2 _ _ _ (by omega) ⟨k',_,rfl,rfl,by omega,h6,(k4.trans k5).trans k6,by rw [zK lt _ _ k' _ _ (by omega),dR]; exact hs4,hm4⟩
  ·have hk0:k=0:=by
    have:¬ (k:Int) - 1 ≥ 0:=of_decide_eq_false hg
    omega
   subst hk0
   rw [Sort.heapPop] at hm4
   subst hm4
   exact hQ M4 h4 k4
def JO (T:Nat) (fv:AV) (lt:aL→aL→Bool) (c:av) : Prop:=∀ {M:RM} {b a e pv:Nat} {d:Array aL} {Q:ai},At ay T b d M→d.size≤60000→a≤pv→pv<e→e≤d.size→(∀ M',At ay T b (Sort.partitionEqual lt d a e pv).2 M'→ah [b] M M'→Q (N .i64 (((Sort.partitionEqual lt d a e pv).1:Nat) : Int)) M') →
 c [sv b d.size 5,N .i64 (a:Int),N .i64 (e:Int),N .i64 (pv:Int),fv] M Q
theorem KA {T:Nat} {fv:AV} {lt:aL→aL→Bool} {cv:FuncId→av} (hl:wY ay lt (dZ cv fv)) : JO T fv lt fun args M Q=>∃ a0 a1 a2 a3 a4,args=[a0,a1,a2,a3,a4]∧jb cv a0 a1 a2 a3 a4 M Q:=by
 intro M b a e pv d Q hat hsz hap hpe he hQ
 refine ⟨_,_,_,_,_,rfl, ?_⟩
 unfold jb
 simp only [fF,dY,fH]
 rw [Sort.partitionEqual] at hQ
 rw [hat.rd (z:=5) rfl rfl (by omega),hat.rd (z:=5) rfl rfl (by omega)]
 refine hat.swap (z:=5) rfl rfl (by omega) (by omega) fun M2 h2 k2=>?_
 rw [add1 (by omega),dm (by omega) (by omega)]
 obtain ⟨R,hR⟩ : ∃ R,R=Sort.partEqLoop lt a (a + 1) (e - 1) (Sort.swp d a pv):=⟨_,rfl⟩
 rw [← hR] at hQ
 refine aJ (fun m ys M3=>∃ (i j:Nat) (d3:Array aL),m=j + 1 - i∧ys=[N .i64 (i:Int),N .i64 (j:Int)]∧a + 1≤i∧i≤e + 1∧j<e∧At ay T b d3 M3∧ah [b] M M3∧d3.size=d.size∧R=Sort.partEqLoop lt a i j d3) _ ⟨a + 1,e - 1,_,rfl,rfl,Nat.le_refl _,by omega,by omega,h2,k2,dR _ _ _,hR⟩ ?_
 rintro next m ys M3 hnext ⟨i,j,d3,rfl,rfl,hai,hie,hje,h3,k3,hs3,hm⟩
 dsimp only [aa]
 rw [Sort.partEqLoop] at hm
 refine JK (P:=fun M'=>At ay T b d3 M'∧ah [b] M M') (p:=fun x=>!lt d3[a]! x) (d:=d3) (J:=j) ⟨h3,k3⟩ fun next2 i2 M4 ⟨h4,k4⟩ h0 h1 hgo hstop=>?_
 dsimp only [aa]
 rw [pO]
 refine vC (P:=fun M'=>At ay T b d3 M'∧ah [b] M M') (p:=!lt d3[a]! d3[i2]!) ⟨h4,k4⟩ (fun hc k hk=>?_) fun M5 h5=>?_
 ·have hc:i2≤j:=of_decide_eq_true hc
  rw [h4.rd (z:=5) rfl hs3.symm (by omega),h4.rd (z:=5) rfl hs3.symm (by omega)]
  refine hl.use fun M5 k5=>?_
  rw [bO]
  exact hk M5 ⟨h4.keep k5,k4.trans (k5.mono (cs:=[b]) (by simp))⟩
 refine aI (fun h=>?_) (fun h=>?_)
 ·rw [add1 (by omega)]
  exact hgo h M5 h5
 have hi2:=hstop h
 rw [← hi2] at hm
 refine DZ (P:=fun M'=>At ay T b d3 M'∧ah [b] M M') (p:=fun x=>lt d3[a]! x) (d:=d3) (i:=i2) h5 (by omega) fun next3 j2 M6 ⟨h6,k6⟩ q0 q1 hgo3 hstop3=>?_
 dsimp only [aa]
 rw [pO]
 refine vC (P:=fun M'=>At ay T b d3 M'∧ah [b] M M') (p:=lt d3[a]! d3[j2]!) ⟨h6,k6⟩ (fun hc k hk=>?_) fun M7 ⟨h7,k7⟩=>?_
 ·have hc:i2≤j2:=of_decide_eq_true hc
  rw [h6.rd (z:=5) rfl hs3.symm (by omega),h6.rd (z:=5) rfl hs3.symm (by omega)]
  exact hl.use fun M5 k5=>hk M5 ⟨h6.keep k5,k6.trans (k5.mono (cs:=[b]) (by simp))⟩
 refine aI (fun h=>?_) (fun h=>?_)
 ·have hc:i2≤j2:=by
   rw [Bool.and_eq_true] at h
   exact of_decide_eq_true h.1
  rw [dm (by omega) (by omega)]
  exact hgo3 h M7 ⟨h7,k7⟩
 have hj2:=hstop3 h
 simp only [← hj2] at hm
 rw [vB]
 refine aI (fun hg=>?_) (fun hg=>?_)
 ·rw [if_pos (of_decide_eq_true hg)] at hm
  rw [hm] at hQ
  exact hQ M7 h7 k7
 ·have hg:¬ i2 > j2:=of_decide_eq_false hg
  rw [if_neg hg,dif_pos (by omega)] at hm
  rw [h7.rd (z:=5) rfl hs3.symm (by omega),h7.rd (z:=5) rfl hs3.symm (by omega)]
  refine h7.swap (z:=5) rfl hs3.symm (by omega) (by omega) fun M8 h8 k8=>?_
  rw [add1 (by omega),dm (by omega) (by omega)]
  exact hnext _ _ _ (by omega) ⟨i2 + 1,j2 - 1,_,rfl,rfl,by omega,by omega,by omega,h8,k7.trans k8,by rw [dR,hs3],hm⟩
def TV (T:Nat) (fv:AV) (lt:aL→aL→Bool) (c:av) : Prop:=∀ {M:RM} {b a e pv:Nat} {d:Array aL} {Q:ai},At ay T b d M→d.size≤60000→a≤pv→pv<e→e≤d.size→(∀ M',At ay T b (Sort.partition lt d a e pv).2.2 M'→ah [b] M M'→Q (.tup [N .i64 (((Sort.partition lt d a e pv).1:Nat) : Int),Bo (Sort.partition lt d a e pv).2.1]) M') →
 c [sv b d.size 5,N .i64 (a:Int),N .i64 (e:Int),N .i64 (pv:Int),fv] M Q
theorem RG {T:Nat} {fv:AV} {lt:aL→aL→Bool} {cv:FuncId→av} (hl:wY ay lt (dZ cv fv)) : TV T fv lt fun args M Q=>∃ a0 a1 a2 a3 a4,args=[a0,a1,a2,a3,a4]∧kJ cv a0 a1 a2 a3 a4 M Q:=by
 intro M b a e pv d Q hat hsz hap hpe he hQ
 refine ⟨_,_,_,_,_,rfl, ?_⟩
 unfold kJ
 simp only [fF,dY,fH]
 have hs2:=dR d a pv
 rw [zY] at hQ
 rw [hat.rd (z:=5) rfl rfl (by omega),hat.rd (z:=5) rfl rfl (by omega)]
 refine hat.swap (z:=5) rfl rfl (by omega) (by omega) fun M2 h2 k2=>?_
 rw [add1 (by omega),dm (by omega) (by omega)]
 generalize Sort.swp d a pv=d2 at *
 refine JK (P:=fun M'=>At ay T b d2 M'∧ah [b] M M') (p:=fun x=>lt x d2[a]!) (d:=d2) (J:=e - 1) ⟨h2,k2⟩ fun next2 i M3 ⟨h3,k3⟩ h0 h1 hgo hstop=>?_
 dsimp only [aa]
 rw [pO]
 refine vC (P:=fun M'=>At ay T b d2 M'∧ah [b] M M') (p:=lt d2[i]! d2[a]!) ⟨h3,k3⟩ (fun hc k hk=>?_) fun M4 h4=>?_
 ·have hc:i≤e - 1:=of_decide_eq_true hc
  rw [h3.rd (z:=5) rfl hs2.symm (by omega),h3.rd (z:=5) rfl hs2.symm (by omega)]
  exact hl.use fun M5 k5=>hk M5 ⟨h3.keep k5,k3.trans (k5.mono (cs:=[b]) (by simp))⟩
 refine aI (fun h=>?_) (fun h=>?_)
 ·rw [add1 (by omega)]
  exact hgo h M4 h4
 have hi2:i=pI lt d2 a e:=hstop h
 have hjdef:pJ lt d2 a e=Sort.scanDown (fun x=>!lt x d2[a]!) d2 (pI lt d2 a e) (e - 1):=rfl
 have hldef:pL lt d2 a e=Sort.partLoop lt a (pI lt d2 a e + 1) (pJ lt d2 a e - 1) (Sort.swp d2 (pI lt d2 a e) (pJ lt d2 a e)):=rfl
 rw [← hi2] at hjdef hldef hQ
 refine DZ (P:=fun M'=>At ay T b d2 M'∧ah [b] M M') (p:=fun x=>!lt x d2[a]!) (d:=d2) (i:=i) h4 (by omega) fun next3 j M5 ⟨h5,k5⟩ q0 q1 hgo3 hstop3=>?_
 dsimp only [aa]
 rw [pO]
 refine vC (P:=fun M'=>At ay T b d2 M'∧ah [b] M M') (p:=!lt d2[j]! d2[a]!) ⟨h5,k5⟩ (fun hc k hk=>?_) fun M6 ⟨h6,k6⟩=>?_
 ·have hc:i≤j:=of_decide_eq_true hc
  rw [h5.rd (z:=5) rfl hs2.symm (by omega),h5.rd (z:=5) rfl hs2.symm (by omega)]
  refine hl.use fun M7 k7=>?_
  rw [bO]
  exact hk M7 ⟨h5.keep k7,k5.trans (k7.mono (cs:=[b]) (by simp))⟩
 refine aI (fun h=>?_) (fun h=>?_)
 ·have hc:i≤j:=by
   rw [Bool.and_eq_true] at h
   exact of_decide_eq_true h.1
  rw [dm (by omega) (by omega)]
  exact hgo3 h M6 ⟨h6,k6⟩
 have hj2:=hstop3 h
 rw [← hj2] at hjdef
 rw [hjdef] at hldef hQ
 rw [vB]
 refine aI (fun hg=>?_) (fun hg=>?_)
 ·rw [if_pos (of_decide_eq_true hg)] at hQ
  rw [h6.rd (z:=5) rfl hs2.symm (by omega),h6.rd (z:=5) rfl hs2.symm (by omega)]
  exact h6.swap (z:=5) rfl hs2.symm (by omega) (by omega) fun M7 h7 k7=>hQ M7 h7 (k6.trans k7)
 have hg:¬ i > j:=of_decide_eq_false hg
 rw [if_neg hg] at hQ
 rw [h6.rd (z:=5) rfl hs2.symm (by omega),h6.rd (z:=5) rfl hs2.symm (by omega)]
 refine h6.swap (z:=5) rfl hs2.symm (by omega) (by omega) fun M7 h7 k7=>?_
 rw [add1 (by omega),dm (by omega) (by omega)]
 generalize pL lt d2 a e=R at *
 refine aJ (fun m ys M3=>∃ (i j:Nat) (d3:Array aL),m=j + 1 - i∧ys=[N .i64 (i:Int),N .i64 (j:Int)]∧a + 1≤i∧i≤e + 1∧j<e∧At ay T b d3 M3∧ah [b] M M3∧d3.size=d.size∧R=Sort.partLoop lt a i j d3) _ ⟨i + 1,j - 1,_,rfl,rfl,by omega,by omega,by omega,h7,k6.trans k7,by rw [dR,hs2],hldef⟩ ?_
 rintro next m ys M3 hnext ⟨i,j,d3,rfl,rfl,hai,hie,hje,h3,k3,hs3,hm⟩
 dsimp only [aa]
 rw [Sort.partLoop] at hm
 refine JK (P:=fun M'=>At ay T b d3 M'∧ah [b] M M') (p:=fun x=>lt x d3[a]!) (d:=d3) (J:=j) ⟨h3,k3⟩ fun next2 i2 M4 ⟨h4,k4⟩ h0 h1 hgo hstop=>?_
 dsimp only [aa]
 rw [pO]
 refine vC (P:=fun M'=>At ay T b d3 M'∧ah [b] M M') (p:=lt d3[i2]! d3[a]!) ⟨h4,k4⟩ (fun hc k hk=>?_) fun M5 h5=>?_
 ·have hc:i2≤j:=of_decide_eq_true hc
  rw [h4.rd (z:=5) rfl hs3.symm (by omega),h4.rd (z:=5) rfl hs3.symm (by omega)]
  exact hl.use fun M5 k5=>hk M5 ⟨h4.keep k5,k4.trans (k5.mono (cs:=[b]) (by simp))⟩
 refine aI (fun h=>?_) (fun h=>?_)
 ·rw [add1 (by omega)]
  exact hgo h M5 h5
 have hi2:=hstop h
 rw [← hi2] at hm
 refine DZ (P:=fun M'=>At ay T b d3 M'∧ah [b] M M') (p:=fun x=>!lt x d3[a]!) (d:=d3) (i:=i2) h5 (by omega) fun next3 j2 M6 ⟨h6,k6⟩ q0 q1 hgo3 hstop3=>?_
 dsimp only [aa]
 rw [pO]
 refine vC (P:=fun M'=>At ay T b d3 M'∧ah [b] M M') (p:=!lt d3[j2]! d3[a]!) ⟨h6,k6⟩ (fun hc k hk=>?_) fun M7 ⟨h7,k7⟩=>?_
 ·have hc:i2≤j2:=of_decide_eq_true hc
  rw [h6.rd (z:=5) rfl hs3.symm (by omega),h6.rd (z:=5) rfl hs3.symm (by omega)]
  refine hl.use fun M8 k8=>?_
  rw [bO]
  exact hk M8 ⟨h6.keep k8,k6.trans (k8.mono (cs:=[b]) (by simp))⟩
 refine aI (fun h=>?_) (fun h=>?_)
 ·have hc:i2≤j2:=by
   rw [Bool.and_eq_true] at h
   exact of_decide_eq_true h.1
  rw [dm (by omega) (by omega)]
  exact hgo3 h M7 ⟨h7,k7⟩
 have hj2:=hstop3 h
 simp only [← hj2] at hm
 rw [vB]
 refine aI (fun hg=>?_) (fun hg=>?_)
 ·rw [if_pos (of_decide_eq_true hg)] at hm
  rw [hm] at hQ
  rw [h7.rd (z:=5) rfl hs3.symm (by omega),h7.rd (z:=5) rfl hs3.symm (by omega)]
  exact h7.swap (z:=5) rfl hs3.symm (by omega) (by omega) fun M8 h8 k8=>hQ M8 h8 (k7.trans k8)
 ·have hg:¬ i2 > j2:=of_decide_eq_false hg
  rw [if_neg hg,dif_pos (by omega)] at hm
  rw [h7.rd (z:=5) rfl hs3.symm (by omega),h7.rd (z:=5) rfl hs3.symm (by omega)]
  refine h7.swap (z:=5) rfl hs3.symm (by omega) (by omega) fun M8 h8 k8=>?_
  rw [add1 (by omega),dm (by omega) (by omega)]
  exact hnext _ _ _ (by omega) ⟨i2 + 1,j2 - 1,_,rfl,rfl,by omega,by omega,by omega,h8,k7.trans k8,by rw [dR,hs3],hm⟩
end Go.Ab.Crw
set_option maxRecDepth 10000
set_option linter.unusedVariables false
set_option linter.unusedSimpArgs false
namespace Go.Ab.Crw
open Go Go.Ab Go.Ab.aC
def IK (T TI b s:Nat) (d:Array aL) (k:Nat) (M:RM) : Prop:=At ay T b d M∧M.heap s=some (.row [N .i64 (k:Int)] false TI 0)∧s<M.next
def Ky (T TI:Nat) (fv:AV) (lt:aL→aL→Bool) (c:av) : Prop:=∀ {M:RM} {b s k i j:Nat} {d:Array aL} {Q:ai},IK T TI b s d k M→s≠b→i<d.size→j<d.size→k≤1000 →
 (∀ M',IK T TI b s d (Sort.order2 lt d i j k).2.2 M'→ah [s] M M'→Q (.tup [N .i64 (((Sort.order2 lt d i j k).1:Nat) : Int),N .i64 (((Sort.order2 lt d i j k).2.1:Nat) : Int)]) M')→c [sv b d.size 5,N .i64 (i:Int),N .i64 (j:Int),.ptr s 0,fv] M Q
theorem JB {T TI:Nat} {fv:AV} {lt:aL→aL→Bool} {cv:FuncId→av} (hl:wY ay lt (dZ cv fv)) : Ky T TI fv lt fun args M Q=>∃ a0 a1 a2 a3 a4,args=[a0,a1,a2,a3,a4]∧mr cv a0 a1 a2 a3 a4 M Q:=by
 intro M b s k i j d Q ⟨hat,hh,hlt⟩ hsb hi hj hk hQ
 refine ⟨_,_,_,_,_,rfl, ?_⟩
 unfold mr
 rw [hat.rd (z:=5) rfl rfl (by omega),hat.rd (z:=5) rfl rfl (by omega)]
 refine hl.use fun M1 k1=>?_
 have h1:=hat.keep k1
 have hh1:=k1.aO hh hlt (by simp)
 have n1:=k1.next
 unfold Sort.order2 at hQ
 refine aI (fun h=>?_) (fun h=>?_)
 ·rw [if_pos h] at hQ
  rw [aK,ak hh1 rfl,add1 (by omega),aK,fq hh1 (by simp) rfl rfl]
  have kk:ah [s] M1 (M1.put s (.row ([N .i64 (k:Int)].set 0 (N .i64 ((k + 1:Nat) : Int))) false TI 0)):=(ah.refl _ _).put _ (.inr (by simp))
  refine hQ _ ⟨h1.keep' kk (by simp; omega),aZ _,by rw [lY]; omega⟩ ((k1.mono (by simp)).trans kk)
 ·rw [if_neg (by rw [h]; decide)] at hQ
  exact hQ M1 ⟨h1,hh1,by omega⟩ (k1.mono (by simp))
def EA (T TI:Nat) (fv:AV) (lt:aL→aL→Bool) (c:av) : Prop:=∀ {M:RM} {b s k i j h:Nat} {d:Array aL} {Q:ai},IK T TI b s d k M→s≠b→i<d.size→j<d.size→h<d.size→k≤900 →
 (∀ M',IK T TI b s d (Sort.median lt d i j h k).2 M'→ah [s] M M'→Q (N .i64 (((Sort.median lt d i j h k).1:Nat) : Int)) M')→c [sv b d.size 5,N .i64 (i:Int),N .i64 (j:Int),N .i64 (h:Int),.ptr s 0,fv] M Q
theorem EN {T TI:Nat} {fv:AV} {lt:aL→aL→Bool} {c2:av} (h2:Ky T TI fv lt c2) : EA T TI fv lt fun args M Q=>∃ a0 a1 a2 a3 a4 a5,args=[a0,a1,a2,a3,a4,a5]∧mg c2 a0 a1 a2 a3 a4 a5 M Q:=by
 intro M b s k i j h d Q hsw hsb hi hj hh hk hQ
 refine ⟨_,_,_,_,_,_,rfl, ?_⟩
 unfold mg
 unfold Sort.median at hQ
 have o1:=xn lt d i j k
 refine h2 hsw hsb hi hj (by omega) fun M1 s1 k1=>?_
 rw [oZ,pF]
 dsimp only at hQ
 generalize Sort.order2 lt d i j k=r1 at *
 have o2:=xn lt d r1.2.1 h r1.2.2
 refine h2 s1 hsb (by omega) hh (by omega) fun M2 s2 k2=>?_
 rw [oZ,pF]
 generalize Sort.order2 lt d r1.2.1 h r1.2.2=r2 at *
 refine h2 s2 hsb (by omega) (by omega) (by omega) fun M3 s3 k3=>?_
 rw [oZ,pF]
 exact hQ M3 s3 ((k1.trans k2).trans k3)
def Kk (T TI:Nat) (fv:AV) (lt:aL→aL→Bool) (c:av) : Prop:=∀ {M:RM} {b s k i:Nat} {d:Array aL} {Q:ai},IK T TI b s d k M→s≠b→d.size≤60000→1≤i→i + 1<d.size→k≤900 →
 (∀ M',IK T TI b s d (Sort.medianAdjacent lt d i k).2 M'→ah [s] M M'→Q (N .i64 (((Sort.medianAdjacent lt d i k).1:Nat) : Int)) M')→c [sv b d.size 5,N .i64 (i:Int),.ptr s 0,fv] M Q
theorem JJ {T TI:Nat} {fv:AV} {lt:aL→aL→Bool} {cm:av} (hm:EA T TI fv lt cm) : Kk T TI fv lt fun args M Q=>∃ a0 a1 a2 a3,args=[a0,a1,a2,a3]∧jc cm a0 a1 a2 a3 M Q:=by
 intro M b s k i d Q hsw hsb hsz h1 h2 hk hQ
 refine ⟨_,_,_,_,rfl, ?_⟩
 unfold jc
 rw [dm (by omega) (by omega),add1 (by omega)]
 exact hm hsw hsb (by omega) (by omega) (by omega) hk fun M1 s1 k1=>hQ M1 s1 k1
def Bg (lt:aL→aL→Bool) (d:Array aL) (a e:Nat) : Nat × Nat :=
 if e - a ≥ 8 then (if e - a ≥ 50 then Sort.median lt d (Sort.medianAdjacent lt d (a + (e - a) / 4 * 1) 0).1 (Sort.medianAdjacent lt d (a + (e - a) / 4 * 2) (Sort.medianAdjacent lt d (a + (e - a) / 4 * 1) 0).2).1 (Sort.medianAdjacent lt d (a + (e - a) / 4 * 3) (Sort.medianAdjacent lt d (a + (e - a) / 4 * 2) (Sort.medianAdjacent lt d (a + (e - a) / 4 * 1) 0).2).2).1 (Sort.medianAdjacent lt d (a + (e - a) / 4 * 3) (Sort.medianAdjacent lt d (a + (e - a) / 4 * 2) (Sort.medianAdjacent lt d (a + (e - a) / 4 * 1) 0).2).2).2
  else Sort.median lt d (a + (e - a) / 4 * 1) (a + (e - a) / 4 * 2) (a + (e - a) / 4 * 3) 0) else (a + (e - a) / 4 * 2,0)
theorem X5 (lt:aL→aL→Bool) (d:Array aL) (a e:Nat) : Sort.choosePivot lt d a e=((Bg lt d a e).1,if (Bg lt d a e).2=0 then .increasing else if (Bg lt d a e).2=12 then .decreasing else .unknown):=rfl
def KG (T:Nat) (fv:AV) (lt:aL→aL→Bool) (c:av) : Prop:=∀ {M:RM} {b a e:Nat} {d:Array aL} {Q:ai},At ay T b d M→d.size≤60000→a<e→e≤d.size →
 (∀ M',At ay T b d M'→ah [] M M'→Q (.tup [N .i64 (((Sort.choosePivot lt d a e).1:Nat) : Int),N .i64 (qy (Sort.choosePivot lt d a e).2)]) M')→c [sv b d.size 5,N .i64 (a:Int),N .i64 (e:Int),fv] M Q
theorem KH {T TI:Nat} {fv:AV} {lt:aL→aL→Bool} {ca cm:av} (ha:Kk T TI fv lt ca) (hm:EA T TI fv lt cm) : KG T fv lt fun args M Q=>∃ a0 a1 a2 a3,args=[a0,a1,a2,a3]∧jT TI ca cm a0 a1 a2 a3 M Q:=by
 intro M b a e d Q hat hsz hae he hQ
 refine ⟨_,_,_,_,rfl, ?_⟩
 unfold jT
 simp only [cZ]
 rw [gK (by omega) (by omega),aX]
 have kk:ah [] M (M.push (.row [N .i64 0] false TI 0)):=(ah.refl _ _).push _
 have sw0:IK T TI b M.next d 0 (M.push (.row [N .i64 0] false TI 0)):=⟨hat.keep kk,RM.aR _,by simp [RM.push]⟩
 have hsb:M.next≠b:=by have:=hat.lt; omega
 have back:∀ M',ah [M.next] (M.push (.row [N .i64 0] false TI 0)) M'→ah [] M M':=fun M' k=>kk.bi k fun c hc=>.inl (by simp at hc; omega)
 generalize M.push (.row [N .i64 0] false TI 0)=M1 at *
 generalize M.next=s at *
 have hq:∀ (k:Nat) (c:Int),c=(k:Int)→k≤3→∀ (K:AV→Prop),(af .quo (N .i64 ((e - a:Nat) : Int)) (N .i64 4) fun t18=>af .mul t18 (N .i64 c) fun t19=>af .add (N .i64 (a:Int)) t19 K)=K (N .i64 ((a + (e - a) / 4 * k:Nat) : Int)):=fun k c hc hk K=>by
  subst hc
  have hb:(e - a) / 4 * k≤(e - a) * 3:=Nat.mul_le_mul (Nat.div_le_self _ _) hk
  rw [nz,show (4:Int)=((4:Nat) : Int) from rfl,qM,bD (by omega) (by omega),xA,← Int.natCast_mul,bD (by omega) (by omega),addN (by omega)]
  exact propext ⟨fun h=>h.2,fun h=>⟨by decide,h⟩⟩
 rw [hq 1 1 rfl (by omega),hq 2 2 rfl (by omega),hq 3 3 rfl (by omega)]
 rw [X5] at hQ
 have hr:Bg lt d a e=Bg lt d a e:=rfl
 conv at hr=>rhs; unfold Bg
 generalize Bg lt d a e=r at *
 refine bn (fun zs M'=>zs=[N .i64 ((r.1:Nat) : Int)]∧IK T TI b s d r.2 M'∧ah [s] M1 M') ?_ ?_
 ·rintro zs M' ⟨rfl,⟨h3,hh,_⟩,k3⟩
  dsimp only [aa]
  have:=hQ M' h3 (back M' k3)
  rw [ak hh rfl,di]
  by_cases h0:r.2=0
  ·rw [show ((r.2:Int) == 0)=true by rw [h0]; rfl,dP]
   rw [if_pos h0] at this
   exact this
  ·rw [show ((r.2:Int) == 0)=false by rw [beq_eq_false_iff_ne]; omega,bK,di]
   rw [if_neg h0] at this
   by_cases h12:r.2=12
   ·rw [show ((r.2:Int) == 12)=true by rw [h12]; rfl,dP]
    rw [if_pos h12] at this
    exact this
   ·rw [show ((r.2:Int) == 12)=false by rw [beq_eq_false_iff_ne]; omega,bK]
    rw [if_neg h12] at this
    exact this
 intro J hJ
 rw [show (8:Int)=((8:Nat) : Int) from rfl,mP]
 refine aI (fun h8=>?_) (fun h8=>?_)
 ·have h8:e - a ≥ 8:=of_decide_eq_true h8
  rw [if_pos h8] at hr
  refine bn (fun zs M'=>∃ x y z k:Nat,zs=[N .i64 (x:Int),N .i64 (y:Int),N .i64 (z:Int)]∧IK T TI b s d k M'∧ah [s] M1 M'∧x<d.size∧y<d.size∧z<d.size∧k≤900∧r=Sort.median lt d x y z k) ?_ ?_
  ·rintro zs M' ⟨x,y,z,k,rfl,s3,k3,hx,hy,hz,hk,rfl⟩
   dsimp only [aa]
   exact hm s3 hsb hx hy hz hk fun M4 s4 k4=>hJ _ _ ⟨rfl,s4,k3.trans k4⟩
  intro J0 hJ0
  rw [show (50:Int)=((50:Nat) : Int) from rfl,mP]
  refine aI (fun h50=>?_) (fun h50=>?_)
  ·have h50:e - a ≥ 50:=of_decide_eq_true h50
   rw [if_pos h50] at hr
   have m1:=Gl lt d (i:=a + (e - a) / 4 * 1 - 1) (j:=a + (e - a) / 4 * 1) (h:=a + (e - a) / 4 * 1 + 1) (k:=0) (n:=d.size) (by omega) (by omega) (by omega)
   have r1:(Sort.medianAdjacent lt d (a + (e - a) / 4 * 1) 0).1<d.size∧(Sort.medianAdjacent lt d (a + (e - a) / 4 * 1) 0).2≤0 + 3:=m1
   refine ha sw0 hsb hsz (by omega) (by omega) (by omega) fun M2 s2 k2=>?_
   generalize Sort.medianAdjacent lt d (a + (e - a) / 4 * 1) 0=q1 at *
   have m2:=Gl lt d (i:=a + (e - a) / 4 * 2 - 1) (j:=a + (e - a) / 4 * 2) (h:=a + (e - a) / 4 * 2 + 1) (k:=q1.2) (n:=d.size) (by omega) (by omega) (by omega)
   have r2:(Sort.medianAdjacent lt d (a + (e - a) / 4 * 2) q1.2).1<d.size∧(Sort.medianAdjacent lt d (a + (e - a) / 4 * 2) q1.2).2≤q1.2 + 3:=m2
   refine ha s2 hsb hsz (by omega) (by omega) (by omega) fun M3 s3 k3=>?_
   generalize Sort.medianAdjacent lt d (a + (e - a) / 4 * 2) q1.2=q2 at *
   have m3:=Gl lt d (i:=a + (e - a) / 4 * 3 - 1) (j:=a + (e - a) / 4 * 3) (h:=a + (e - a) / 4 * 3 + 1) (k:=q2.2) (n:=d.size) (by omega) (by omega) (by omega)
   have r3:(Sort.medianAdjacent lt d (a + (e - a) / 4 * 3) q2.2).1<d.size∧(Sort.medianAdjacent lt d (a + (e - a) / 4 * 3) q2.2).2≤q2.2 + 3:=m3
   refine ha s3 hsb hsz (by omega) (by omega) (by omega) fun M4 s4 k4=>?_
   generalize Sort.medianAdjacent lt d (a + (e - a) / 4 * 3) q2.2=q3 at *
   exact hJ0 _ _ ⟨q1.1,q2.1,q3.1,q3.2,rfl,s4,(k2.trans k3).trans k4,r1.1,r2.1,r3.1,by omega,hr⟩
  ·have h50:¬ e - a ≥ 50:=of_decide_eq_false h50
   rw [if_neg h50] at hr
   exact hJ0 _ _ ⟨_,_,_,0,rfl,sw0,ah.refl _ _,by omega,by omega,by omega,by omega,hr⟩
 ·have h8:¬ e - a ≥ 8:=of_decide_eq_false h8
  rw [if_neg h8] at hr
  subst hr
  exact hJ _ _ ⟨rfl,sw0,ah.refl _ _⟩
def Hd (T:Nat) (fv:AV) (lt:aL→aL→Bool) (c:av) : Prop:=∀ {M:RM} {b a e:Nat} {d:Array aL} {Q:ai},At ay T b d M→d.size≤60000→a<e→e≤d.size→(∀ M',At ay T b (Sort.partialInsertionSort lt d a e).1 M'→ah [b] M M'→Q (Bo (Sort.partialInsertionSort lt d a e).2) M') →
 c [sv b d.size 5,N .i64 (a:Int),N .i64 (e:Int),fv] M Q
theorem G6 {T:Nat} {fv:AV} {lt:aL→aL→Bool} {cv:FuncId→av} (hl:wY ay lt (dZ cv fv)) : Hd T fv lt fun args M Q=>∃ a0 a1 a2 a3,args=[a0,a1,a2,a3]∧gL cv a0 a1 a2 a3 M Q:=by
 intro M b a e d Q hat hsz hae he hQ
 refine ⟨_,_,_,_,rfl, ?_⟩
 unfold gL
 simp only [fF,dY,fH,cZ]
 rw [add1 (by omega)]
 unfold Sort.partialInsertionSort at hQ
 obtain ⟨R,hR⟩ : ∃ R,R=Sort.partialIns lt a e 5 (a + 1) d:=⟨_,rfl⟩
 rw [← hR] at hQ
 refine aJ (fun m ys M3=>∃ (i s:Nat) (d3:Array aL),m=s∧s≤5∧ys=[N .i64 (i:Int),N .i64 ((5 - s:Nat) : Int)]∧a + 1≤i∧i≤e∧At ay T b d3 M3∧ah [b] M M3∧d3.size=d.size∧R=Sort.partialIns lt a e s i d3) _ ⟨a + 1,5,d,rfl,by omega,rfl,by omega,by omega,hat,ah.refl _ _,rfl,hR⟩ ?_
 rintro next m ys M3 hnext ⟨i,s,d3,hms,hs5,rfl,hai,hie,h3,k3,hs3,hm⟩
 dsimp only [aa]
 rw [show (5:Int)=((5:Nat) : Int) from rfl,dX]
 refine aI (fun hg=>?_) (fun hg=>?_)
 ·have hg:5 - s<5:=of_decide_eq_true hg
  obtain ⟨s',rfl⟩ : ∃ s',s=s' + 1:=⟨s - 1,by omega⟩
  rw [xR] at hm
  refine bn (fun zs M'=>∃ (i' : Nat) (d4:Array aL),zs=[N .i64 (i' : Int)]∧a + 1≤i'∧i'≤e∧At ay T b d4 M'∧ah [b] M M'∧d4.size=d.size∧R=Sort.partialIns lt a e s' i' d4) ?_ ?_
  ·rintro zs M' ⟨i',d4,rfl,h1,h2,h4,k4,h5,h6⟩
   dsimp only [aa]
   rw [add1 (by omega)]
   exact hnext _ _ _ (by omega) ⟨i',s',d4,rfl,by omega,by congr 4; omega,h1,h2,h4,k4,h5,h6⟩
  intro J hJ
  obtain ⟨R5,hR5⟩ : ∃ R5,R5=Sort.scanSorted lt d3 e i:=⟨_,rfl⟩
  rw [← hR5] at hm
  refine aJ (fun m ys M5=>∃ (j:Nat),m=e - j∧ys=[N .i64 (j:Int)]∧i≤j∧j≤e∧At ay T b d3 M5∧ah [b] M M5∧R5=Sort.scanSorted lt d3 e j) _ ⟨i,rfl,rfl,Nat.le_refl _,hie,h3,k3,hR5⟩ ?_
  rintro next2 m ys M5 hnext2 ⟨j,rfl,rfl,hij,hje,h5,k5,hm5⟩
  dsimp only [aa]
  rw [Sort.scanSorted] at hm5
  rw [dX]
  refine vC (P:=fun M'=>At ay T b d3 M'∧ah [b] M M') (p:=!lt d3[j]! d3[j - 1]!) ⟨h5,k5⟩ (fun hc k hk=>?_) fun M6 ⟨h6,k6⟩=>?_
  ·have hc:j<e:=of_decide_eq_true hc
   rw [h5.rd (z:=5) rfl hs3.symm (by omega),dm (by omega) (by omega),h5.rd (z:=5) rfl hs3.symm (by omega)]
   refine hl.use fun M7 k7=>?_
   rw [bO]
   exact hk M7 ⟨h5.keep k7,k5.trans (k7.mono (cs:=[b]) (by simp))⟩
  refine aI (fun h=>?_) (fun h=>?_)
  ·have hc:j<e:=by
    rw [Bool.and_eq_true] at h
    exact of_decide_eq_true h.1
   rw [if_pos h] at hm5
   rw [add1 (by omega)]
   exact hnext2 _ _ _ (by omega) ⟨j + 1,rfl,rfl,by omega,by omega,h6,k6,hm5⟩
  rw [if_neg (by rw [h]; decide)] at hm5
  subst hm5
  rw [Ui]
  refine aI (fun hje2=>?_) (fun hje2=>?_)
  ·rw [if_pos (of_decide_eq_true hje2)] at hm
   rw [hm] at hQ
   exact hQ M6 h6 k6
  have hje2:¬ R5=e:=of_decide_eq_false hje2
  rw [if_neg hje2] at hm
  rw [gK (by omega) (by omega),show (50:Int)=((50:Nat) : Int) from rfl,dX]
  refine aI (fun h50=>?_) (fun h50=>?_)
  ·rw [if_pos (of_decide_eq_true h50)] at hm
   rw [hm] at hQ
   exact hQ M6 h6 k6
  rw [if_neg (of_decide_eq_false h50)] at hm
  rw [dm (by omega) (by omega),dm (by omega) (by omega),h6.rd (z:=5) rfl hs3.symm (by omega),h6.rd (z:=5) rfl hs3.symm (by omega)]
  refine h6.swap (z:=5) rfl hs3.symm (by omega) (by omega) fun M7 h7 k7'=>?_
  have k7:=k6.trans k7'
  have hs6:(Sort.swp d3 R5 (R5 - 1)).size=d.size:=by rw [dR,hs3]
  generalize Sort.swp d3 R5 (R5 - 1)=d6 at *
  refine bn (fun zs M'=>zs=[]∧At ay T b (if R5 - a ≥ 2 then Sort.shiftDown lt (R5 - 1) d6 else d6) M'∧ah [b] M M') ?_ ?_
  ·rintro zs M8 ⟨rfl,h8,k8⟩
   have hs7:(if R5 - a ≥ 2 then Sort.shiftDown lt (R5 - 1) d6 else d6).size=d.size:=by
    split
    ·rw [yD,hs6]
    ·exact hs6
   generalize (if R5 - a ≥ 2 then Sort.shiftDown lt (R5 - 1) d6 else d6)=d7 at *
   rw [gK (by omega) (by omega),show (2:Int)=((2:Nat) : Int) from rfl,mP]
   refine aI (fun h2=>?_) (fun h2=>?_)
   ·rw [if_pos (of_decide_eq_true h2)] at hm
    rw [add1 (by omega)]
    obtain ⟨R8,hR8⟩ : ∃ R8,R8=Sort.shiftUp lt e (R5 + 1) d7:=⟨_,rfl⟩
    rw [← hR8] at hm
    refine aJ (fun m ys M8=>∃ (j:Nat) (d8:Array aL),m=e - j∧ys=[N .i64 (j:Int)]∧R5 + 1≤j∧j≤e∧At ay T b d8 M8∧ah [b] M M8∧d8.size=d.size∧R8=Sort.shiftUp lt e j d8) _ ⟨R5 + 1,d7,rfl,rfl,Nat.le_refl _,by omega,h8,k8,hs7,hR8⟩ ?_
    rintro next3 m ys M9 hnext3 ⟨j,d8,rfl,rfl,hj1,hj2,h9,k9,hs8',hm8⟩
    dsimp only [aa]
    rw [Sort.shiftUp] at hm8
    rw [dX]
    refine aI (fun hl1=>?_) (fun hl1=>?_)
    ·have hl1:j<e:=of_decide_eq_true hl1
     rw [if_pos hl1] at hm8
     rw [h9.rd (z:=5) rfl hs8'.symm (by omega),dm (by omega) (by omega),h9.rd (z:=5) rfl hs8'.symm (by omega)]
     refine hl.use fun M10 k10'=>?_
     have h10:=h9.keep k10'
     have k10:=k9.trans (k10'.mono (cs:=[b]) (by simp))
     rw [bO]
     refine aI (fun hn=>?_) (fun hn=>?_)
     ·rw [if_pos hn] at hm8
      subst hm8
      exact hJ _ _ ⟨R5,R8,rfl,by omega,by omega,h10,k10,hs8',hm⟩
     ·rw [if_neg (by rw [hn]; decide)] at hm8
      rw [dm (by omega) (by omega),dm (by omega) (by omega),h10.rd (z:=5) rfl hs8'.symm (by omega),h10.rd (z:=5) rfl hs8'.symm (by omega)]
      refine h10.swap (z:=5) rfl hs8'.symm (by omega) (by omega) fun M11 h11 k11=>?_
      rw [add1 (by omega)]
      exact hnext3 _ _ _ (by omega) ⟨j + 1,_,rfl,rfl,by omega,by omega,h11,k10.trans k11,by rw [dR,hs8'],hm8⟩
    ·rw [if_neg (of_decide_eq_false hl1)] at hm8
     subst hm8
     exact hJ _ _ ⟨R5,R8,rfl,by omega,by omega,h9,k9,hs8',hm⟩
   ·rw [if_neg (of_decide_eq_false h2)] at hm
    exact hJ _ _ ⟨R5,d7,rfl,by omega,by omega,h8,k8,hs7,hm⟩
  intro J2 hJ2
  rw [gK (by omega) (by omega),show (2:Int)=((2:Nat) : Int) from rfl,mP]
  refine aI (fun h2=>?_) (fun h2=>?_)
  ·rw [if_pos (of_decide_eq_true h2)] at hJ2
   rw [dm (by omega) (by omega)]
   obtain ⟨R8,hR8⟩ : ∃ R8,R8=Sort.shiftDown lt (R5 - 1) d6:=⟨_,rfl⟩
   rw [← hR8] at hJ2
   refine aJ (fun m ys M8=>∃ (j:Nat) (d8:Array aL),m=j + 1∧ys=[N .i64 (j:Int)]∧j<R5∧At ay T b d8 M8∧ah [b] M M8∧d8.size=d.size∧R8=Sort.shiftDown lt j d8) _ ⟨R5 - 1,d6,rfl,rfl,by omega,h7,k7,hs6,hR8⟩ ?_
   rintro next3 m ys M8 hnext3 ⟨j,d8,rfl,rfl,hj1,h8,k8,hs8',hm8⟩
   dsimp only [aa]
   rw [show (1:Int)=((1:Nat) : Int) from rfl,mP]
   refine aI (fun hl1=>?_) (fun hl1=>?_)
   ·have hl1:j ≥ 1:=of_decide_eq_true hl1
    obtain ⟨j',rfl⟩ : ∃ j',j=j' + 1:=⟨j - 1,by omega⟩
    rw [Sort.shiftDown] at hm8
    rw [h8.rd (z:=5) rfl hs8'.symm (by omega),gK (by omega) (by omega),Nat.add_sub_cancel,h8.rd (z:=5) rfl hs8'.symm (by omega)]
    refine hl.use fun M10 k10'=>?_
    have h10:=h8.keep k10'
    have k10:=k8.trans (k10'.mono (cs:=[b]) (by simp))
    rw [bO]
    refine aI (fun hn=>?_) (fun hn=>?_)
    ·rw [if_pos hn] at hm8
     subst hm8
     exact hJ2 _ _ ⟨rfl,h10,k10⟩
    ·rw [if_neg (by rw [hn]; decide)] at hm8
     rw [gK (by omega) (by omega),gK (by omega) (by omega),Nat.add_sub_cancel,h10.rd (z:=5) rfl hs8'.symm (by omega),h10.rd (z:=5) rfl hs8'.symm (by omega)]
     refine h10.swap (z:=5) rfl hs8'.symm (by omega) (by omega) fun M11 h11 k11=>?_
     rw [gK (by omega) (by omega),Nat.add_sub_cancel]
     exact hnext3 _ _ _ (by omega) ⟨j',_,rfl,rfl,by omega,h11,k10.trans k11,by rw [dR,hs8'],hm8⟩
   ·have hl1:¬ j ≥ 1:=of_decide_eq_false hl1
    have h0:j=0:=by omega
    subst h0
    rw [Sort.shiftDown] at hm8
    subst hm8
    exact hJ2 _ _ ⟨rfl,h8,k8⟩
  ·rw [if_neg (of_decide_eq_false h2)] at hJ2
   exact hJ2 _ _ ⟨rfl,h7,k7⟩
 ·have hg:¬ 5 - s<5:=of_decide_eq_false hg
  have h0:s=0:=by omega
  subst h0
  rw [Sort.partialIns] at hm
  rw [hm] at hQ
  exact hQ M3 h3 k3
theorem Pm {T TX:Nat} {fv:AV} {cp cx:av} (hp:Tc cp) (hx:Wt TX cx) : SortG ay T 5 fv Sort.breakPatterns (fun _ _ _=>True) fun args M Q=>∃ a0 a1 a2 a3,args=[a0,a1,a2,a3]∧jv TX cp cx a0 a1 a2 a3 M Q:=by
 intro M b a e d Q hat hsz hae he _ hQ
 refine ⟨_,_,_,_,rfl, ?_⟩
 unfold jv
 simp only [cZ]
 rw [gK hae (by omega),show (8:Int)=((8:Nat) : Int) from rfl,mP]
 unfold Sort.breakPatterns at hQ
 refine aI (fun h8=>?_) (fun h8=>?_)
 ·have h8:e - a ≥ 8:=of_decide_eq_true h8
  rw [if_pos h8] at hQ
  have hbl:=zG (x:=e - a) (by omega) (by omega)
  rw [eX,dx (by omega) (by omega),aX]
  have kk:ah [] M (M.push (.row [(N .u64 0)] false TX 0)):=(ah.refl _ _).push _
  have hsb:M.next≠b:=by have:=hat.lt; omega
  have hh0:(M.push (.row [(N .u64 0)] false TX 0)).heap M.next=some (.row [N .u64 0] false TX 0):=RM.aR _
  have hl64:(UInt64.ofNat (e - a)).toNat=e - a:=by rw [UInt64.toNat_ofNat']; omega
  have hn0:M.next<(M.push (.row [(N .u64 0)] false TX 0)).next:=by simp [RM.push]
  rw [fq hh0 (by simp) rfl rfl]
  have kS:ah [] M ((M.push (.row [(N .u64 0)] false TX 0)).put M.next (.row (([N .u64 0] : List AV).set 0 (N .u64 ((e - a:Nat) : Int))) false TX 0)):=kk.new _ (Nat.le_refl _)
  have hs1:((M.push (.row [(N .u64 0)] false TX 0)).put M.next (.row (([N .u64 0] : List AV).set 0 (N .u64 ((e - a:Nat) : Int))) false TX 0)).heap M.next=some (.row [N .u64 ((UInt64.ofNat (e - a)).toNat:Int)] false TX 0):=by
   rw [aZ,hl64]; rfl
  have hn1:M.next<((M.push (.row [(N .u64 0)] false TX 0)).put M.next (.row (([N .u64 0] : List AV).set 0 (N .u64 ((e - a:Nat) : Int))) false TX 0)).next:=hn0
  generalize (M.push (.row [(N .u64 0)] false TX 0)).put M.next (.row (([N .u64 0] : List AV).set 0 (N .u64 ((e - a:Nat) : Int))) false TX 0)=M1 at *
  have hat1:=hat.keep kS
  have back:∀ M',ah [b,M.next] M1 M'→ah [b] M M':=fun M' k=>(kS.mono (cs:=[b]) (by simp)).bi k fun c hc=>by simp at hc; rcases hc with h | h <;> simp [h]
  generalize M.next=s at *
  refine hp (by omega) (by omega) ?_
  have hq:∀ (c:Int),c=((2:Nat) : Int)→∀ (K:AV→Prop),(af .quo (N .i64 ((e - a:Nat) : Int)) (N .i64 4) fun t18=>af .mul t18 (N .i64 c) fun t19=>af .add (N .i64 (a:Int)) t19 K)=K (N .i64 ((a + (e - a) / 4 * 2:Nat) : Int)):=fun c hc K=>by
   subst hc
   rw [nz,show (4:Int)=((4:Nat) : Int) from rfl,qM,bD (by omega) (by omega),xA,← Int.natCast_mul,bD (by omega) (by omega),addN (by omega)]
   exact propext ⟨fun h=>h.2,fun h=>⟨by decide,h⟩⟩
  rw [hq 2 rfl,dm (by omega) (by omega)]
  have hst3:(Sort.breakStep a (e - a) (1 <<< Sort.bitsLen (e - a)) (Sort.breakStep a (e - a) (1 <<< Sort.bitsLen (e - a)) (Sort.breakStep a (e - a) (1 <<< Sort.bitsLen (e - a)) (UInt64.ofNat (e - a),d) (a + (e - a) / 4 * 2 - 1)) (a + (e - a) / 4 * 2 - 1 + 1)) (a + (e - a) / 4 * 2 - 1 + 2)).2=(BX a (e - a) (2 ^ Sort.bitsLen (e - a)) (a + (e - a) / 4 * 2 - 1) d 3).2:=by
   rw [Nat.shiftLeft_eq,Nat.one_mul]; rfl
  have hQ:∀ M',At ay T b (BX a (e - a) (2 ^ Sort.bitsLen (e - a)) (a + (e - a) / 4 * 2 - 1) d 3).2 M'→ah [b] M M'→Q (.tup []) M':=fun M' h k=>hQ M' (by rw [hst3]; exact h) k
  generalize hmd:2 ^ Sort.bitsLen (e - a)=md at *
  generalize hi0:a + (e - a) / 4 * 2 - 1=i0 at *
  refine aJ (fun m ys M3=>∃ (k:Nat),m=3 - k∧k≤3∧ys=[N .i64 ((i0 + k:Nat) : Int)]∧At ay T b (BX a (e - a) md i0 d k).2 M3∧M3.heap s=some (.row [N .u64 ((BX a (e - a) md i0 d k).1.toNat:Int)] false TX 0)∧s<M3.next∧ah [b,s] M1 M3) _ ⟨0,rfl,by omega,rfl,hat1,hs1,hn1,ah.refl _ _⟩ ?_
  rintro next m ys M3 hnext ⟨k,rfl,hk,rfl,h3,hh3,hn3,k3⟩
  dsimp only [aa]
  have hsk:=Va a (e - a) md i0 d k
  have hnx' : BX a (e - a) md i0 d (k + 1)=Sort.breakStep a (e - a) md (BX a (e - a) md i0 d k) (i0 + k):=rfl
  generalize hstk:BX a (e - a) md i0 d k=st at *
  rw [hq 2 rfl,add1 (by omega),pO]
  refine aI (fun hg=>?_) (fun hg=>?_)
  ·have hg:i0 + k≤a + (e - a) / 4 * 2 + 1:=of_decide_eq_true hg
   refine bn (fun zs M'=>At ay T b (BX a (e - a) md i0 d (k + 1)).2 M'∧M'.heap s=some (.row [N .u64 ((BX a (e - a) md i0 d (k + 1)).1.toNat:Int)] false TX 0)∧s<M'.next∧ah [b,s] M1 M') ?_ ?_
   ·rintro zs M' ⟨c1,c2,c3,c4⟩
    rw [add1 (by omega)]
    exact hnext _ _ _ (by omega) ⟨k + 1,rfl,by omega,rfl,c1,c2,c3,c4⟩
   intro J hJ
   refine hx hh3 hn3 fun M4 hh4 k4 n4=>?_
   have h4:=h3.keep' k4 (by simp; omega)
   rw [hnx'] at hJ
   unfold Sort.breakStep at hJ
   dsimp only at hJ
   generalize Sort.xorNext st.1=r at *
   rw [gT,dx (by omega) (by omega),show (md:Int) - 1=((md - 1:Nat) : Int) by omega,Bj,MJ rfl]
   have hlt:r.toNat &&& (md - 1)<md:=by
    rw [← hmd,Nat.and_two_pow_sub_one_eq_mod]
    exact Nat.mod_lt _ (by rw [hmd]; omega)
   rw [Nat.mod_eq_of_lt (show r.toNat &&& (md - 1)<2 ^ uD .u64 by show _<2 ^ 64; omega)]
   generalize r.toNat &&& (md - 1)=o at *
   rw [eX,bD (by omega) (by omega)]
   refine bn (fun zs M'=>zs=[N .i64 (((if o ≥ e - a then o - (e - a) else o) : Nat) : Int)]∧M'=M4) ?_ ?_
   ·rintro zs M' ⟨rfl,rfl⟩
    dsimp only [aa]
    have ho:(if o ≥ e - a then o - (e - a) else o)<e - a:=by split <;> omega
    generalize (if o ≥ e - a then o - (e - a) else o)=o2 at *
    rw [addN (by omega),addN (by omega),h4.rd (z:=5) rfl hsk.symm (by omega),h4.rd (z:=5) rfl hsk.symm (by omega)]
    refine h4.swap (z:=5) rfl hsk.symm (by omega) (by omega) fun M5 h5 k5=>?_
    exact hJ _ _ ⟨h5,k5.aO hh4 (by omega) (by simp; omega),by have:=k5.next; omega,(k3.trans (k4.mono (cs:=[b,s]) (by simp))).trans (k5.mono (cs:=[b,s]) (by simp))⟩
   intro J4 hJ4
   rw [mP]
   refine aI (fun hg2=>?_) (fun hg2=>?_)
   ·have hg2:o ≥ e - a:=of_decide_eq_true hg2
    rw [gK (by omega) (by omega)]
    exact hJ4 _ _ ⟨by rw [if_pos hg2],rfl⟩
   ·exact hJ4 _ _ ⟨by rw [if_neg (of_decide_eq_false hg2)],rfl⟩
  ·have hg:¬ i0 + k≤a + (e - a) / 4 * 2 + 1:=of_decide_eq_false hg
   have hk3:k=3:=by omega
   subst hk3
   rw [hstk] at hQ
   exact hQ M3 h3 (back M3 k3)
 ·rw [if_neg (of_decide_eq_false h8)] at hQ
  exact hQ M hat (ah.refl _ _)
def Tq (T m:Nat) (fv:AV) (lt:aL→aL→Bool) (c:av) : Prop:=∀ {M:RM} {b a e limit:Nat} {d:Array aL} {Q:ai},At ay T b d M→d.size≤60000→a≤e→e≤d.size→e - a<m→limit≤1000000→(∀ M',At ay T b (Sort.pdq lt d a e limit true true) M'→ah [b] M M'→Q (.tup []) M') →
 c [sv b d.size 5,N .i64 (a:Int),N .i64 (e:Int),N .i64 (limit:Int),fv] M Q
theorem Um {T m:Nat} {fv:AV} {lt:aL→aL→Bool} {cv:FuncId→av} {ci ch cb cc cr cp ce ct cq:av} (hlt:Sort.SWO lt) (hi:SortG ay T 5 fv (Sort.insertionSort lt) (fun _ _ _=>True) ci) (hh:SortG ay T 5 fv (Sort.heapSort lt) (fun _ a e=>a<e) ch) (hb:SortG ay T 5 fv Sort.breakPatterns (fun _ _ _=>True) cb) (hc:KG T fv lt cc) (hr:SortG ay T 5 fv Sort.reverseRange (fun _ a e=>a<e) cr)
  (hp:Hd T fv lt cp) (hl:wY ay lt (dZ cv fv)) (he:JO T fv lt ce) (ht:TV T fv lt ct) (hq:Tq T m fv lt cq) : Tq T (m + 1) fv lt fun args M Q=>∃ a0 a1 a2 a3 a4,args=[a0,a1,a2,a3,a4]∧ik ci ch cb cc cr cp cv ce ct cq a0 a1 a2 a3 a4 M Q:=by
 intro M b a e limit d Q hat hsz hae hed hm hlim hQ
 refine ⟨_,_,_,_,_,rfl, ?_⟩
 unfold ik
 simp only [fF,dY,fH,cZ]
 obtain ⟨R,hR⟩ : ∃ R,R=Sort.pdq lt d a e limit true true:=⟨_,rfl⟩
 rw [← hR] at hQ
 refine aJ (fun m' ys M3=>∃ (a e limit:Nat) (wb wp:Bool) (d3:Array aL),m'=e - a∧ys=[N .i64 (a:Int),N .i64 (e:Int),N .i64 (limit:Int),Bo wb,Bo wp]∧a≤e∧e≤d.size∧e - a<m + 1∧limit≤1000000∧At ay T b d3 M3∧ah [b] M M3∧d3.size=d.size∧R=Sort.pdq lt d3 a e limit wb wp) _
  ⟨a,e,limit,true,true,d,rfl,rfl,hae,hed,hm,hlim,hat,ah.refl _ _,rfl,hR⟩ ?_
 clear hR hae hed hm hlim
 rintro next m' ys M4 hnext ⟨a,e,limit,wb,wp,d3,rfl,rfl,hae,hed,hm,hlim,h4,k4,hs3,hR⟩
 dsimp only [aa]
 rw [Gi] at hR
 rw [gK hae (by omega),show (12:Int)=((12:Nat) : Int) from rfl,pO]
 refine aI (fun hg=>?_) (fun hg=>?_)
 ·rw [if_pos (of_decide_eq_true hg)] at hR
  rw [← hs3]
  refine hi h4 (by omega) hae (by omega) trivial fun M5 h5 k5=>?_
  rw [← hR] at h5
  exact hQ M5 h5 (k4.trans k5)
 have hg:¬ e - a≤12:=of_decide_eq_false hg
 rw [if_neg hg] at hR
 rw [show (0:Int)=((0:Nat) : Int) from rfl,Ui]
 refine aI (fun hg0=>?_) (fun hg0=>?_)
 ·rw [if_pos (of_decide_eq_true hg0)] at hR
  rw [← hs3]
  refine hh h4 (by omega) hae (by omega) (by omega) fun M5 h5 k5=>?_
  rw [← hR] at h5
  exact hQ M5 h5 (k4.trans k5)
 have hg0:¬ limit=0:=of_decide_eq_false hg0
 rw [if_neg hg0] at hR
 refine bn (fun zs M'=>zs=[N .i64 (((if !wb then limit - 1 else limit) : Nat) : Int)]∧At ay T b (if !wb then Sort.breakPatterns d3 a e else d3) M'∧ah [b] M M') ?_ ?_
 ·rintro zs M5 ⟨rfl,h5,k5⟩
  dsimp only [aa]
  have hs5:(if !wb then Sort.breakPatterns d3 a e else d3).size=d.size:=by
   split
   ·rw [Rh,hs3]
   ·exact hs3
  have hl5:(if !wb then limit - 1 else limit)≤1000000:=by split <;> omega
  generalize (if !wb then Sort.breakPatterns d3 a e else d3)=d5 at *
  generalize (if !wb then limit - 1 else limit)=lim at *
  rw [← hs5]
  refine hc h5 (by omega) (by omega) (by omega) fun M6 h6 k6=>?_
  rw [hs5]
  have hcr:=Sort.choosePivot_holds lt d5 a e (by omega)
  unfold gA at hR
  generalize Sort.choosePivot lt d5 a e=cpv at *
  have k6':=k5.trans (k6.mono (cs:=[b]) (by simp))
  rw [oZ,pF]
  refine bn (fun zs M'=>zs=[N .i64 (((if cpv.2=.decreasing then (e - 1) - (cpv.1 - a) else cpv.1) : Nat) : Int),N .i64 (qy (if cpv.2=.decreasing then .increasing else cpv.2))]∧At ay T b (if cpv.2=.decreasing then Sort.reverseRange d5 a e else d5) M'∧ah [b] M M') ?_ ?_
  ·rintro zs M7 ⟨rfl,h7,k7⟩
   dsimp only [aa]
   have hs7:(if cpv.2=.decreasing then Sort.reverseRange d5 a e else d5).size=d.size:=by
    split
    ·rw [Ym,hs5]
    ·exact hs5
   have hpv:a≤(if cpv.2=.decreasing then (e - 1) - (cpv.1 - a) else cpv.1)∧(if cpv.2=.decreasing then (e - 1) - (cpv.1 - a) else cpv.1)<e:=by
    split <;> omega
   generalize (if cpv.2=.decreasing then Sort.reverseRange d5 a e else d5)=d7 at *
   generalize (if cpv.2=.decreasing then (e - 1) - (cpv.1 - a) else cpv.1)=pv at *
   generalize (if cpv.2=.decreasing then Sort.Hint.increasing else cpv.2)=hint at *
   unfold gB gP at hR
   refine bn (fun zs M'=>∃ d8:Array aL,At ay T b d8 M'∧ah [b] M M'∧d8.size=d.size∧R=gC lt d8 a e pv lim wb wp) ?_ ?_
   ·rintro zs M8 ⟨d8,h8,k8,hs8,hR8⟩
    unfold gC at hR8
    rw [vB]
    refine vC (P:=fun M'=>At ay T b d8 M'∧ah [b] M M') (p:=!lt d8[a - 1]! d8[pv]!) ⟨h8,k8⟩ (fun hc k hk=>?_) fun M9 ⟨h9,k9⟩=>?_
    ·have hc:a > 0:=of_decide_eq_true hc
     rw [dm (by omega) (by omega),h8.rd (z:=5) rfl hs8.symm (by omega),h8.rd (z:=5) rfl hs8.symm (by omega)]
     refine hl.use fun M10 k10=>?_
     rw [bO]
     exact hk M10 ⟨h8.keep k10,k8.trans (k10.mono (cs:=[b]) (by simp))⟩
    refine aI (fun h=>?_) (fun h=>?_)
    ·rw [if_pos h] at hR8
     rw [← hs8]
     have hE:=Rn lt d8 a e pv (by omega)
     refine he h9 (by omega) hpv.1 hpv.2 (by omega) fun M10 h10 k10=>?_
     generalize Sort.partitionEqual lt d8 a e pv=pe at *
     dsimp only at hR8
     rw [dif_pos ⟨hE.2.1,hE.2.2⟩] at hR8
     exact hnext _ _ _ (by omega) ⟨pe.1,e,lim,wb,wp,pe.2,rfl,rfl,hE.2.2,hed,by omega,hl5,h10,k9.trans k10,by rw [hE.1,hs8],hR8⟩
    ·rw [if_neg (by rw [h]; decide)] at hR8
     rw [← hs8]
     have hT:=Sort.partition_holds lt hlt d8 a e pv hpv.1 hpv.2 (by omega)
     have hTs:=Vy lt d8 a e pv
     refine ht h9 (by omega) hpv.1 hpv.2 (by omega) fun M10 h10 k10=>?_
     have k10':=k9.trans k10
     generalize Sort.partition lt d8 a e pv=pp at *
     obtain ⟨mid,ap,d9⟩:=pp
     dsimp only at hR8 hT hTs h10 ⊢
     rw [dif_pos ⟨hT.1,hT.2.1⟩] at hR8
     have hT1:=hT.1
     have hT2:=hT.2.1
     rw [oZ,pF,gK hT1 (by omega),gK (by omega) (by omega),nz]
     refine ⟨by decide, ?_⟩
     rw [show (8:Int)=((8:Nat) : Int) from rfl,qM,bD (by omega) (by omega),dX]
     refine aI (fun hc1=>?_) (fun hc1=>?_)
     ·have hc1:mid - a<e - mid:=of_decide_eq_true hc1
      rw [if_pos hc1] at hR8
      rw [mP,← hTs]
      refine hq h10 (by omega) hT1 (by omega) (by omega) hl5 fun M11 h11 k11=>?_
      rw [add1 (by omega)]
      exact hnext _ _ _ (by omega) ⟨mid + 1,e,lim,_,ap,_,rfl,rfl,by omega,hed,by omega,hl5,h11,k10'.trans k11,by rw [BR lt _ _ _ _ _ _ _ (Nat.le_refl _),hTs,hs8],hR8⟩
     ·have hc1:¬ mid - a<e - mid:=of_decide_eq_false hc1
      rw [if_neg hc1] at hR8
      rw [mP,add1 (by omega),← hTs]
      refine hq h10 (by omega) (by omega) (by omega) (by omega) hl5 fun M11 h11 k11=>?_
      exact hnext _ _ _ (by omega) ⟨a,mid,lim,_,ap,_,rfl,rfl,hT1,by omega,by omega,hl5,h11,k10'.trans k11,by rw [BR lt _ _ _ _ _ _ _ (Nat.le_refl _),hTs,hs8],hR8⟩
   intro J10 hJ10
   have no:¬ (wb && wp && decide (hint=.increasing))=true→J10 [] M7:=fun hn=>by
    have hpi:(if (wb && wp && decide (hint=.increasing))=true then Sort.partialInsertionSort lt d7 a e else (d7,false))=(d7,false):=if_neg hn
    rw [hpi] at hR
    exact hJ10 _ _ ⟨d7,h7,k7,hs7,hR⟩
   cases wb with
   | false =>
     rw [bV]
     dsimp only
     rw [bU,bV]
     dsimp only
     rw [bV]
     dsimp only
     rw [bU,bK]
     exact no (by simp)
   | true =>
     rw [bS]
     dsimp only
     rw [dF]
     cases wp with
     | false =>
       rw [bV]
       dsimp only
       rw [bV]
       dsimp only
       rw [bU,bK]
       exact no (by simp)
     | true =>
       rw [bS]
       dsimp only
       rw [bS]
       dsimp only
       rw [di,dF]
       by_cases hin:hint=.increasing
       ·rw [show (qy hint == 1)=true by rw [hin]; rfl,dP]
        have hpi:(if (true && true && decide (hint=.increasing))=true then Sort.partialInsertionSort lt d7 a e else (d7,false))=Sort.partialInsertionSort lt d7 a e:=if_pos (by simp [hin])
        rw [hpi] at hR
        rw [← hs7]
        have hs8:(Sort.partialInsertionSort lt d7 a e).1.size=d.size:=by
         rw [Sort.partialInsertionSort,Ea,hs7]
        refine hp h7 (by omega) (by omega) (by omega) fun M8 h8 k8=>?_
        generalize Sort.partialInsertionSort lt d7 a e=pi at *
        refine aI (fun h=>?_) (fun h=>?_)
        ·rw [if_pos h] at hR
         rw [← hR] at h8
         exact hQ M8 h8 (k7.trans k8)
        ·rw [if_neg (by rw [h]; decide)] at hR
         exact hJ10 _ _ ⟨pi.1,h8,k7.trans k8,hs8,hR⟩
       ·rw [show (qy hint == 1)=false by cases hint <;> first | rfl | exact absurd rfl hin,bK]
        exact no (by simp [hin])
  intro J6 hJ6
  rw [di]
  by_cases hdec:cpv.2=.decreasing
  ·rw [show (qy cpv.2 == 2)=true by rw [hdec]; rfl,dP,← hs5]
   refine hr h6 (by omega) hae (by omega) (by omega) fun M7 h7 k7=>?_
   rw [dm (by omega) (by omega),gK (by omega) (by omega),gK (by omega) (by omega)]
   exact hJ6 _ _ ⟨by rw [if_pos hdec,if_pos hdec]; rfl,by rw [if_pos hdec]; exact h7,k6'.trans k7⟩
  ·rw [show (qy cpv.2 == 2)=false by cases h:cpv.2 <;> first | rfl | exact absurd h hdec,bK]
   exact hJ6 _ _ ⟨by rw [if_neg hdec,if_neg hdec],by rw [if_neg hdec]; exact h6,k6'⟩
 intro J hJ
 rw [bO]
 cases wb with
 | true =>
   rw [Bool.not_true,bK]
   exact hJ _ _ ⟨rfl,h4,k4⟩
 | false =>
   rw [Bool.not_false,dP,← hs3]
   refine hb h4 (by omega) hae (by omega) trivial fun M5 h5 k5=>?_
   rw [dm (by omega) (by omega)]
   exact hJ _ _ ⟨rfl,h5,k4.trans k5⟩
def JE (c:av) : Prop:=∀ {M:RM} {v fv:AV} {Q:ai},Q (.tup []) M→c [v,N .i64 0,N .i64 ((0:Nat) : Int),fv] M Q
theorem Ku {cv:FuncId→av} : JE fun args M Q=>∃ a0 a1 a2 a3,args=[a0,a1,a2,a3]∧fC cv a0 a1 a2 a3 M Q:=by
 intro M v fv Q hQ
 refine ⟨_,_,_,_,rfl, ?_⟩
 unfold fC
 rw [bH,show IntKind.i64.wrap ((0:Int) + 1)=1 from rfl]
 refine aJ (fun m ys M3=>m=0∧ys=[N .i64 1]∧M3=M) 0 ⟨rfl,rfl,rfl⟩ ?_
 rintro next m ys M3 hnext ⟨rfl,rfl,rfl⟩
 dsimp only [aa]
 rw [bL,show decide ((1:Int)<((0:Nat) : Int))=false from rfl,bK]
 exact hQ
def Kr (c:av) : Prop:=∀ {M:RM} {v fv:AV} {Q:ai},Q (.tup []) M→c [v,N .i64 0,N .i64 ((0:Nat) : Int),N .i64 ((0:Nat) : Int),fv] M Q
theorem KD {cv:FuncId→av} {ci c2 c3 cc c4 cp c6 c7 c8:av} (hi:JE ci) : Kr fun args M Q=>∃ a0 a1 a2 a3 a4,args=[a0,a1,a2,a3,a4]∧ik ci c2 c3 cc c4 cp cv c6 c7 c8 a0 a1 a2 a3 a4 M Q:=by
 intro M v fv Q hQ
 refine ⟨_,_,_,_,_,rfl, ?_⟩
 unfold ik
 refine aJ (fun m ys M3=>m=0∧ys=[N .i64 0,N .i64 ((0:Nat) : Int),N .i64 ((0:Nat) : Int),Bo true,Bo true]∧M3=M) 0 ⟨rfl,rfl,rfl⟩ ?_
 rintro next m ys M3 hnext ⟨rfl,rfl,rfl⟩
 dsimp only [aa]
 rw [gT,show IntKind.i64.wrap (((0:Nat) : Int) - 0)=0 from rfl,lW,show decide ((0:Int)≤12)=true from rfl,dP]
 exact hi hQ
def nu (lt:aL→aL→Bool) (xs:List aL) : List aL:=(Sort.sort lt xs.toArray).toList
theorem VH (lt:aL→aL→Bool) : nu lt []=[]:=by
 unfold nu Sort.sort
 rw [Gi,if_pos (by simp),Sort.insertionSort,Sort.insOuter,if_neg (by simp)]
theorem lG {lt:aL→aL→Bool} (hlt:Sort.SWO lt) (xs:List aL) : (nu lt xs).Perm xs:=by
 have h:=(Sort.sort_sorts lt hlt xs.toArray).1
 have h2:=h.2.2
 rw [Array.extract_eq_self_of_le (by rw [h.1]; exact Nat.le_refl _),Array.extract_eq_self_of_le (Nat.le_refl _)] at h2
 exact h2
theorem Pg {lt:aL→aL→Bool} (hlt:Sort.SWO lt) (xs:List aL) : (nu lt xs).Pairwise fun x y=>lt y x=false:=by
 rw [List.pairwise_iff_getElem]
 intro i j hi hj hij
 have h:=(Sort.sort_sorts lt hlt xs.toArray)
 have hs:(Sort.sort lt xs.toArray).size=xs.toArray.size:=h.1.1
 unfold nu at hi hj ⊢
 rw [Array.length_toList] at hi hj
 have:=h.2 i j (Nat.zero_le _) hij (by omega)
 rw [Kh hj,Kh hi] at this
 rw [Array.getElem_toList,Array.getElem_toList]
 exact this
def Ez (fv:AV) (lt:aL→aL→Bool) (T:Nat) (c:av) : Prop:=∀ {M:RM} {base:Nat} {v:AV} {xs:List aL} {Q:ai},Ow ay M base T v xs→xs.length≤60000→(∀ M',Ow ay M' base T v (nu lt xs)→ah (aF v) M M'→Q (.tup []) M')→c [v,fv] M Q
theorem Y2 {T:Nat} {fv:AV} {lt:aL→aL→Bool} {cl cp:av} (hlt:Sort.SWO lt) (hl:CQ cl) (hp:∀ m,Tq T m fv lt cp) (h0:Kr cp) : Ez fv lt T fun args M Q=>∃ a0 a1,args=[a0,a1]∧qK cl cp a0 a1 M Q:=by
 intro M base v xs Q ho hx hQ
 have hs:Sl ay M v xs:=ho.eu
 refine ⟨_,_,rfl, ?_⟩
 unfold qK
 rw [aM.len hs,eX,dx (by omega) (by omega)]
 refine hl (by omega) ?_
 rcases Nat.eq_zero_or_pos xs.length with hn | hn
 ·rw [hn,show Sort.bitsLen 0=0 from rfl]
  refine h0 ?_
  have:=List.length_eq_zero_iff.1 hn
  subst this
  exact hQ M (by rw [VH]; exact ho) (ah.refl _ _)
 ·obtain ⟨b,rfl,h1,h2,h3,h4⟩:=Own.wI ho hn
  have hb:=zG hn (by omega)
  have hsz:xs.toArray.size=xs.length:=by simp
  have hat:At ay T b xs.toArray M:=⟨by rw [h3],h2⟩
  have hsl:(nu lt xs).length=xs.length:=(lG hlt xs).length_eq
  have:=hp (xs.length + 1) (M:=M) (b:=b) (a:=0) (e:=xs.toArray.size) (limit:=Sort.bitsLen xs.length) (d:=xs.toArray) (Q:=fun bQ M_0=>Q (.tup []) M_0) hat (by omega) (by omega) (Nat.le_refl _) (by omega) (by omega) fun M' h' k'=>?_
  ·have e5:ay.size=5:=rfl
   rw [e5]
   simpa using this
  ·have e:(Sort.pdq lt xs.toArray 0 xs.toArray.size (Sort.bitsLen xs.length) true true)=Sort.sort lt xs.toArray:=by rw [Sort.sort]; simp
   rw [e] at h'
   refine hQ _ ?_ (by simpa [aF] using k')
   have hlast:Own M' base T 5 (.slc b 0 xs.length (.op 5)) (ay.row (nu lt xs)) xs.length:=.op _ _ _ h1 h'.lt h'.heap (by rw [Enc.ed,hsl]; rfl)
   show Own M' base T 5 (.slc b 0 xs.length (.op 5)) (ay.row (nu lt xs)) (nu lt xs).length
   rw [hsl]; exact hlast
end Go.Ab.Crw
set_option maxRecDepth 10000
set_option linter.unusedVariables false
set_option linter.unusedSimpArgs false
namespace Go.Ab.Crw
open Go Go.Ab Go.Ab.aC
end Go.Ab.Crw
set_option maxRecDepth 10000
set_option linter.unusedVariables false
set_option linter.unusedSimpArgs false
namespace Go.Ab.Crw
open Go Go.Ab Go.Ab.aC
def Yr (lt:Go.Ab.aC.aC→Go.Ab.aC.aC→Bool) (xs:List Go.Ab.aC.aC) : List Go.Ab.aC.aC:=(Sort.sort lt xs.toArray).toList
theorem Tx {lt:Go.Ab.aC.aC→Go.Ab.aC.aC→Bool} (hlt:Sort.SWO lt) (xs:List Go.Ab.aC.aC) : (Yr lt xs).Perm xs:=by
 have h:=(Sort.sort_sorts lt hlt xs.toArray).1
 have h2:=h.2.2
 rw [Array.extract_eq_self_of_le (by rw [h.1]; exact Nat.le_refl _),Array.extract_eq_self_of_le (Nat.le_refl _)] at h2
 exact h2
end Go.Ab.Crw
set_option maxRecDepth 10000
set_option linter.unusedVariables false
set_option linter.unusedSimpArgs false
namespace Go.Ab.aC
open Go Go.Ab
theorem qV:∀ (v w:Nat) (r s:List UInt8),bC v++r=bC w++s→v=w∧r=s:=by
 intro v
 induction v using Nat.strongRecOn with
 | _ v ih =>
   intro w r s h
   have eqb:∀ x y:Nat,UInt8.ofNat x=UInt8.ofNat y→x<256→y<256→x=y:=fun x y h hx hy=>by
    have:=congrArg UInt8.toNat h
    rw [CR,CR] at this
    omega
   by_cases hv:v<128 <;> by_cases hw:w<128
   ·rw [oo hv,oo hw] at h
    simp only [List.singleton_append,List.cons.injEq] at h
    exact ⟨eqb _ _ h.1 (by omega) (by omega),h.2⟩
   ·rw [oo hv,nR hw] at h
    simp only [List.cons_append,List.nil_append,List.cons.injEq] at h
    have:=eqb _ _ h.1 (by omega) (by omega)
    omega
   ·rw [nR hv,oo hw] at h
    simp only [List.cons_append,List.nil_append,List.cons.injEq] at h
    have:=eqb _ _ h.1 (by omega) (by omega)
    omega
   ·rw [nR hv,nR hw] at h
    simp only [List.cons_append,List.cons.injEq] at h
    have h1:=eqb _ _ h.1 (by omega) (by omega)
    have h2:=ih (v / 128) (by omega) (w / 128) r s h.2
    exact ⟨by omega,h2.2⟩
theorem UG {x y a:Nat} (hx:x<2 ^ 64) (hy:y<2 ^ 64) (ha:a<2 ^ 64) (h:vJ x a=vJ y a) : x=y:=by
 unfold vJ at h
 omega
theorem LM:∀ (xs ys:List Nat) (a:Nat) (r s:List UInt8),a<2 ^ 64→(∀ x∈xs,x<2 ^ 64)→(∀ y∈ys,y<2 ^ 64)→xs.length=ys.length→jg a xs++r=jg a ys++s→xs=ys∧r=s
 | [],[],_,_,_,_,_,_,_,h=>⟨rfl,h⟩
 | [],y :: ys,_,_,_,_,_,_,h,_=>by simp at h
 | x :: xs,[],_,_,_,_,_,_,h,_=>by simp at h
 | x :: xs,y :: ys,a,r,s,ha,hx,hy,hl,h=>by
   rw [jg,jg,List.append_assoc,List.append_assoc] at h
   obtain ⟨h1,h2⟩:=qV _ _ _ _ h
   have hxy:=UG (hx x (by simp)) (hy y (by simp)) ha h1
   subst hxy
   obtain ⟨h3,h4⟩:=LM xs ys x r s (hx x (by simp)) (fun z hz=>hx z (by simp [hz])) (fun z hz=>hy z (by simp [hz])) (by simpa using hl) h2
   exact ⟨by rw [h3],h4⟩
theorem Xa {p q:eF} {r s:List UInt8} (hp:Bd (p.1.2,p.2)) (hq:Bd (q.1.2,q.2)) (h:gm p++r=gm q++s) : p=q∧r=s:=by
 unfold gm at h
 simp only [List.append_assoc] at h
 obtain ⟨h1,h⟩:=qV _ _ _ _ h
 obtain ⟨h2,h⟩:=qV _ _ _ _ h
 obtain ⟨h3,h⟩:=qV _ _ _ _ h
 rw [h2] at h
 obtain ⟨h4,h⟩:=LM _ _ _ _ _ (hq.1) hp.2.2 hq.2.2 h3 h
 exact ⟨Prod.ext (Prod.ext h1 h2) h4,h⟩
theorem MS:∀ (ls ks:List eF) (r s:List UInt8),(∀ x∈ls,Bd (x.1.2,x.2))→(∀ x∈ks,Bd (x.1.2,x.2))→ls.length=ks.length→ls.flatMap gm++r=ks.flatMap gm++s→ls=ks
 | [],[],_,_,_,_,_,_=>rfl
 | [],y :: ys,_,_,_,_,h,_=>by simp at h
 | x :: xs,[],_,_,_,_,h,_=>by simp at h
 | x :: xs,y :: ys,r,s,hx,hy,hl,h=>by
   rw [List.flatMap_cons,List.flatMap_cons,List.append_assoc,List.append_assoc] at h
   obtain ⟨h1,h2⟩:=Xa (hx x (by simp)) (hy y (by simp)) h
   rw [h1,MS xs ys r s (fun z hz=>hx z (by simp [hz])) (fun z hz=>hy z (by simp [hz])) (by simpa using hl) h2]
theorem WT {ls ks:List eF} (h1:∀ x∈ls,Bd (x.1.2,x.2)) (h2:∀ x∈ks,Bd (x.1.2,x.2)) (h:pM ls=pM ks) : ls=ks:=by
 unfold pM at h
 obtain ⟨e1,e2⟩:=qV _ _ _ _ h
 refine MS ls ks [] [] h1 h2 e1 ?_
 rw [List.append_nil,List.append_nil]; exact e2
theorem Jr {ps:List Pt} {j:Nat} : ∀ {i:Nat},j<i→(0<(ps.getD j (0,[])).1∨0<(ps.getD j (0,[])).2.length)→((j,(ps.getD j (0,[])).1),(ps.getD j (0,[])).2)∈jh ps i
 | 0,h,_=>by omega
 | i + 1,h,hn=>by
   rw [jh,List.mem_append]
   rcases Nat.lt_or_ge j i with hj | hj
   ·exact .inl (Jr hj hn)
   ·have:j=i:=by omega
    subst this
    rw [if_pos hn]
    exact .inr (by simp)
theorem Cf {ps:List Pt} {j:Nat} (hj:j<16) (hn:¬ (0<(ps.getD j (0,[])).1∨0<(ps.getD j (0,[])).2.length)) : ps.getD j (0,[])=(0,[]):=by
 have h1:(ps.getD j (0,[])).1=0:=by omega
 have h2:(ps.getD j (0,[])).2=[]:=List.length_eq_zero_iff.1 (by omega)
 exact Prod.ext h1 h2
theorem Lr {ps qs:List Pt} {j:Nat} (h:parts ps=parts qs) (hj:j<16) (hn:0<(ps.getD j (0,[])).1∨0<(ps.getD j (0,[])).2.length) : ps.getD j (0,[])=qs.getD j (0,[]):=by
 have h1:=Jr (i:=16) hj hn
 rw [show jh ps 16=jh qs 16 from h] at h1
 obtain ⟨k,h2,h3⟩:=AJ h1
 simp only [Prod.mk.injEq] at h3
 obtain ⟨⟨rfl,h4⟩,h5⟩:=h3
 exact Prod.ext h4 h5
theorem Yq {ps qs:List Pt} (h1:ps.length=16) (h2:qs.length=16) (h:∀ j,j<16→ps.getD j (0,[])=qs.getD j (0,[])) : ps=qs:=by
 refine List.ext_getElem (by omega) fun j hj hj'=>?_
 have:=h j (by omega)
 rw [List.getD_eq_getElem?_getD,List.getD_eq_getElem?_getD,List.getElem?_eq_getElem hj,List.getElem?_eq_getElem hj'] at this
 exact this
theorem VA {ps qs:List Pt} (h1:ps.length=16) (h2:qs.length=16) (h:parts ps=parts qs) : ps=qs:=by
 refine Yq h1 h2 fun j hj=>?_
 by_cases hp:0<(ps.getD j (0,[])).1∨0<(ps.getD j (0,[])).2.length
 ·exact Lr h hj hp
 ·by_cases hq:0<(qs.getD j (0,[])).1∨0<(qs.getD j (0,[])).2.length
  ·exact (Lr h.symm hj hq).symm
  ·rw [Cf hj hp,Cf hj hq]
theorem XY {ps qs:List Pt} (h1:ps.length=16) (h2:qs.length=16) (b1:∀ p∈ps,Bd p) (b2:∀ p∈qs,Bd p) (h:encS ps=encS qs) : ps=qs :=
 VA h1 h2 (WT (fun x hx=>(GM b1 hx).2) (fun x hx=>(GM b2 hx).2) h)
theorem QO:∀ {xs ys:List Nat},Asc xs→Asc ys→(∀ x,x∈xs↔x∈ys)→xs=ys
 | [],[],_,_,_=>rfl
 | [],y :: ys,_,_,h=>by have:=(h y).2 (by simp); simp at this
 | x :: xs,[],_,_,h=>by have:=(h x).1 (by simp); simp at this
 | x :: xs,y :: ys,h1,h2,h=>by
   have a1:=List.pairwise_cons.1 h1
   have a2:=List.pairwise_cons.1 h2
   have hxy:x=y:=by
    rcases List.mem_cons.1 ((h x).1 (by simp)) with e | e
    ·exact e
    ·rcases List.mem_cons.1 ((h y).2 (by simp)) with e' | e'
     ·exact e'.symm
     ·have:=a2.1 x e; have:=a1.1 y e'; omega
   subst hxy
   refine congrArg (x :: ·) (QO a1.2 a2.2 fun z=>⟨fun hz=>?_,fun hz=>?_⟩)
   ·rcases List.mem_cons.1 ((h z).1 (by simp [hz])) with e | e
    ·subst e; have:=a1.1 z hz; omega
    ·exact e
   ·rcases List.mem_cons.1 ((h z).2 (by simp [hz])) with e | e
    ·subst e; have:=a2.1 z hz; omega
    ·exact e
theorem OO (p:Pt) : ll p p=true:=by
 unfold ll
 simp only [Bool.and_eq_true,List.all_eq_true,decide_eq_true_eq]
 refine ⟨Nat.le_refl _,fun x hx=>?_⟩
 unfold il
 simp [hx]
theorem CS (ps:List Pt) : iL ps ps=true:=qb.2 fun i _=>OO _
theorem PS {u:Nat} {xs:List Nat} (h:∀ y∈xs,u + 1<y) : settle u xs=(u,xs):=by
 cases xs with
 | nil=>rfl
 | cons x xs =>
   have:=h x (by simp)
   unfold settle
   rw [dV,if_neg (by omega)]; rfl
theorem getD_set_ne {u:List Pt} {i j:Nat} {p:Pt} (h:i≠j) : (u.set i p).getD j (0,[])=u.getD j (0,[]):=by
 rw [List.getD_eq_getElem?_getD,List.getD_eq_getElem?_getD,List.getElem?_set_ne h]
theorem Bi (j:Nat) : jE.getD j (0,[])=(0,[]):=by
 rw [List.getD_eq_getElem?_getD]
 unfold jE
 by_cases h:j<16
 ·rw [List.getElem?_replicate,if_pos h]; rfl
 ·rw [List.getElem?_replicate,if_neg h]; rfl
end Go.Ab.aC
set_option maxRecDepth 10000
set_option linter.unusedVariables false
set_option linter.unusedSimpArgs false
namespace Go.Ab.aC
open Go Go.Ab
theorem jC {M:RM} {b o:Nat} {x:AV} {K:AV→Prop} (h:M.cell b o=some x) : aj M (.ptr b o) K=K x:=by
 rw [fu,h]; simp
theorem and_false {c:Bool} {f:KR→Prop} {M:RM} {Z:AV→RM→Prop} (hf:c=true→∀ k:KR,k (Bo false) M none→f k) (hZ:Z (Bo false) M) :
  ae (Bo c) true f (fun k=>k .undef M none) (fun t M' b=>aP (Bo c) t (Bo false) fun t'=>Z t' M'):=by
 cases c with
 | false=>rw [jL]; dsimp only; rw [bU]; exact hZ
 | true=>rw [fe]; exact hf rfl _ (by rw [dF]; exact hZ)
end Go.Ab.aC
set_option maxRecDepth 10000
set_option linter.unusedVariables false
set_option linter.unusedSimpArgs false
namespace Go.Ab.Crw
open Go Go.Ab Go.Ab.aC
theorem og:∀ (x y:List UInt8),Op.bytesLess x y=decide (x<y)
 | [],[]=>by simp [Op.bytesLess]
 | _ :: _,[]=>by simp [Op.bytesLess]
 | [],_ :: _=>by simp [Op.bytesLess]
 | a :: x,b :: y=>by
   rw [Op.bytesLess,og x y]
   simp only [List.cons_lt_cons_iff]
   by_cases h1:a<b <;> by_cases h2:a=b <;> by_cases h3:x<y <;> simp [h1,h2,h3]
structure LO {β:Type} (lt:β→β→Bool) : Prop where
 irrefl:∀ x,lt x x=false
 trans:∀ x y z,lt x y=true→lt y z=true→lt x z=true
 tri:∀ x y,lt x y=false→lt y x=false→x=y
def lex {α β:Type} [DecidableEq β] (k:α→β) (lt1:β→β→Bool) (lt2:α→α→Bool) (x y:α) : Bool:=lt1 (k x) (k y) || (decide (k x=k y) && lt2 x y)
theorem wh {α β:Type} [DecidableEq β] {k:α→β} {lt1:β→β→Bool} {lt2:α→α→Bool} (h1:LO lt1) (h2:Sort.SWO lt2) : Sort.SWO (lex k lt1 lt2) where
 irrefl x:=by simp [lex,h1.irrefl,h2.irrefl]
 trans x y z a b:=by
  simp only [lex,Bool.or_eq_true,Bool.and_eq_true,decide_eq_true_eq] at *
  rcases a with a | ⟨a,a'⟩ <;> rcases b with b | ⟨b,b'⟩
  ·exact .inl (h1.trans _ _ _ a b)
  ·exact .inl (by rw [← b]; exact a)
  ·exact .inl (by rw [a]; exact b)
  ·exact .inr ⟨a.trans b,h2.trans _ _ _ a' b'⟩
 ntrans x y z a b:=by
  simp only [lex,Bool.or_eq_false_iff,Bool.and_eq_false_iff,decide_eq_false_iff_not] at *
  obtain ⟨a1,a2⟩:=a
  obtain ⟨b1,b2⟩:=b
  have c1:lt1 (k x) (k z)=false:=by
   cases h:lt1 (k x) (k z) with
   | false=>rfl
   | true =>
     by_cases e:k x=k y
     ·rw [e,b1] at h; cases h
     ·have:lt1 (k y) (k x)=true:=by
       cases h' : lt1 (k y) (k x) with
       | true=>rfl
       | false=>exact absurd (h1.tri _ _ a1 h') e
      have:=h1.trans _ _ _ this h
      rw [b1] at this; cases this
  refine ⟨c1, ?_⟩
  by_cases e:k x=k z
  ·right
   by_cases e2:k x=k y
   ·have e3:k y=k z:=e2.symm.trans e
    rcases a2 with a2 | a2
    ·exact absurd e2 a2
    ·rcases b2 with b2 | b2
     ·exact absurd e3 b2
     ·exact h2.ntrans _ _ _ a2 b2
   ·have h3:lt1 (k y) (k x)=false:=by rw [e]; exact b1
    exact absurd (h1.tri _ _ a1 h3) e2
  ·exact .inl e
theorem CE:LO (fun x y:Nat=>decide (x<y)):=⟨by simp,by simp; omega,by simp; omega⟩
theorem Ed:LO (fun x y:Int=>decide (x<y)):=⟨by simp,by simp; omega,by simp; omega⟩
theorem sJ:LO (fun x y:List UInt8=>decide (x<y)) where
 irrefl x:=by simp [List.lt_irrefl]
 trans x y z h1 h2:=by simp only [decide_eq_true_eq] at *; exact List.lt_trans h1 h2
 tri x y h1 h2:=by
  simp only [decide_eq_false_iff_not,List.not_lt] at *
  exact List.le_antisymm h2 h1
theorem Ou {α:Type} : Sort.SWO (fun _ _:α=>false):=⟨fun _=>rfl,(fun _ _ _ h _=>by cases h),(fun _ _ _ _ _=>rfl)⟩
def ltD:aC→aC→Bool:=lex (fun d:aC=>d.2) (fun x y:Nat=>decide (x<y)) (lex (fun d:aC=>d.1) (fun x y:Int=>decide (x<y)) fun _ _=>false)
def fo:aL→aL→Bool:=lex (fun x:aL=>x.2.1) (fun x y=>decide (x<y)) (lex (fun x:aL=>x.2.2.1) (fun x y=>decide (x<y)) (lex (fun x:aL=>x.1.2) (fun x y:Nat=>decide (x<y)) (lex (fun x:aL=>x.1.1) (fun x y:Int=>decide (x<y)) fun _ _=>false)))
theorem Y9:Sort.SWO ltD:=wh CE (wh Ed Ou)
theorem fM:Sort.SWO fo:=wh sJ (wh sJ (wh CE (wh Ed Ou)))
def c3 {β:Type} (lt:β→β→Bool) (x y:β) : Int:=if lt x y then -1 else if lt y x then 1 else 0
theorem Nc {β:Type} {lt:β→β→Bool} (h:LO lt) (x y:β) : (c3 lt x y=-1∧lt x y=true∧x≠y)∨(c3 lt x y=1∧lt x y=false∧x≠y)∨(c3 lt x y=0∧lt x y=false∧x=y):=by
 unfold c3
 cases h1:lt x y with
 | true=>exact .inl ⟨rfl,rfl,fun e=>by rw [e,h.irrefl] at h1; cases h1⟩
 | false =>
   cases h2:lt y x with
   | true=>exact .inr (.inl ⟨rfl,rfl,fun e=>by rw [e,h.irrefl] at h2; cases h2⟩)
   | false=>exact .inr (.inr ⟨rfl,rfl,h.tri _ _ h1 h2⟩)
def Ce (a b:Int) : Int:=if a≠0 then a else b
def Yp {α:Type} (lt:α→α→Bool) (f:α→α→Int) : Prop:=∀ x y,decide (f x y<0)=lt x y
theorem Ew {α β:Type} [DecidableEq β] {k:α→β} {lt1:β→β→Bool} {lt2:α→α→Bool} {f:α→α→Int} (h1:LO lt1) (h2:Yp lt2 f) : Yp (lex k lt1 lt2) (fun x y=>Ce (c3 lt1 (k x) (k y)) (f x y)):=by
 intro x y
 unfold lex
 show decide (Ce (c3 lt1 (k x) (k y)) (f x y)<0)=_
 unfold Ce
 rcases Nc h1 (k x) (k y) with ⟨a,b,c⟩ | ⟨a,b,c⟩ | ⟨a,b,c⟩
 ·rw [a,b]; rfl
 ·rw [a,b,decide_eq_false c]; rfl
 ·rw [a,b,decide_eq_true c,if_neg (by simp),h2 x y]; rfl
theorem Ws {α:Type} : Yp (fun _ _:α=>false) (fun _ _=>0):=fun _ _=>rfl
def vU {α:Type} (mk:α→AV) (lt:α→α→Bool) (c:av) : Prop:=∀ {M:RM} {x y:α} {Q:ai},Q (N .i64 (c3 lt x y)) M→c [mk x,mk y] M Q
def BK {α:Type} (mk:α→AV) (c:av) : Prop:=∀ {M:RM} {x:α} {Q:ai},Q (Bo false) M→c [mk x] M Q
theorem VB:BK (α:=List UInt8) (fun s=>St s) fun args M Q=>∃ a0,args=[a0]∧tu a0 M Q:=by
 intro M x Q hQ
 refine ⟨_,rfl, ?_⟩
 unfold tu
 rw [kK,show (x != x)=false by simp]
 exact hQ
theorem Uy:BK (α:=Nat) (fun n=>N .u64 (n:Int)) fun args M Q=>∃ a0,args=[a0]∧aC.pg a0 M Q:=by
 intro M x Q hQ
 exact ⟨_,rfl,Jq hQ⟩
theorem VF:BK (α:=Int) (fun n=>N .i64 n) fun args M Q=>∃ a0,args=[a0]∧y7 a0 M Q:=by
 intro M x Q hQ
 refine ⟨_,rfl, ?_⟩
 unfold y7
 rw [gD,show (x != x)=false by simp]
 exact hQ
theorem Vx {cn:av} (hn:BK (α:=List UInt8) (fun s=>St s) cn) : vU (α:=List UInt8) (fun s=>St s) (fun x y=>decide (x<y)) fun args M Q=>∃ a0 a1,args=[a0,a1]∧qz cn a0 a1 M Q:=by
 intro M x y Q hQ
 refine ⟨_,_,rfl, ?_⟩
 unfold qz
 refine hn (hn ?_)
 rw [bK,bK,G5,og]
 unfold c3 at hQ
 by_cases h1:x<y
 ·rw [decide_eq_true h1,dP]
  rw [if_pos (by simpa using h1)] at hQ; exact hQ
 ·rw [decide_eq_false h1,bK,Wv,og,decide_eq_false h1,Bool.false_or]
  rw [if_neg (by simpa using h1)] at hQ
  by_cases h2:y<x
  ·have hne:x≠y:=fun e=>by subst e; exact List.lt_irrefl _ h2
   rw [show (x == y)=false by simpa using hne,Bool.not_false,dP]
   rw [if_pos (by simpa using h2)] at hQ; exact hQ
  ·have he:x=y:=sJ.tri x y (by simpa using h1) (by simpa using h2)
   rw [show (x == y)=true by simpa using he,Bool.not_true,bK]
   rw [if_neg (by simpa using h2)] at hQ; exact hQ
theorem Vn {cn:av} (hn:BK (α:=Nat) (fun n=>N .u64 (n:Int)) cn) : vU (α:=Nat) (fun n=>N .u64 (n:Int)) (fun x y=>decide (x<y)) fun args M Q=>∃ a0 a1,args=[a0,a1]∧qJ cn a0 a1 M Q:=by
 intro M x y Q hQ
 refine ⟨_,_,rfl, ?_⟩
 unfold qJ
 refine hn (hn ?_)
 rw [bK,bK,bL]
 unfold c3 at hQ
 by_cases h1:x<y
 ·rw [show decide ((x:Int)<(y:Int))=true by simpa using h1,dP]
  rw [if_pos (by simpa using h1)] at hQ; exact hQ
 ·rw [show decide ((x:Int)<(y:Int))=false by simpa using h1,bK,iC]
  rw [if_neg (by simpa using h1)] at hQ
  by_cases h2:y<x
  ·rw [show decide ((x:Int) > (y:Int))=true by simpa using h2,dP]
   rw [if_pos (by simpa using h2)] at hQ; exact hQ
  ·rw [show decide ((x:Int) > (y:Int))=false by simpa using h2,bK]
   rw [if_neg (by simpa using h2)] at hQ; exact hQ
theorem Vr {cn:av} (hn:BK (α:=Int) (fun n=>N .i64 n) cn) : vU (α:=Int) (fun n=>N .i64 n) (fun x y=>decide (x<y)) fun args M Q=>∃ a0 a1,args=[a0,a1]∧ve cn a0 a1 M Q:=by
 intro M x y Q hQ
 refine ⟨_,_,rfl, ?_⟩
 unfold ve
 refine hn (hn ?_)
 rw [bK,bK,bL]
 unfold c3 at hQ
 by_cases h1:x<y
 ·rw [show decide (x<y)=true by simpa using h1,dP]
  rw [if_pos (by simpa using h1)] at hQ; exact hQ
 ·rw [show decide (x<y)=false by simpa using h1,bK,iC]
  rw [if_neg (by simpa using h1)] at hQ
  by_cases h2:y<x
  ·rw [show decide (x > y)=true by simpa using h2,dP]
   rw [if_pos (by simpa using h2)] at hQ; exact hQ
  ·rw [show decide (x > y)=false by simpa using h2,bK]
   rw [if_neg (by simpa using h2)] at hQ; exact hQ
def INT:Enc Int:=⟨1,fun n=>[N .i64 n],fun _=>rfl,fun _=>rfl⟩
def G8:List Int→Int
 | []=>0
 | x :: xs=>Ce x (G8 xs)
def Yb (c:av) : Prop:=∀ {M:RM} {v:AV} {xs:List Int} {Q:ai},Sl INT M v xs→xs.length≤100→Q (N .i64 (G8 xs)) M→c [v] M Q
theorem Zi:Yb fun args M Q=>∃ a0,args=[a0]∧GJ a0 M Q:=by
 intro M v xs Q hs hl hQ
 refine ⟨_,rfl, ?_⟩
 unfold GJ
 rw [aM.len hs]
 refine aJ (fun m ys M3=>∃ i:Nat,m=xs.length - i∧ys=[N .i64 (i:Int)]∧i≤xs.length∧M3=M∧G8 xs=G8 (xs.drop i)) _ ⟨0,rfl,rfl,Nat.zero_le _,rfl,rfl⟩ ?_
 rintro next m ys M3 hnext ⟨i,rfl,rfl,hi,rfl,hm⟩
 dsimp only [aa]
 rw [bL]
 refine aI (fun hlt=>?_) (fun hge=>?_)
 ·have hlt:i<xs.length:=by simpa using hlt
  obtain ⟨b1,o1,_,_,hidx1,hc1⟩:=Sl.qX (E:=INT) hs (i:Int) hlt
  rw [hidx1,jC (hc1 _ rfl),gD]
  rw [List.drop_eq_getElem_cons hlt,G8,Ce] at hm
  by_cases h0:xs[i]=0
  ·rw [show (xs[i] != 0)=false by simp [h0],bK,bH,dQ (by omega)]
   rw [if_neg (by simp [h0])] at hm
   exact hnext _ _ _ (by omega) ⟨i + 1,rfl,rfl,hlt,rfl,hm⟩
  ·rw [show (xs[i] != 0)=true by simp [h0],dP]
   rw [if_pos (by simp [h0])] at hm
   rw [hm] at hQ
   exact hQ
 ·have he:i=xs.length:=by simp at hge; omega
  subst he
  rw [List.drop_length] at hm
  rw [hm] at hQ
  exact hQ
theorem aa1 {T:Nat} {M:RM} {x y:Int} {K:RB→(Nat→AV)→Prop} : df T 2 [(N .i64 0)] [(0,1,N .i64 x),(1,1,N .i64 y)] K=K (.row [N .i64 x,N .i64 y] false T 0) (fun b=>.slc b 0 2 (.ex 2)):=by
 apply propext; unfold df
 constructor
 ·rintro ⟨l,h,hk⟩; cases h; exact hk
 ·intro hk; exact ⟨_,rfl,hk⟩
theorem aaU {T:Nat} {M:RM} {x y z:Int} {K:RB→(Nat→AV)→Prop} : df T 3 [(N .i64 0)] [(0,1,N .i64 x),(1,1,N .i64 y),(2,1,N .i64 z)] K=K (.row [N .i64 x,N .i64 y,N .i64 z] false T 0) (fun b=>.slc b 0 3 (.ex 3)):=by
 apply propext; unfold df
 constructor
 ·rintro ⟨l,h,hk⟩; cases h; exact hk
 ·intro hk; exact ⟨_,rfl,hk⟩
def Ye (x y:aC) : Int:=Ce (c3 (fun x y:Nat=>decide (x<y)) x.2 y.2) (Ce (c3 (fun x y:Int=>decide (x<y)) x.1 y.1) 0)
def Q8 (x y:aL) : Int:=Ce (c3 (fun x y:List UInt8=>decide (x<y)) x.2.1 y.2.1) (Ce (c3 (fun x y:List UInt8=>decide (x<y)) x.2.2.1 y.2.2.1) (Ye x.1 y.1))
theorem Zt:Yp fo Q8:=Ew (k:=fun x:aL=>x.2.1) sJ (Ew (k:=fun x:aL=>x.2.2.1) sJ (Ew (k:=fun x:aL=>x.1.2) CE (Ew (k:=fun x:aL=>x.1.1) Ed Ws)))
def Nb (c:av) : Prop:=∀ {M:RM} {x y:aC} {Q:ai},(∀ M',ah [] M M'→Q (N .i64 (Ye x y)) M')→c [.agg (aQ x),.agg (aQ y)] M Q
theorem TC {TD TI:Nat} {cu ci co:av} (hu:vU (α:=Nat) (fun n=>N .u64 (n:Int)) (fun x y=>decide (x<y)) cu) (hi:vU (α:=Int) (fun n=>N .i64 n) (fun x y=>decide (x<y)) ci) (ho:Yb co) :
  Nb fun args M Q=>∃ a0 a1,args=[a0,a1]∧Kv TD cu ci TI co a0 a1 M Q:=by
 intro M x y Q hQ
 refine ⟨_,_,rfl, ?_⟩
 unfold Kv
 rw [dH rfl (by simp),aX,dH rfl (by simp),aX]
 have k1:ah [] M (M.push (.row (aQ x) false TD 0)):=(ah.refl _ _).push _
 have k2:ah [] M ((M.push (.row (aQ x) false TD 0)).push (.row (aQ y) false TD 0)):=k1.push _
 have h2:((M.push (.row (aQ x) false TD 0)).push (.row (aQ y) false TD 0)).heap (M.push (.row (aQ x) false TD 0)).next=some (.row (aQ y) false TD 0):=RM.aR _
 have h1:((M.push (.row (aQ x) false TD 0)).push (.row (aQ y) false TD 0)).heap M.next=some (.row (aQ x) false TD 0):=kU (RM.aR _) (by simp [RM.push])
 generalize (M.push (.row (aQ x) false TD 0)).push (.row (aQ y) false TD 0)=M2 at *
 generalize (M.push (.row (aQ x) false TD 0)).next=s at *
 rw [aW,ak h1 rfl,aW,ak h2 rfl,aW,ak h1 rfl,aW,ak h2 rfl]
 refine hu ?_
 rw [ak h1 rfl]
 refine ⟨rfl, ?_⟩
 rw [ak h2 rfl]
 refine ⟨rfl, ?_⟩
 refine hi ?_
 rw [aa1 (M:=M2),iV]
 refine ho (xs:=[_,_]) ?_ (by simp) (hQ _ (k2.push _))
 exact Sl.new (E:=INT) [_,_]
def Aa (c:av) : Prop:=∀ {M:RM} {x y:aL} {Q:ai},(∀ M',ah [] M M'→Q (N .i64 (Q8 x y)) M')→c [.agg (ay.cells x),.agg (ay.cells y)] M Q
theorem MX {TE TI:Nat} {cs cd co:av} (hs:vU (α:=List UInt8) (fun s=>St s) (fun x y=>decide (x<y)) cs) (hd:Nb cd) (ho:Yb co) :
  Aa fun args M Q=>∃ a0 a1,args=[a0,a1]∧Dj TE cs cd TI co a0 a1 M Q:=by
 intro M x y Q hQ
 refine ⟨_,_,rfl, ?_⟩
 unfold Dj
 rw [dH rfl (by rw [ay.len]; decide),aX,dH rfl (by rw [ay.len]; decide),aX]
 have k1:ah [] M (M.push (.row (ay.cells x) false TE 0)):=(ah.refl _ _).push _
 have k2:ah [] M ((M.push (.row (ay.cells x) false TE 0)).push (.row (ay.cells y) false TE 0)):=k1.push _
 have h2:((M.push (.row (ay.cells x) false TE 0)).push (.row (ay.cells y) false TE 0)).heap (M.push (.row (ay.cells x) false TE 0)).next=some (.row (ay.cells y) false TE 0):=RM.aR _
 have h1:((M.push (.row (ay.cells x) false TE 0)).push (.row (ay.cells y) false TE 0)).heap M.next=some (.row (ay.cells x) false TE 0):=kU (RM.aR _) (by simp [RM.push])
 have n1:M.next<((M.push (.row (ay.cells x) false TE 0)).push (.row (ay.cells y) false TE 0)).next:=by simp [RM.push]; omega
 have n2:(M.push (.row (ay.cells x) false TE 0)).next<((M.push (.row (ay.cells x) false TE 0)).push (.row (ay.cells y) false TE 0)).next:=by simp [RM.push]
 generalize (M.push (.row (ay.cells x) false TE 0)).push (.row (ay.cells y) false TE 0)=M2 at *
 generalize (M.push (.row (ay.cells x) false TE 0)).next=s at *
 have ld:∀ {M' : RM} {b:Nat} {z:aL},M'.heap b=some (.row (ay.cells z) false TE 0)→∀ K:AV→Prop,aH M' (.ptr b 0) 2 K=K (.agg (aQ z.1)):=fun {M' b z} h K=>by
  rw [eQ,RM.dh h (by show 0 + 2≤5; decide)]
  simp [ay]
 rw [aW,ak h1 rfl,aW,ak h2 rfl,aW,ak h1 rfl,aW,ak h2 rfl,aW,ld h1,aW,ld h2]
 refine hs ?_
 rw [ak h1 rfl]
 refine ⟨rfl, ?_⟩
 rw [ak h2 rfl]
 refine ⟨rfl, ?_⟩
 rw [ld h1]
 refine ⟨rfl, ?_⟩
 rw [ld h2]
 refine ⟨rfl, ?_⟩
 refine hs ?_
 rw [ld h1]
 refine ⟨rfl, ?_⟩
 rw [ld h2]
 refine ⟨rfl, ?_⟩
 refine hd fun M3 k3=>?_
 rw [aaU (M:=M3),iV]
 refine ho (xs:=[_,_,_]) (Sl.new (E:=INT) [_,_,_]) (by simp) ?_
 have e:G8 [c3 (fun x y:List UInt8=>decide (x<y)) x.2.1 y.2.1,c3 (fun x y:List UInt8=>decide (x<y)) x.2.2.1 y.2.2.1,Ye x.1 y.1]=Q8 x y:=by
  simp only [G8,Q8]
  congr 2
  unfold Ce; split <;> simp_all
 rw [e]
 exact hQ _ ((k2.trans k3).push _)
theorem Y8 {cv:FuncId→av} {n:Nat} (h:Aa (cv n)) : wY ay fo (dZ cv (.fn (.func n) [] [])):=by
 intro M x y Q hQ
 exact ⟨n,[],[],rfl,h fun M' k=>hQ _ _ (Zt x y) k⟩
end Go.Ab.Crw
set_option maxRecDepth 10000
set_option linter.unusedVariables false
set_option linter.unusedSimpArgs false
namespace Go.Ab.Crw
open Go Go.Ab Go.Ab.aC
abbrev l7:=aC × (Int × (List UInt8 × (List UInt8 × List UInt8)))
def Yt:Enc l7:=⟨6,fun e=>aQ e.1++[N .i64 e.2.1,St e.2.2.1,St e.2.2.2.1,St e.2.2.2.2],fun _=>rfl,fun _=>rfl⟩
abbrev eU (e:l7) (kv:AV) : List AV:=Yt.cells e++[kv]
theorem Rk {M:RM} {c p:Bool} {f:KR→Prop} {P:RM→Prop} {G:AV→RM→Prop} (h0:P M) (hf:c=false→∀ k:KR,(∀ M',P M'→k (Bo p) M' none)→f k) (hG:∀ M',P M'→G (Bo (c || p)) M') :
  ae (Bo c) false f (fun k=>k .undef M none) (fun t M' b=>aP (Bo c) (Bo true) t fun u=>G u M'):=by
 cases c with
 | true=>rw [xJ]; dsimp only; rw [dF]; exact hG M h0
 | false=>rw [dO]; exact hf rfl _ fun M' h=>by rw [bU]; exact hG M' h
theorem DU {M:RM} {c p:Bool} {f:ai→Prop} {G:AV→RM→Prop} (hf:c=false→∀ k:ai,k (Bo p) M→f k) (hG:G (Bo (c || p)) M) :
  au (Bo c) false f (fun k=>k .undef M) (fun t M'=>aP (Bo c) (Bo true) t fun u=>G u M'):=by
 cases c with
 | true=>rw [iY]; dsimp only; rw [dF]; exact hG
 | false=>rw [dC]; exact hf rfl _ (by rw [bU]; exact hG)
theorem Ya {M:RM} {c q r:Bool} {f0:KR→Prop} {f:RM→KR→Prop} {P:RM→Prop} {G:AV→RM→Prop} (h0:P M) (hf0:c=false→∀ k:KR,k (Bo q) M none→f0 k) (hf:c=false→q=true→∀ k:KR,(∀ M',P M'→k (Bo r) M' none)→f M k) (hG:∀ M',P M'→G (Bo (c || (q && r))) M') :
  ae (Bo c) false f0 (fun k=>k .undef M none) fun t45 M1 b1=>ae t45 true (f M1) (fun k=>k .undef M1 none) fun t54 M2 b2=>ae (Bo c) false (fun k3=>aP t45 t54 (Bo false) fun t55=>k3 t55 M2 none) (fun k=>k .undef M2 none) fun t55 M3 b3=>aP (Bo c) (Bo true) t55 fun t56=>G t56 M3:=by
 cases c with
 | true=>rw [xJ]; dsimp only; rw [O6]; dsimp only; rw [xJ]; dsimp only; rw [dF]; exact hG M h0
 | false =>
   rw [dO]
   refine hf0 rfl _ ?_
   cases q with
   | false=>rw [jL]; dsimp only; rw [dO]; dsimp only; rw [bU,bU]; exact hG M h0
   | true =>
     rw [fe]
     refine hf rfl rfl _ fun M' h=>?_
     rw [dO]; dsimp only; rw [dF,bU]; exact hG M' h
theorem MI {M:RM} {c q r:Bool} {f0:ai→Prop} {f:RM→ai→Prop} {G:AV→RM→Prop} (hf0:c=false→∀ k:ai,k (Bo q) M→f0 k) (hf:c=false→q=true→∀ k:ai,k (Bo r) M→f M k) (hG:G (Bo (c || (q && r))) M) :
  au (Bo c) false f0 (fun k=>k .undef M) fun t45 M1=>au t45 true (f M1) (fun k=>k .undef M1) fun t54 M2=>au (Bo c) false (fun k3=>aP t45 t54 (Bo false) fun t55=>k3 t55 M2) (fun k=>k .undef M2) fun t55 M3=>aP (Bo c) (Bo true) t55 fun t56=>G t56 M3:=by
 cases c with
 | true=>rw [iY]; dsimp only; rw [ui]; dsimp only; rw [iY]; dsimp only; rw [dF]; exact hG
 | false =>
   rw [dC]
   refine hf0 rfl _ ?_
   cases q with
   | false=>rw [bV]; dsimp only; rw [dC]; dsimp only; rw [bU,bU]; exact hG
   | true =>
     rw [bS]
     refine hf rfl rfl _ ?_
     rw [dC]; dsimp only; rw [dF,bU]; exact hG
def uB (a b:aC) : Bool:=decide (a.2<b.2) || (decide (a.2=b.2) && decide (a.1<b.1))
def wZ (c:av) : Prop:=∀ {M:RM} {a b:aC} {Q:ai},(∀ M',ah [] M M'→Q (Bo (uB a b)) M')→c [.agg (aQ a),.agg (aQ b)] M Q
theorem La {M1:RM} {T m1 m2:Nat} {a b:aC} {K:AV→RM→Prop} (h1:M1.heap m1=some (.row (aQ a) false T 0)) (h2:M1.heap m2=some (.row (aQ b) false T 0)) (hK:K (Bo (uB a b)) M1) :
  aD (.ptr m1 0) 1 fun t5=>aj M1 t5 fun t6=>aD (.ptr m2 0) 1 fun t7=>aj M1 t7 fun t8=>af .lss t6 t8 fun t9 =>
  au t9 false (fun k'=>aD (.ptr m1 0) 1 fun bT=>aj M1 bT fun t12=>aD (.ptr m2 0) 1 fun bf=>aj M1 bf fun t14=>af .eql t12 t14 fun t15=>k' t15 M1) (fun k=>k .undef M1) fun t16 M_18 =>
  au t16 true (fun k'=>aD (.ptr m1 0) 0 fun t17=>aj M_18 t17 fun t18=>aD (.ptr m2 0) 0 fun t19=>aj M_18 t19 fun t20=>af .lss t18 t20 fun t21=>k' t21 M_18) (fun k=>k .undef M_18) fun t21_32 M_33 =>
  au t9 false (fun k_34=>aP t16 t21_32 (Bo false) fun t22=>k_34 t22 M_33) (fun k=>k .undef M_33) fun t22_35 M_36 =>
  aP t9 (Bo true) t22_35 fun t23=>K t23 M_36:=by
 rw [aW,ak h1 rfl,aW,ak h2 rfl,bL,show decide ((a.2:Int)<(b.2:Int))=decide (a.2<b.2) by simp]
 refine MI (q:=decide (a.2=b.2)) (r:=decide (a.1<b.1)) (fun _ k hk=>?_) (fun _ _ k hk=>?_) hK
 ·rw [aW,ak h1 rfl,aW,ak h2 rfl,di,show ((a.2:Int) == (b.2:Int))=decide (a.2=b.2) by by_cases h:a.2=b.2 <;> simp [h]; omega]
  exact hk
 ·rw [aW,ak h1 rfl,aW,ak h2 rfl,bL]
  exact hk
theorem Sk {T:Nat} : wZ fun args M Q=>∃ a0 a1,args=[a0,a1]∧Po T a0 a1 M Q:=by
 intro M a b Q hQ
 refine ⟨_,_,rfl, ?_⟩
 unfold Po
 simp only [gM]
 rw [dH rfl (by simp),aX,dH rfl (by simp),aX]
 exact La (kU (RM.aR _) (by simp [RM.push])) (RM.aR _) (hQ _ (((ah.refl _ _).push _).push _))
theorem OY {T:Nat} : wZ fun args M Q=>∃ a0 a1,args=[a0,a1]∧GR T a0 a1 M Q:=by
 intro M a b Q hQ
 refine ⟨_,_,rfl, ?_⟩
 unfold GR
 simp only [gM]
 rw [dH rfl (by simp),aX,dH rfl (by simp),aX]
 exact La (kU (RM.aR _) (by simp [RM.push])) (RM.aR _) (hQ _ (((ah.refl _ _).push _).push _))
def names (c f v:List UInt8) : Bool:=decide (1≤c.length) && decide (c.length≤64) && decide (f.length≤64) && decide (v.length≤512)
def Zk:Option aC→aC→Bool
 | none,_=>true
 | some q,k=>uB q k
def ic (d:aC) (p:Option aC) : List aC→Bool
 | []=>true
 | k :: ks=>good k && !decide (k=d) && Zk p k && ic d (some k) ks
def Ap (e:l7) : Bool:=(decide (e.2.1=1) && decide (e.2.2.2.1≠[])) || (decide (e.2.1=2) && decide (e.2.2.2.2=[]))
def dM (e:l7) (ks:List aC) : Bool:=good e.1 && names e.2.2.1 e.2.2.2.1 e.2.2.2.2 && decide (ks.length≤64) && ic e.1 none ks && Ap e
def Px (c:av) : Prop:=∀ {M:RM} {x y z:List UInt8} {Q:ai},Q (Bo (names x y z)) M→c [St x,St y,St z] M Q
theorem Ue:Px fun args M Q=>∃ a0 a1 a2,args=[a0,a1,a2]∧zg a0 a1 a2 M Q:=by
 intro M x y z Q hQ
 refine ⟨_,_,_,rfl, ?_⟩
 unfold zg
 simp only [gM]
 rw [kw,jw]
 refine andM (p:=decide (x.length≤64)) (fun _ k hk=>?_) ?_
 ·rw [kw,lW,show decide ((x.length:Int)≤64)=decide (x.length≤64) by simp; omega]; exact hk
 refine andM (p:=decide (y.length≤64)) (fun _ k hk=>?_) ?_
 ·rw [kw,lW,show decide ((y.length:Int)≤64)=decide (y.length≤64) by simp; omega]; exact hk
 refine andM (p:=decide (z.length≤512)) (fun _ k hk=>?_) ?_
 ·rw [kw,lW,show decide ((z.length:Int)≤512)=decide (z.length≤512) by simp; omega]; exact hk
 rw [show decide ((x.length:Int) ≥ 1)=decide (1≤x.length) by simp; omega]
 exact hQ
def wB (c:av) : Prop:=∀ {M:RM} {e:l7} {kv:AV} {ks:List aC} {Q:ai},Sl dz M kv ks→(∀ M',ah [] M M'→Q (Bo (dM e ks)) M')→c [.agg (eU e kv)] M Q
theorem yh {M:RM} {b T:Nat} {e:l7} {kv:AV} (h:M.heap b=some (.row (eU e kv) false T 0)) {K:AV→Prop} : aH M (.ptr b 0) 2 K=K (.agg (aQ e.1)):=by
 have e2:((eU e kv).drop 0).take 2=aQ e.1:=rfl
 rw [eQ,RM.dh h (by show 0 + 2≤7; decide),e2]
 simp
theorem Er {M:RM} {e:l7} {kv:AV} {ks:List aC} (h:Sl dz M kv ks) : (eU e kv).all oneCell=true:=by
 rw [List.all_append,Yt.one,List.all_cons,aM.one h]; rfl
theorem oO {M:RM} {kv:AV} {ks:List aC} (h:Sl dz M kv ks) {i:Nat} (hi:i<ks.length) {kd:IntKind} {K:AV→Prop} : (ax kv (N kd (i:Int)) 2 fun p=>aH M p 2 K)=K (.agg (aQ ks[i])):=by
 obtain ⟨b,o,_,_,hidx,hld⟩:=Sl.at (E:=dz) (i:=i) h 2 (i:Int) hi rfl rfl
 rw [hidx,eQ,hld]
 simp [dz]
def xU (ks:List aC) (i:Nat) : Option aC:=if i=0 then none else ks[i - 1]?
theorem CZ {d:aC} {ks:List aC} {i:Nat} (hi:i<ks.length) : ic d (xU ks i) (ks.drop i) =
  (good ks[i] && !decide (ks[i]=d) && (if h:0<i then uB (ks[i - 1]'(by omega)) ks[i] else true) && ic d (xU ks (i + 1)) (ks.drop (i + 1))):=by
 rw [List.drop_eq_getElem_cons hi,ic]
 have e2:xU ks (i + 1)=some ks[i]:=by rw [xU,if_neg (by omega),Nat.add_sub_cancel,List.getElem?_eq_getElem hi]
 rw [e2]
 by_cases h0:i=0
 ·subst h0; rfl
 ·have e1:xU ks i=some (ks[i - 1]'(by omega)):=by rw [xU,if_neg h0,List.getElem?_eq_getElem (by omega)]
  rw [e1,dif_pos (by omega)]; rfl
theorem QD {TE TD:Nat} {cg cn cl:av} (hg:xH cg) (hn:Px cn) (hl:wZ cl) : wB fun args M Q=>∃ a0,args=[a0]∧Pz TE cg cn TD cl a0 M Q:=by
 intro M0 e kv ks Q hs0 hQ
 refine ⟨_,rfl, ?_⟩
 unfold Pz
 simp only [gM,fF,dY,fH]
 rw [dH (Er hs0) (by simp),aX]
 have k0:ah [] M0 (M0.push (.row (eU e kv) false TE 0)):=(ah.refl _ _).push _
 have h0:(M0.push (.row (eU e kv) false TE 0)).heap M0.next=some (.row (eU e kv) false TE 0):=RM.aR _
 have hlt:M0.next<(M0.push (.row (eU e kv) false TE 0)).next:=by simp [RM.push]
 have hs:=aM.keep hs0 k0 (by simp)
 generalize M0.push (.row (eU e kv) false TE 0)=M at *
 generalize M0.next=b at *
 have hs:Sl dz M kv ks:=hs
 rw [aW,yh h0]
 refine hg fun M1 k1=>?_
 have h1:=k1.aO h0 hlt (by simp)
 have s1:Sl dz M1 kv ks:=aM.keep hs k1 (by simp)
 rw [bO]
 refine DU (p:=!names e.2.2.1 e.2.2.2.1 e.2.2.2.2) (fun _ k hk=>?_) ?_
 ·rw [aW,ak h1 rfl,aW,ak h1 rfl,aW,ak h1 rfl]
  refine hn ?_
  rw [bO]
  exact hk
 refine DU (p:=decide (ks.length > 64)) (fun _ k hk=>?_) ?_
 ·rw [aW,ak h1 rfl,aM.len s1,iC,show decide ((ks.length:Int) > 64)=decide (ks.length > 64) by simp; omega]
  exact hk
 refine aI (fun hc=>?_) (fun hc=>?_)
 ·have:dM e ks=false:=by
   unfold dM
   simp only [Bool.or_eq_true,Bool.not_eq_true',decide_eq_true_eq] at hc
   rcases hc with (hc | hc) | hc
   ·rw [hc]; rfl
   ·rw [hc,Bool.and_false]; rfl
   ·rw [decide_eq_false (show ¬ (ks.length≤64) by omega),Bool.and_false]; rfl
  rw [this] at hQ
  exact hQ M1 (k0.trans k1)
 simp only [Bool.or_eq_false_iff,Bool.not_eq_false',decide_eq_false_iff_not] at hc
 obtain ⟨⟨hc1,hc2⟩,hc3⟩:=hc
 have hgoal:dM e ks=(ic e.1 none ks && Ap e):=by
  unfold dM
  rw [hc1,hc2,decide_eq_true (show (ks.length≤64) by omega)]; simp
 rw [aW,ak h1 rfl,aM.len s1]
 refine aJ (fun m ys M3=>∃ i:Nat,m=ks.length - i∧ys=[N .i64 (i:Int)]∧i≤ks.length∧ah [] M1 M3∧ic e.1 none ks=ic e.1 (xU ks i) (ks.drop i)) _ ⟨0,rfl,rfl,Nat.zero_le _,ah.refl _ _,rfl⟩ ?_
 rintro next m ys M3 hnext ⟨i,rfl,rfl,hi,k3,hm⟩
 dsimp only [aa]
 have n1:=k1.next
 have h3:=k3.aO h1 (by omega) (by simp)
 have s3:Sl dz M3 kv ks:=aM.keep s1 k3 (by simp)
 have kk3:=(k0.trans k1).trans k3
 rw [dX]
 refine aI (fun hlt2=>?_) (fun hge=>?_)
 ·have hlt2:i<ks.length:=of_decide_eq_true hlt2
  rw [CZ hlt2] at hm
  rw [oO s3 hlt2,aX,gI (n:=2) (x:=.agg (aQ ks[i])) (l:=[N .i64 0,N .u64 0]) (RM.aR _) rfl rfl rfl]
  have k4:ah [] M3 ((M3.push (.row [N .i64 0,N .u64 0] false TD 0)).put M3.next (.row (AV.agg (aQ ks[i])).cells false TD 0)):=((ah.refl _ _).push _).new _ (Nat.le_refl _)
  have hk4:((M3.push (.row [N .i64 0,N .u64 0] false TD 0)).put M3.next (.row (AV.agg (aQ ks[i])).cells false TD 0)).heap M3.next=some (.row (aQ ks[i]) false TD 0):=aZ _
  have hn4:M3.next<((M3.push (.row [N .i64 0,N .u64 0] false TD 0)).put M3.next (.row (AV.agg (aQ ks[i])).cells false TD 0)).next:=by simp [RM.push,RM.put]
  generalize (M3.push (.row [N .i64 0,N .u64 0] false TD 0)).put M3.next (.row (AV.agg (aQ ks[i])).cells false TD 0)=M4 at *
  generalize M3.next=s at *
  rw [dG (n:=2) hk4 rfl]
  refine hg fun M5 k5=>?_
  have hk5:=k5.aO hk4 hn4 (by simp)
  have h5:=(k4.trans k5).aO h3 (by have:=k3.next; omega) (by simp)
  have s5:Sl dz M5 kv ks:=aM.keep s3 (k4.trans k5) (by simp)
  have kk5:=(k3.trans k4).trans k5
  rw [bO]
  refine Rk (P:=fun M'=>M'=M5) (p:=decide (ks[i]=e.1)) rfl (fun _ k hk=>?_) fun M' hM'=>?_
  ·rw [dG (n:=2) hk5 rfl,aW,yh h5,mR rfl rfl (zV _ _),Bool.bne_false]
   exact hk M5 rfl
  subst hM'
  refine Ya (P:=fun M6=>ah [] M1 M6) (q:=decide (i > 0)) (r:=!(if h:0<i then uB (ks[i - 1]'(by omega)) ks[i] else true)) kk5 (fun _ k hk=>?_) (fun _ hq k hk=>?_) fun M6 k6=>?_
  ·rw [show (0:Int)=((0:Nat) : Int) from rfl,vB]
   exact hk
  ·have hq:0<i:=of_decide_eq_true hq
   rw [aW,ak h5 rfl,dm (by omega) (by omega),oO s5 (by omega),dG (n:=2) hk5 rfl]
   refine hl fun M7 k7=>?_
   rw [bO,← dif_pos (c:=0<i) (t:=fun h=>uB (ks[i - 1]'(by omega)) ks[i]) (e:=fun _=>true) hq]
   exact hk M7 (kk5.trans k7)
  refine aI (fun hb=>?_) (fun hb=>?_)
  ·have:ic e.1 none ks=false:=by
    rw [hm]
    simp only [Bool.or_eq_true,Bool.and_eq_true,Bool.not_eq_true',decide_eq_true_eq] at hb
    rcases hb with (hb | hb) | ⟨_,hb⟩
    ·rw [hb]; rfl
    ·rw [show decide (ks[i]=e.1)=true by simpa using hb]; simp
    ·rw [hb]; simp
   rw [hgoal,this] at hQ
   exact hQ M6 ((k0.trans k1).trans k6)
  ·rw [add1 (by omega)]
   refine hnext _ _ _ (by omega) ⟨i + 1,rfl,rfl,by omega,k6, ?_⟩
   simp only [Bool.or_eq_false_iff,Bool.and_eq_false_iff,Bool.not_eq_false',decide_eq_false_iff_not] at hb
   obtain ⟨⟨hb1,hb2⟩,hb3⟩:=hb
   rw [hm,hb1,show decide (ks[i]=e.1)=false by simpa using hb2]
   rcases hb3 with hb3 | hb3
   ·rw [dif_neg hb3]; simp
   ·rw [hb3]; simp
 ·have he:i=ks.length:=by
   have:¬ i<ks.length:=of_decide_eq_false hge
   omega
  subst he
  rw [List.drop_length,ic] at hm
  rw [hgoal,hm,Bool.true_and] at hQ
  have op1:∀ n:Int,((e.2.1:Int) == n)=decide (e.2.1=n):=fun n=>by by_cases h:e.2.1=n <;> simp [h]
  rw [aW,ak h3 rfl,di,op1]
  refine andM (p:=decide (e.2.2.2.1≠[])) (fun _ k hk=>?_) ?_
  ·rw [aW,ak h3 rfl,kK,show (e.2.2.2.1 != [])=decide (e.2.2.2.1≠[]) by by_cases h:e.2.2.2.1=[] <;> simp [h]]
   exact hk
  refine MI (q:=decide (e.2.1=2)) (r:=decide (e.2.2.2.2=[])) (fun _ k hk=>?_) (fun _ _ k hk=>?_) (hQ M3 kk3)
  ·rw [aW,ak h3 rfl,di,op1]
   exact hk
  ·rw [aW,ak h3 rfl,qG,show (e.2.2.2.2 == [])=decide (e.2.2.2.2=[]) by by_cases h:e.2.2.2.2=[] <;> simp [h]]
   exact hk
theorem JM {TE:Nat} {cg cl:av} (hg:xH cg) (hl:wZ cl) : wB fun args M Q=>∃ a0,args=[a0]∧yE TE cg cl a0 M Q:=by
 intro M0 e kv ks Q hs0 hQ
 refine ⟨_,rfl, ?_⟩
 unfold yE
 simp only [gM,fF,dY,fH]
 rw [dH (Er hs0) (by simp),aX]
 have k0:ah [] M0 (M0.push (.row (eU e kv) false TE 0)):=(ah.refl _ _).push _
 have h0:(M0.push (.row (eU e kv) false TE 0)).heap M0.next=some (.row (eU e kv) false TE 0):=RM.aR _
 have hlt:M0.next<(M0.push (.row (eU e kv) false TE 0)).next:=by simp [RM.push]
 have hs:=aM.keep hs0 k0 (by simp)
 generalize M0.push (.row (eU e kv) false TE 0)=M at *
 generalize M0.next=b at *
 have hs:Sl dz M kv ks:=hs
 rw [aW,yh h0]
 refine hg fun M1 k1=>?_
 have h1:=k1.aO h0 hlt (by simp)
 have s1:Sl dz M1 kv ks:=aM.keep hs k1 (by simp)
 have op1:∀ n:Int,((e.2.1:Int) == n)=decide (e.2.1=n):=fun n=>by by_cases h:e.2.1=n <;> simp [h]
 have op2:∀ n:Int,((e.2.1:Int) != n)=decide (e.2.1≠n):=fun n=>by by_cases h:e.2.1=n <;> simp [h]
 rw [bO]
 refine MI (q:=decide (e.2.1≠1)) (r:=decide (e.2.1≠2)) (fun _ k hk=>?_) (fun _ _ k hk=>?_) ?_
 ·rw [aW,ak h1 rfl,gD,op2]; exact hk
 ·rw [aW,ak h1 rfl,gD,op2]; exact hk
 refine DU (p:=decide (e.2.2.1.length<1)) (fun _ k hk=>?_) ?_
 ·rw [aW,ak h1 rfl,kw,bL,show decide ((e.2.2.1.length:Int)<1)=decide (e.2.2.1.length<1) from decide_eq_decide.2 (by omega)]; exact hk
 refine DU (p:=decide (e.2.2.1.length > 64)) (fun _ k hk=>?_) ?_
 ·rw [aW,ak h1 rfl,kw,iC,show decide ((e.2.2.1.length:Int) > 64)=decide (e.2.2.1.length > 64) by simp; omega]; exact hk
 refine DU (p:=decide (e.2.2.2.1.length > 64)) (fun _ k hk=>?_) ?_
 ·rw [aW,ak h1 rfl,kw,iC,show decide ((e.2.2.2.1.length:Int) > 64)=decide (e.2.2.2.1.length > 64) by simp; omega]; exact hk
 refine DU (p:=decide (e.2.2.2.2.length > 512)) (fun _ k hk=>?_) ?_
 ·rw [aW,ak h1 rfl,kw,iC,show decide ((e.2.2.2.2.length:Int) > 512)=decide (e.2.2.2.2.length > 512) by simp; omega]; exact hk
 refine DU (p:=decide (ks.length > 64)) (fun _ k hk=>?_) ?_
 ·rw [aW,ak h1 rfl,aM.len s1,iC,show decide ((ks.length:Int) > 64)=decide (ks.length > 64) by simp; omega]; exact hk
 have kk1:=k0.trans k1
 refine aI (fun hc=>?_) (fun hc=>?_)
 ·have:dM e ks=false:=by
   simp only [Bool.or_eq_true,Bool.and_eq_true,Bool.not_eq_true',decide_eq_true_eq] at hc
   simp only [dM,names,Ap]
   rcases hc with (((((hc | ⟨hc1,hc2⟩) | hc) | hc) | hc) | hc) | hc
   ·rw [hc]; rfl
   ·simp [hc1,hc2]
   ·rw [decide_eq_false (show ¬ (1≤e.2.2.1.length) by omega)]; simp
   ·rw [decide_eq_false (show ¬ (e.2.2.1.length≤64) by omega)]; simp
   ·rw [decide_eq_false (show ¬ (e.2.2.2.1.length≤64) by omega)]; simp
   ·rw [decide_eq_false (show ¬ (e.2.2.2.2.length≤512) by omega)]; simp
   ·rw [decide_eq_false (show ¬ (ks.length≤64) by omega)]; simp
  rw [this] at hQ
  exact hQ M1 kk1
 simp only [Bool.or_eq_false_iff,Bool.and_eq_false_iff,Bool.not_eq_false',decide_eq_false_iff_not,Decidable.not_not] at hc
 obtain ⟨⟨⟨⟨⟨⟨hc1,hop⟩,hc2⟩,hc3⟩,hc4⟩,hc5⟩,hc6⟩:=hc
 have hgoal:dM e ks=(ic e.1 none ks && Ap e):=by
  simp only [dM,names]
  rw [hc1,decide_eq_true (show (1≤e.2.2.1.length) by omega),decide_eq_true (show (e.2.2.1.length≤64) by omega),decide_eq_true (show (e.2.2.2.1.length≤64) by omega),decide_eq_true (show (e.2.2.2.2.length≤512) by omega),decide_eq_true (show (ks.length≤64) by omega)]
  simp
 rw [hgoal] at hQ
 rw [aW,ak h1 rfl,di,op1]
 refine andM (p:=decide (e.2.2.2.1=[])) (fun _ k hk=>?_) ?_
 ·rw [aW,ak h1 rfl,qG,show (e.2.2.2.1 == [])=decide (e.2.2.2.1=[]) by by_cases h:e.2.2.2.1=[] <;> simp [h]]
  exact hk
 refine MI (q:=decide (e.2.1=2)) (r:=decide (e.2.2.2.2≠[])) (fun _ k hk=>?_) (fun _ _ k hk=>?_) ?_
 ·rw [aW,ak h1 rfl,di,op1]
  exact hk
 ·rw [aW,ak h1 rfl,kK,show (e.2.2.2.2 != [])=decide (e.2.2.2.2≠[]) by by_cases h:e.2.2.2.2=[] <;> simp [h]]
  exact hk
 have hopv:((decide (e.2.1=1) && decide (e.2.2.2.1=[])) || (decide (e.2.1=2) && decide (e.2.2.2.2≠[])))=!Ap e:=by
  unfold Ap
  rcases hop with hop | hop
  ·simp [hop]
  ·simp [hop]
 rw [hopv]
 refine aI (fun hb=>?_) (fun hb=>?_)
 ·rw [show Ap e=false by simpa using hb,Bool.and_false] at hQ
  exact hQ M1 kk1
 rw [show Ap e=true by simpa using hb,Bool.and_true] at hQ
 refine aJ (fun m ys M3=>∃ i:Nat,m=ks.length - i∧ys=[N .i64 (i:Int)]∧i≤ks.length∧ah [] M1 M3∧ic e.1 none ks=ic e.1 (xU ks i) (ks.drop i)) _ ⟨0,rfl,rfl,Nat.zero_le _,ah.refl _ _,rfl⟩ ?_
 rintro next m ys M3 hnext ⟨i,rfl,rfl,hi,k3,hm⟩
 dsimp only [aa]
 have n1:=k1.next
 have h3:=k3.aO h1 (by omega) (by simp)
 have s3:Sl dz M3 kv ks:=aM.keep s1 k3 (by simp)
 rw [aW,ak h3 rfl,aM.len s3,dX]
 refine aI (fun hlt2=>?_) (fun hge=>?_)
 ·have hlt2:i<ks.length:=of_decide_eq_true hlt2
  rw [CZ hlt2] at hm
  rw [aW,ak h3 rfl,oO s3 hlt2]
  refine hg fun M5 k5=>?_
  have h5:=k5.aO h3 (by have:=k3.next; omega) (by simp)
  have s5:Sl dz M5 kv ks:=aM.keep s3 k5 (by simp)
  have kk5:=k3.trans k5
  rw [bO]
  refine Rk (P:=fun M'=>M'=M5) (p:=decide (ks[i]=e.1)) rfl (fun _ k hk=>?_) fun M' hM'=>?_
  ·rw [aW,ak h5 rfl,oO s5 hlt2,aW,yh h5,mR rfl rfl (zV _ _),Bool.bne_false]
   exact hk M5 rfl
  subst hM'
  refine Ya (P:=fun M6=>ah [] M1 M6) (q:=decide (i > 0)) (r:=!(if h:0<i then uB (ks[i - 1]'(by omega)) ks[i] else true)) kk5 (fun _ k hk=>?_) (fun _ hq k hk=>?_) fun M6 k6=>?_
  ·rw [show (0:Int)=((0:Nat) : Int) from rfl,vB]
   exact hk
  ·have hq:0<i:=of_decide_eq_true hq
   rw [aW,ak h5 rfl,dm (by omega) (by omega),oO s5 (by omega),aW,ak h5 rfl,oO s5 hlt2]
   refine hl fun M7 k7=>?_
   rw [bO,← dif_pos (c:=0<i) (t:=fun h=>uB (ks[i - 1]'(by omega)) ks[i]) (e:=fun _=>true) hq]
   exact hk M7 (kk5.trans k7)
  refine aI (fun hb=>?_) (fun hb=>?_)
  ·have:ic e.1 none ks=false:=by
    rw [hm]
    simp only [Bool.or_eq_true,Bool.and_eq_true,Bool.not_eq_true',decide_eq_true_eq] at hb
    rcases hb with (hb | hb) | ⟨_,hb⟩
    ·rw [hb]; rfl
    ·rw [show decide (ks[i]=e.1)=true by simpa using hb]; simp
    ·rw [hb]; simp
   rw [this] at hQ
   exact hQ M6 (kk1.trans k6)
  ·rw [add1 (by omega)]
   refine hnext _ _ _ (by omega) ⟨i + 1,rfl,rfl,by omega,k6, ?_⟩
   simp only [Bool.or_eq_false_iff,Bool.and_eq_false_iff,Bool.not_eq_false',decide_eq_false_iff_not] at hb
   obtain ⟨⟨hb1,hb2⟩,hb3⟩:=hb
   rw [hm,hb1,show decide (ks[i]=e.1)=false by simpa using hb2]
   rcases hb3 with hb3 | hb3
   ·rw [dif_neg hb3]; simp
   ·rw [hb3]; simp
 ·have he:i=ks.length:=by
   have:¬ i<ks.length:=of_decide_eq_false hge
   omega
  subst he
  rw [List.drop_length,ic] at hm
  rw [hm] at hQ
  exact hQ M3 (kk1.trans k3)
end Go.Ab.Crw
set_option maxRecDepth 10000
set_option linter.unusedVariables false
set_option linter.unusedSimpArgs false
namespace Go.Ab.Crw
open Go Go.Ab Go.Ab.aC
def zH (T:Nat) (c:av) : Prop:=∀ {M:RM} {v:AV} {xs:List aL} {Q:ai},Sl ay M v xs→xs.length≤1000000→(∀ v' M',Ow ay M' M.next T v' xs→ah [] M M'→Q v' M')→c [v] M Q
theorem Qq {T:Nat} : zH T fun args M Q=>∃ a0,args=[a0]∧vo T a0 M Q:=by
 intro M v xs Q hs hl hQ
 refine ⟨_,rfl, ?_⟩
 unfold vo
 have h5:aM M 5 v (ay.row xs) xs.length:=hs
 exact CG (size:=5) (bytes:=64) h5 (Enc.oK _ _) (by decide) (by omega) (by omega) fun v' M' ho k=>hQ v' M' ho k
def KP (c:av) : Prop:=∀ {M:RM} {v:AV} {l:List aC} {d:aC} {Q:ai},Sl dz M v l→l.length≤1000000→(∀ (n:Int) M',(decide (n ≥ 0)=decide (d∈l))→ah [] M M'→Q (N .i64 n) M')→c [v,.agg (aQ d)] M Q
theorem Qj {T:Nat} : KP fun args M Q=>∃ a0 a1,args=[a0,a1]∧ze T a0 a1 M Q:=by
 intro M0 v l d Q hs0 hl hQ
 refine ⟨_,_,rfl, ?_⟩
 unfold ze
 rw [dH rfl (by simp),aX]
 have k0:ah [] M0 (M0.push (.row (aQ d) false T 0)):=(ah.refl _ _).push _
 have h0:(M0.push (.row (aQ d) false T 0)).heap M0.next=some (.row (aQ d) false T 0):=RM.aR _
 have hs:Sl dz (M0.push (.row (aQ d) false T 0)) v l:=aM.keep hs0 k0 (by simp)
 generalize M0.push (.row (aQ d) false T 0)=M at *
 generalize M0.next=b at *
 rw [aM.len hs]
 refine aJ (fun m ys M3=>∃ i:Nat,m=l.length - i∧ys=[N .i64 (i:Int)]∧i≤l.length∧M3=M∧(d∈l↔d∈l.drop i)) _ ⟨0,rfl,rfl,Nat.zero_le _,rfl,Iff.rfl⟩ ?_
 rintro next m ys M3 hnext ⟨i,rfl,rfl,hi,rfl,hm⟩
 dsimp only [aa]
 rw [dX]
 refine aI (fun hlt=>?_) (fun hge=>?_)
 ·have hlt:i<l.length:=of_decide_eq_true hlt
  rw [List.drop_eq_getElem_cons hlt,List.mem_cons] at hm
  rw [dG (n:=2) h0 rfl,oO hs hlt,mR rfl rfl (zV _ _),Bool.bne_false]
  refine aI (fun he=>?_) (fun he=>?_)
  ·have he:d=l[i]:=of_decide_eq_true he
   refine hQ _ _ ?_ k0
   rw [decide_eq_true (show (i:Int) ≥ 0 by omega),decide_eq_true (hm.2 (.inl he))]
  ·have he:¬ d=l[i]:=of_decide_eq_false he
   rw [add1 (by omega)]
   exact hnext _ _ _ (by omega) ⟨i + 1,rfl,rfl,by omega,rfl,hm.trans ⟨fun h=>h.resolve_left he,.inr⟩⟩
 ·have he:i=l.length:=by
   have:¬ i<l.length:=of_decide_eq_false hge
   omega
  subst he
  rw [List.drop_length] at hm
  refine hQ _ _ ?_ k0
  rw [decide_eq_false (show ¬ (-1:Int) ≥ 0 by decide),decide_eq_false (fun h=>by simpa using hm.1 h)]
def BI (c:av) : Prop:=∀ {M:RM} {v:AV} {l:List aC} {d:aC} {Q:ai},Sl dz M v l→l.length≤1000000→(∀ M',ah [] M M'→Q (Bo (decide (d∈l))) M')→c [v,.agg (aQ d)] M Q
theorem JC {T:Nat} {ci:av} (hi:KP ci) : BI fun args M Q=>∃ a0 a1,args=[a0,a1]∧uf T ci a0 a1 M Q:=by
 intro M0 v l d Q hs0 hl hQ
 refine ⟨_,_,rfl, ?_⟩
 unfold uf
 rw [dH rfl (by simp),aX]
 have k0:ah [] M0 (M0.push (.row (aQ d) false T 0)):=(ah.refl _ _).push _
 rw [dG (n:=2) (RM.aR _) rfl]
 refine hi (aM.keep hs0 k0 (by simp)) hl fun n M' hn k=>?_
 rw [jw,hn]
 exact hQ M' (k0.trans k)
def Mx (P:RM→Prop) (p:aL→Bool) (c:List AV→RM→ai→Prop) : Prop:=∀ {M:RM} {x:aL} {Q:ai},P M→(∀ M',ah [] M M'→Q (Bo (p x)) M')→c [.agg (ay.cells x)] M Q
theorem lJ {M:RM} {v:AV} {xs:List aL} (h:Sl ay M v xs) {i:Nat} (hi:i<xs.length) {kd:IntKind} {K:AV→Prop} : (ax v (N kd (i:Int)) 5 fun p=>aH M p 5 K)=K (.agg (ay.cells xs[i])):=by
 obtain ⟨b,o,_,_,hidx,hld⟩:=Sl.at (E:=ay) (i:=i) h 5 (i:Int) hi rfl rfl
 rw [hidx,eQ,hld]
 simp
def Ju (P:RM→Prop) (p:aL→Bool) (fv:AV) (c:av) : Prop:=∀ {M:RM} {v:AV} {xs:List aL} {Q:ai},P M→(∀ M M',P M→ah [] M M'→P M')→Sl ay M v xs→xs.length≤1000000 →
 (xs.any p=false→∀ M',ah [] M M'→Q (N .i64 (-1)) M')→(∀ (i:Nat) (hi:i<xs.length),p xs[i]=true→(∀ x∈xs.take i,p x=false)→∀ M',ah [] M M'→Q (N .i64 (i:Int)) M')→c [v,fv] M Q
theorem Qv {P:RM→Prop} {p:aL→Bool} {fv:AV} {cv:FuncId→av} (hp:Mx P p (dZ cv fv)) : Ju P p fv fun args M Q=>∃ a0 a1,args=[a0,a1]∧pQ cv a0 a1 M Q:=by
 intro M v xs Q hP hPk hs hl h0 h1
 refine ⟨_,_,rfl, ?_⟩
 unfold pQ
 rw [aM.len hs]
 refine aJ (fun m ys M3=>∃ i:Nat,m=xs.length - i∧ys=[N .i64 (i:Int)]∧i≤xs.length∧ah [] M M3∧∀ x∈xs.take i,p x=false) _ ⟨0,rfl,rfl,Nat.zero_le _,ah.refl _ _,by simp⟩ ?_
 rintro next m ys M3 hnext ⟨i,rfl,rfl,hi,k3,hm⟩
 dsimp only [aa]
 rw [dX]
 refine aI (fun hlt=>?_) (fun hge=>?_)
 ·have hlt:i<xs.length:=of_decide_eq_true hlt
  rw [lJ (aM.keep hs k3 (by simp)) hlt]
  refine hp (hPk _ _ hP k3) fun M4 k4=>?_
  refine aI (fun he=>h1 i hlt he hm M4 (k3.trans k4)) (fun he=>?_)
  rw [add1 (by omega)]
  refine hnext _ _ _ (by omega) ⟨i + 1,rfl,rfl,by omega,k3.trans k4,fun x hx=>?_⟩
  rw [List.take_succ_eq_append_getElem hlt,List.mem_append] at hx
  rcases hx with hx | hx
  ·exact hm x hx
  ·simp at hx; subst hx; exact he
 ·have he:i=xs.length:=by
   have:¬ i<xs.length:=of_decide_eq_false hge
   omega
  subst he
  rw [List.take_length] at hm
  exact h0 (by simpa using hm) M3 k3
theorem Vw {b o n k z:Nat} (h:k≤n) (h0:0<n) : bR z (.slc b o n (.op z)) none (some (N .i64 (k:Int))) none=some (.slc b o k (.op z)):=by
 simp only [bR,bnd]
 simp [h]
 omega
theorem Na (zs:List AV) : ∀ k,(bM zs k).length=k * zs.length
 | 0=>by simp [bM]
 | k + 1=>by rw [bM,List.length_append,Na zs k,Nat.succ_mul,Nat.add_comm]
theorem Om {zs:List AV} (h:zs.all oneCell=true) : ∀ k,(bM zs k).all oneCell=true
 | 0=>by simp [bM]
 | k + 1=>by rw [bM,List.all_append,h,Om h k]; rfl
def Gf (T:Nat) (P:RM→Prop) (p:aL→Bool) (fv:AV) (c:av) : Prop:=∀ {M:RM} {base:Nat} {v:AV} {xs:List aL} {Q:ai},P M→(∀ M M' ks,P M→ah ks M M'→(∀ d∈ks,d∈aF v)→P M')→Ow ay M base T v xs→xs.length≤60000 →
 (∀ v' M',Sl ay M' v' (xs.filter fun x=>!p x)→(∀ d∈aF v',d∈aF v)→ah (aF v) M M'→Q v' M')→c [v,fv] M Q
theorem Ps {T TE:Nat} {P:RM→Prop} {p:aL→Bool} {fv:AV} {cv:FuncId→av} {ci:av} (hi:Ju P p fv ci) (hp:Mx P p (dZ cv fv)) : Gf T P p fv fun args M Q=>∃ a0 a1,args=[a0,a1]∧nT ci TE cv a0 a1 M Q:=by
 intro M base v xs Q hP hPk ho hl hQ
 refine ⟨_,_,rfl, ?_⟩
 unfold nT
 simp only [cZ]
 have hs:Sl ay M v xs:=ho.eu
 refine hi hP (fun M M' h k=>hPk M M' [] h k (by simp)) hs (by omega) (fun hn M1 k1=>?_) (fun i hlt hpi hm M1 k1=>?_)
 ·rw [di,show ((-1:Int) == -1)=true from rfl,dP]
  have e:(xs.filter fun x=>!p x)=xs:=List.filter_eq_self.2 fun x hx=>by
   have:=List.any_eq_false.1 hn x hx
   simpa using this
  exact hQ v M1 (by rw [e]; exact aM.keep hs k1 (by simp)) (fun d hd=>hd) (k1.mono (by simp))
 rw [di,show ((i:Int) == -1)=false by rw [beq_eq_false_iff_ne]; omega,bK,add1 (by omega)]
 obtain ⟨b,rfl,h1,h2,h3,h4⟩:=Own.wI ho (by omega)
 have hsz:xs.toArray.size=xs.length:=by simp
 have hat:At ay T b xs.toArray M:=⟨by rw [h3],h2⟩
 have hel:∀ j (h:j<xs.length),xs.toArray[j]! = xs[j]:=fun j h=>by rw [Kh (by simpa using h)]; simp
 have hpre0:xs.toArray.toList.take i=(xs.take (i + 1)).filter fun x=>!p x:=by
  rw [List.take_succ_eq_append_getElem hlt,List.filter_append,List.filter_eq_self.2 fun x hx=>by simpa using hm x hx]
  simp [hpi]
 refine aJ (fun m ys M3=>∃ (k j:Nat) (d:Array aL),m=xs.length - j∧ys=[N .i64 (k:Int),N .i64 (j:Int)]∧j≤xs.length∧k<j∧At ay T b d M3∧ah [b] M M3∧d.size=xs.length∧d.toList.take k=(xs.take j).filter (fun x=>!p x)∧∀ q (h:q<xs.length),j≤q→d[q]! = xs[q]) _
  ⟨i,i + 1,xs.toArray,rfl,rfl,by omega,by omega,hat.keep k1,k1.mono (by simp),hsz,hpre0,fun q h _=>hel q h⟩ ?_
 rintro next m ys M3 hnext ⟨k,j,d,rfl,rfl,hj,hkj,h3',k3,hds,hpre,hold⟩
 dsimp only [aa]
 have lenV:∀ K:AV→Prop,bu (AV.slc b 0 xs.length (.op ay.size)) K=K (N .i64 (xs.length:Int)):=fun K=>by simp [lV]
 rw [lenV,dX]
 have e5:ay.size=5:=rfl
 rw [e5] at *
 refine aI (fun hlt2=>?_) (fun hge2=>?_)
 ·have hlt2:j<xs.length:=of_decide_eq_true hlt2
  refine bn (fun zs M'=>∃ (k' : Nat) (d' : Array aL),zs=[N .i64 (k' : Int)]∧k'<j + 1∧At ay T b d' M'∧ah [b] M M'∧d'.size=xs.length∧d'.toList.take k'=(xs.take (j + 1)).filter (fun x=>!p x)∧∀ q (h:q<xs.length),j + 1≤q→d'[q]! = xs[q]) ?_ ?_
  ·rintro zs M' ⟨k',d',rfl,c1,c2,c3,c4,c5,c6⟩
   dsimp only [aa]
   rw [add1 (by omega)]
   exact hnext _ _ _ (by omega) ⟨k',j + 1,d',rfl,rfl,by omega,c1,c2,c3,c4,c5,c6⟩
  intro J hJ
  rw [h3'.rd (z:=5) rfl hds.symm (by omega),hold j hlt2 (Nat.le_refl _),aX,gI (n:=5) (x:=.agg (ay.cells xs[j])) (l:=[(N .i64 0),(N .u64 0),(St []),(St []),(St [])]) (RM.aR _) rfl rfl rfl]
  have k4:ah [] M3 ((M3.push (.row [(N .i64 0),(N .u64 0),(St []),(St []),(St [])] false TE 0)).put M3.next (.row (AV.agg (ay.cells xs[j])).cells false TE 0)):=((ah.refl _ _).push _).new _ (Nat.le_refl _)
  have hk4:((M3.push (.row [(N .i64 0),(N .u64 0),(St []),(St []),(St [])] false TE 0)).put M3.next (.row (AV.agg (ay.cells xs[j])).cells false TE 0)).heap M3.next=some (.row (ay.cells xs[j]) false TE 0):=aZ _
  have hn4:M3.next<((M3.push (.row [(N .i64 0),(N .u64 0),(St []),(St []),(St [])] false TE 0)).put M3.next (.row (AV.agg (ay.cells xs[j])).cells false TE 0)).next:=by simp [RM.push,RM.put]
  generalize (M3.push (.row [(N .i64 0),(N .u64 0),(St []),(St []),(St [])] false TE 0)).put M3.next (.row (AV.agg (ay.cells xs[j])).cells false TE 0)=M4 at *
  generalize M3.next=s at *
  rw [dG (n:=5) hk4 rfl]
  have kk4:ah [b] M M4:=k3.trans (k4.mono (cs:=[b]) (by simp))
  have hP4:P M4:=hPk M M4 [b] hP kk4 (by simp [aF])
  refine hp hP4 fun M5 k5=>?_
  have kk5:ah [b] M M5:=kk4.trans (k5.mono (cs:=[b]) (by simp))
  have hat5:=h3'.keep (k4.trans k5)
  have hflt:(xs.take (j + 1)).filter (fun x=>!p x)=if p xs[j] then (xs.take j).filter (fun x=>!p x) else (xs.take j).filter (fun x=>!p x)++[xs[j]]:=by
   rw [List.take_succ_eq_append_getElem hlt2,List.filter_append]
   by_cases hpj:p xs[j]=true <;> simp [hpj]
  rw [bO]
  refine aI (fun hn=>?_) (fun hn=>?_)
  ·have hpj:p xs[j]=false:=by simpa using hn
   rw [dG (n:=5) (k5.aO hk4 hn4 (by simp)) rfl,At.idx (by omega)]
   refine hat5.st (z:=5) rfl (by omega) fun M6 h6 k6 _=>?_
   rw [add1 (by omega)]
   refine hJ _ _ ⟨k + 1,_,rfl,by omega,h6,kk5.trans k6,by simpa using hds, ?_,fun q h hq=>?_⟩
   ·have hkl:k<d.toList.length:=by rw [Array.length_toList]; omega
    rw [hflt,hpj,← hpre,Array.toList_setIfInBounds,List.take_succ_eq_append_getElem (by rw [List.length_set]; exact hkl),List.getElem_set_self,List.take_set_of_le (Nat.le_refl _)]
    rfl
   ·rw [← hold q h (by omega),Kh (by rw [Array.size_setIfInBounds]; omega),Kh (by omega),Array.getElem_setIfInBounds_ne (by omega) (by omega)]
  ·have hpj:p xs[j]=true:=by simpa using hn
   exact hJ _ _ ⟨k,d,rfl,by omega,hat5,kk5,hds,by rw [hflt,hpj]; exact hpre,fun q h hq=>hold q h (by omega)⟩
 ·have hj2:j=xs.length:=by
   have:¬ j<xs.length:=of_decide_eq_false hge2
   omega
  subst hj2
  rw [List.take_length] at hpre
  have hrl:(ay.row d.toList).length=xs.length * 5:=by rw [Enc.ed,Array.length_toList,hds]; rfl
  have hst:M3.stores b (0 + k * 5) (bM [(N .i64 0),(N .u64 0),(St []),(St []),(St [])] (xs.length - k))=some (M3.put b (.row ((ay.row d.toList).take (0 + k * 5)++bM [(N .i64 0),(N .u64 0),(St []),(St []),(St [])] (xs.length - k)++(ay.row d.toList).drop (0 + k * 5 + (bM [(N .i64 0),(N .u64 0),(St []),(St []),(St [])] (xs.length - k)).length)) true T 0)):=by
   refine RM.Ae h3'.heap ?_ (Nat.zero_le _) (Om rfl _)
   rw [Na,hrl]
   show 0 + k * 5 + (xs.length - k) * 5≤xs.length * 5
   omega
  rw [nS (by omega),dD]
  refine .inl ⟨_,_,_,_,_,rfl,hst, ?_⟩
  dsimp only
  rw [Vw (by omega) (by omega),dD]
  have hlk:(xs.filter fun x=>!p x).length=k:=by rw [← hpre,List.length_take,Array.length_toList]; omega
  refine hQ _ _ ?_ (fun e he=>by simpa [aF] using he) ?_
  ·have hrow:((ay.row d.toList).take (0 + k * 5))=ay.row (xs.filter fun x=>!p x):=by
    rw [← hpre,show 0 + k * 5=k * ay.size by show 0 + k * 5=k * 5; omega,Enc.uk]
   show aM _ 5 (.slc b 0 k (.op 5)) (ay.row (xs.filter fun x=>!p x)) (xs.filter fun x=>!p x).length
   rw [hlk]
   refine .slc _ _ _ _ _ h3'.lt ?_
   have hl:(ay.row (xs.filter fun x=>!p x)).length=k * 5:=by rw [Enc.ed,hlk]; rfl
   rw [RM.dh (aZ _) (by rw [hrow]; simp [hl]),List.drop_zero,hrow,List.append_assoc,List.take_left' hl]
  ·have:ah [b] M3 (M3.put b (.row ((ay.row d.toList).take (0 + k * 5)++bM [(N .i64 0),(N .u64 0),(St []),(St []),(St [])] (xs.length - k)++(ay.row d.toList).drop (0 + k * 5 + (bM [(N .i64 0),(N .u64 0),(St []),(St []),(St [])] (xs.length - k)).length)) true T 0)):=(ah.refl _ _).put _ (.inr (by simp))
   simpa [aF] using k3.trans this
def Di (TE:Nat) (b:Nat) (e:l7) (kv:AV) (ks:List aC) (M:RM) : Prop:=b<M.next∧M.heap b=some (.row (eU e kv) false TE 0)∧Sl dz M kv ks
theorem Di.keep {TE b:Nat} {e:l7} {kv:AV} {ks:List aC} {M M' : RM} {bs:List Nat} (h:Di TE b e kv ks M) (k:ah bs M M') (hb:b ∉ bs) (hk:∀ d∈aF kv,d ∉ bs) : Di TE b e kv ks M':=by
 obtain ⟨h1,h2,h3⟩:=h
 exact ⟨Nat.lt_of_lt_of_le h1 k.next,k.aO h2 h1 hb,aM.keep h3 k hk⟩
theorem PT {TE T b:Nat} {e:l7} {kv:AV} {ks:List aC} {cc:av} (hc:BI cc) (hl:ks.length≤1000000) {M:RM} {x:aL} {Q:ai} (hP:Di TE b e kv ks M) (hQ:∀ M',ah [] M M'→Q (Bo (decide (x.1∈ks))) M') :
  ∃ a0 a1,[AV.agg (ay.cells x),.ptr b 0]=[a0,a1]∧sD T cc a0 a1 M Q:=by
 obtain ⟨h1,h2,h3⟩:=hP
 refine ⟨_,_,rfl, ?_⟩
 unfold sD
 rw [dH rfl (by rw [ay.len]; decide),aX]
 have k0:ah [] M (M.push (.row (ay.cells x) false T 0)):=(ah.refl _ _).push _
 have hx:(M.push (.row (ay.cells x) false T 0)).heap M.next=some (.row (ay.cells x) false T 0):=RM.aR _
 have h2':=k0.aO h2 h1 (by simp)
 have h3' : Sl dz (M.push (.row (ay.cells x) false T 0)) kv ks:=aM.keep h3 k0 (by simp)
 generalize M.push (.row (ay.cells x) false T 0)=M1 at *
 generalize M.next=s at *
 have e2:((ay.cells x).drop 0).take 2=aQ x.1:=rfl
 have ld:∀ K:AV→Prop,aH M1 (.ptr s 0) 2 K=K (.agg (aQ x.1)):=fun K=>by
  rw [eQ,RM.dh hx (by rw [ay.len]; decide),e2]
  simp
 rw [aW,ak h2' rfl,aW,ld]
 exact hc h3' hl fun M' k=>hQ M' (k0.trans k)
theorem VS (a b:aL) : ek [1,1,2,2,2] (ay.cells a) (ay.cells b)=some (decide (a=b)):=by
 obtain ⟨⟨d,n⟩,x,y,z⟩:=a
 obtain ⟨⟨d',n'⟩,x',y',z'⟩:=b
 show ek [1,1,2,2,2] [N .i64 d,N .u64 (n:Int),St x,St y,St z] [N .i64 d',N .u64 (n' : Int),St x',St y',St z']=_
 simp only [IQ,Sy,Jb]
 by_cases h1:d=d' <;> by_cases h2:n=n' <;> by_cases h3:x=x' <;> by_cases h4:y=y' <;> by_cases h5:z=z' <;> simp [h1,h2,h3,h4,h5]
 all_goals omega
def ug (c:av) : Prop:=∀ {M:RM} {v w:AV} {xs ys:List aL} {Q:ai},Sl ay M v xs→Sl ay M w ys→xs.length≤1000000→Q (Bo (decide (xs=ys))) M→c [v,w] M Q
theorem Qn:ug fun args M Q=>∃ a0 a1,args=[a0,a1]∧vk a0 a1 M Q:=by
 intro M v w xs ys Q h1 h2 hl hQ
 refine ⟨_,_,rfl, ?_⟩
 unfold vk
 rw [aM.len h1,aM.len h2,gD,aM.len h1]
 refine aI (fun hn=>?_) (fun hn=>?_)
 ·have:¬ xs=ys:=fun e=>by subst e; simp at hn
  rw [decide_eq_false this] at hQ
  exact hQ
 have hn:xs.length=ys.length:=by
  simp only [bne_eq_false_iff_eq] at hn
  omega
 refine aJ (fun m zs M3=>∃ i:Nat,m=xs.length - i∧zs=[N .i64 (i:Int)]∧i≤xs.length∧M3=M∧(xs=ys↔xs.drop i=ys.drop i)) _ ⟨0,rfl,rfl,Nat.zero_le _,rfl,Iff.rfl⟩ ?_
 rintro next m zs M3 hnext ⟨i,rfl,rfl,hi,rfl,hm⟩
 dsimp only [aa]
 rw [dX]
 refine aI (fun hlt=>?_) (fun hge=>?_)
 ·have hlt:i<xs.length:=of_decide_eq_true hlt
  rw [List.drop_eq_getElem_cons hlt,List.drop_eq_getElem_cons (show i<ys.length by omega),List.cons.injEq] at hm
  rw [lJ h1 hlt,lJ h2 (by omega),mR rfl rfl (VS _ _)]
  refine aI (fun he=>?_) (fun he=>?_)
  ·have he:¬ xs[i]=ys[i]'(by omega):=by simpa using he
   rw [decide_eq_false (fun e=>he (hm.1 e).1)] at hQ
   exact hQ
  ·have he:xs[i]=ys[i]'(by omega):=by simpa using he
   rw [add1 (by omega)]
   exact hnext _ _ _ (by omega) ⟨i + 1,rfl,rfl,by omega,rfl,hm.trans ⟨fun h=>h.2,fun h=>⟨he,h⟩⟩⟩
 ·have he:i=xs.length:=by
   have:¬ i<xs.length:=of_decide_eq_false hge
   omega
  subst he
  rw [List.drop_length,hn,List.drop_length] at hm
  rw [decide_eq_true (hm.2 rfl)] at hQ
  exact hQ
end Go.Ab.Crw
set_option maxRecDepth 10000
set_option linter.unusedVariables false
set_option linter.unusedSimpArgs false
namespace Go.Ab.aC
open Go Go.Ab
theorem OW:∀ (a b:Nat),bM [N .u64 0] (a + b)=bM [N .u64 0] a++bM [N .u64 0] b
 | 0,b=>by simp [bM]
 | a + 1,b=>by rw [show a + 1 + b=(a + b) + 1 by omega,bM,bM,OW a b]; simp
theorem OJ {M:RM} {b T k:Nat} {ps ys:List Nat} {u:AV} {zs:List AV} {K:ai} (hb:M.heap b=some (.row (aS.row ps++bM [N .u64 0] k) true T 0)) (hu:Sl aS M u ys) (hk:ys.length≤k) (hl:ys.length≤1000000)
  (hK:∀ M',M'.heap b=some (.row (aS.row (ps++ys)++bM [N .u64 0] (k - ys.length)) true T 0)→ah [b] M M'→M'.next=M.next→K (.slc b 0 (ps++ys).length (.op 1)) M') :
  appW T 1 8 zs false (.slc b 0 ps.length (.op 1)) u M K:=by
 have hn:=aM.kN hu zs
 have hrl:(aS.row ys).length=ys.length:=by rw [Enc.ed]; simp [aS]
 have hpl:(aS.row ps).length=ps.length:=by rw [Enc.ed]; simp [aS]
 refine ⟨ys.length,aS.row ys,hn,by omega,by omega, ?_⟩
 by_cases h0:ys.length=0
 ·have:ys=[]:=List.length_eq_zero_iff.1 h0
  subst this
  refine ⟨.slc b 0 ps.length (.op 1),M,by simp [mZ], ?_⟩
  have:=hK M (by simpa using hb) (ah.refl _ _) rfl
  simpa using this
 ·have hfit:0 + (ps.length + ys.length) * 1≤(aS.row ps++bM [N .u64 0] k).length:=by
   rw [List.length_append,hpl,(om k).1]; omega
  refine ⟨.slc b 0 (ps.length + ys.length) (.op 1),M.put b (.row (aS.row (ps++ys)++bM [N .u64 0] (k - ys.length)) true T 0), ?_, ?_⟩
  ·simp only [mZ,if_neg h0,hb]
   rw [if_pos (by simp),if_pos hfit,RM.uP hb,oF (by rw [hrl,List.length_append,hpl,(om k).1]; omega) (by omega) (aS.oK ys)]
   simp only [Option.map_some]
   congr 4
   rw [Enc.rJ]
   have e1:(aS.row ps++bM [N .u64 0] k).take (0 + ps.length * 1)=aS.row ps:=by rw [List.take_left' (by omega)]
   have e2:(aS.row ps++bM [N .u64 0] k).drop (0 + ps.length * 1 + (aS.row ys).length)=bM [N .u64 0] (k - ys.length):=by
    have:k=ys.length + (k - ys.length):=by omega
    rw [show bM [N .u64 0] k=bM [N .u64 0] ys.length++bM [N .u64 0] (k - ys.length) by rw [← OW]; congr 1,← List.append_assoc,List.drop_left' (by rw [List.length_append,hpl,(om _).1,hrl]; omega)]
   rw [e1,e2]
  ·have:=hK _ (aZ _) ((ah.refl _ _).put _ (.inr (by simp))) rfl
   rw [List.length_append] at this
   exact this
def J8 (T:Nat) (c:av) : Prop:=∀ {M:RM} {bb TS:Nat} {v w:AV} {xs ys:List Nat} {Q:ai},M.heap bb=some (.row [v,w] false TS 0)→bb<M.next→Sl aS M v xs→Sl aS M w ys→xs.length≤1000000→ys.length≤1000000 →
 (∀ r M',Ow aS M' M.next T r (xs++ys)→ah [] M M'→Q r M')→c [.slc bb 0 2 (.ex 2)] M Q
theorem PQ {TS T:Nat} {cg:av} (hg:SE T cg) : J8 T fun args M Q=>∃ a0,args=[a0]∧rM TS cg T a0 M Q:=by
 intro M bb TB v w xs ys Q hb hbl hv hw hx hy hQ
 refine ⟨_,rfl, ?_⟩
 unfold rM
 simp only [uh]
 have at0:∀ K:AV→Prop,ax (.slc bb 0 2 (.ex 2)) (N .i64 ((0:Nat) : Int)) 1 K=K (.ptr bb 0):=fun K=>by
  rw [lQ]; exact propext ⟨fun h=>h.2.2,fun h=>⟨by decide,by decide,h⟩⟩
 have qX:∀ K:AV→Prop,ax (.slc bb 0 2 (.ex 2)) (N .i64 ((1:Nat) : Int)) 1 K=K (.ptr bb 1):=fun K=>by
  rw [lQ]; exact propext ⟨fun h=>h.2.2,fun h=>⟨by decide,by decide,h⟩⟩
 rw [lV]
 have len3:∀ (p0:Nat),p0=0∨p0=xs.length∨p0=xs.length + ys.length→True:=fun _ _=>trivial
 refine aJ (fun m zs M3=>∃ i:Nat,m=2 - i∧i≤2∧zs=[N .i64 ((if i=0 then 0 else if i=1 then xs.length else xs.length + ys.length:Nat) : Int),N .i64 (i:Int)]∧M3=M) _ ⟨0,rfl,by omega,rfl,rfl⟩ ?_
 rintro next m zs M3 hnext ⟨i,rfl,hi,rfl,rfl⟩
 dsimp only [aa]
 rw [bL]
 obtain rfl | rfl | rfl:i=0∨i=1∨i=2:=by omega
 ·rw [show decide (((0:Nat) : Int)<((2:Nat) : Int))=true from rfl,dP,at0,ak hb rfl,aM.len hv]
  simp only [if_true]
  rw [bH,show ((0:Nat) : Int) + (xs.length:Int)=(xs.length:Int) by omega,bD (by omega) (by omega),bL,show decide ((xs.length:Int)<0)=false by simp,bK,bH,dQ (by omega)]
  exact hnext _ _ _ (by omega) ⟨1,rfl,by omega,rfl,rfl⟩
 ·rw [show decide (((1:Nat) : Int)<((2:Nat) : Int))=true from rfl,dP,qX,ak hb rfl,aM.len hw]
  simp only [if_true,show ¬ (1:Nat)=0 by omega,if_false]
  rw [bH,show (xs.length:Int) + (ys.length:Int)=((xs.length + ys.length:Nat) : Int) by omega,bD (by omega) (by omega),bL,show decide (((xs.length + ys.length:Nat) : Int)<0)=false by simp; omega,bK,bH,dQ (by omega)]
  exact hnext _ _ _ (by omega) ⟨2,rfl,by omega,rfl,rfl⟩
 ·rw [show decide (((2:Nat) : Int)<((2:Nat) : Int))=false from rfl,bK]
  simp only [show ¬ (2:Nat)=0 by omega,show ¬ (2:Nat)=1 by omega,if_false]
  refine hg (by omega) (fun h0=>?_) (fun hpos b M4 hb0 hb1 hrow k4=>?_)
  ·
   have e1:xs=[]:=List.length_eq_zero_iff.1 (by omega)
   have e2:ys=[]:=List.length_eq_zero_iff.1 (by omega)
   subst e1 e2
   rw [lV]
   refine aJ (fun m zs M5=>∃ i:Nat,m=2 - i∧i≤2∧zs=[eG,N .i64 (i:Int)]∧M5=M3) _ ⟨0,rfl,by omega,rfl,rfl⟩ ?_
   rintro next2 m zs M5 hnext2 ⟨i,rfl,hi,rfl,rfl⟩
   dsimp only [aa]
   rw [bL]
   have app:∀ (u:AV) (K:ai),Sl aS M5 u []→K eG M5→appW T 1 8 [N .u64 0] false eG u M5 K:=fun u K hu hK=>by
    refine ⟨0,[], ?_,by omega,by omega,eG,M5,by simp [mZ],hK⟩
    exact aM.kN hu _
   obtain rfl | rfl | rfl:i=0∨i=1∨i=2:=by omega
   ·rw [show decide (((0:Nat) : Int)<((2:Nat) : Int))=true from rfl,dP,at0,ak hb rfl]
    refine app _ _ hv ?_
    rw [bH,dQ (by omega)]
    exact hnext2 _ _ _ (by omega) ⟨1,rfl,by omega,rfl,rfl⟩
   ·rw [show decide (((1:Nat) : Int)<((2:Nat) : Int))=true from rfl,dP,qX,ak hb rfl]
    refine app _ _ hw ?_
    rw [bH,dQ (by omega)]
    exact hnext2 _ _ _ (by omega) ⟨2,rfl,by omega,rfl,rfl⟩
   ·rw [show decide (((2:Nat) : Int)<((2:Nat) : Int))=false from rfl,bK]
    exact hQ eG M5 .nil (ah.refl _ _)
  ·rw [lV]
   have hbb:bb≠b:=by omega
   refine aJ (fun m zs M5=>∃ i:Nat,m=2 - i∧i≤2∧zs=[.slc b 0 (if i=0 then ([] : List Nat) else if i=1 then xs else xs++ys).length (.op 1),N .i64 (i:Int)]∧ah [b] M4 M5∧M5.next=M4.next ∧
     M5.heap b=some (.row (aS.row (if i=0 then [] else if i=1 then xs else xs++ys)++bM [N .u64 0] (xs.length + ys.length - (if i=0 then ([] : List Nat) else if i=1 then xs else xs++ys).length)) true T 0)) _
    ⟨0,rfl,by omega,rfl,ah.refl _ _,rfl,by simpa [Enc.row] using hrow⟩ ?_
   rintro next2 m zs M5 hnext2 ⟨i,rfl,hi,rfl,k5,n5,hrow5⟩
   dsimp only [aa]
   rw [bL]
   have hb4:=k4.aO hb hbl (by simp)
   have hb5:=k5.aO hb4 (by omega) (by simp; exact hbb)
   have hv5:Sl aS M5 v xs:=aM.keep (aM.keep hv k4 (by simp)) k5 (fun d hd hm=>by have:=aM.lt hv d hd; simp at hm; omega)
   have hw5:Sl aS M5 w ys:=aM.keep (aM.keep hw k4 (by simp)) k5 (fun d hd hm=>by have:=aM.lt hw d hd; simp at hm; omega)
   obtain rfl | rfl | rfl:i=0∨i=1∨i=2:=by omega
   ·rw [show decide (((0:Nat) : Int)<((2:Nat) : Int))=true from rfl,dP,at0,ak hb5 rfl]
    simp only [if_true] at hrow5 ⊢
    refine OJ hrow5 hv5 (by simp) hx fun M6 hrow6 k6 n6=>?_
    rw [bH,dQ (by omega)]
    refine hnext2 _ _ _ (by omega) ⟨1,rfl,by omega,by simp,k5.trans k6,n6.trans n5, ?_⟩
    simp at hrow6 ⊢
    exact hrow6
   ·rw [show decide (((1:Nat) : Int)<((2:Nat) : Int))=true from rfl,dP,qX,ak hb5 rfl]
    simp only [if_true,show ¬ (1:Nat)=0 by omega,if_false] at hrow5 ⊢
    refine OJ hrow5 hw5 (by omega) hy fun M6 hrow6 k6 n6=>?_
    rw [bH,dQ (by omega)]
    refine hnext2 _ _ _ (by omega) ⟨2,rfl,by omega,by simp,k5.trans k6,n6.trans n5, ?_⟩
    simp at hrow6 ⊢
    exact hrow6
   ·rw [show decide (((2:Nat) : Int)<((2:Nat) : Int))=false from rfl,bK]
    simp only [show ¬ (2:Nat)=0 by omega,show ¬ (2:Nat)=1 by omega,if_false,List.length_append,Nat.sub_self,bM,List.append_nil] at hrow5 ⊢
    refine hQ _ M5 ?_ (k4.bi k5 (by simp; omega))
    rw [Ow,List.length_append]
    exact .op b _ _ (by omega) (by omega) hrow5 (by rw [Enc.ed,List.length_append])
end Go.Ab.aC
set_option maxRecDepth 10000
set_option linter.unusedVariables false
set_option linter.unusedSimpArgs false
namespace Go.Ab.aC
open Go Go.Ab
theorem fZ.put {T i u a:Nat} {S S' : Nat→Prop} {M M' : RM} {ps:List Pt} {l:List AV} {v' : AV} {xs:List Nat} {ks:List Nat} (h:fZ T S M a ps) (hl:M.heap a=some (.row l false T 0)) (hi:i<16)
  (hb:M'.heap a=some (.row ((l.set (2 * i) (N .u64 (u:Int))).set (2 * i + 1) v') false T 0)) (hk:ah ks M M') (hks:∀ d∈ks,d=a∨¬ S d) (hs:Sl aS M' v' xs) (hc:kY v') (hv:∀ d∈aF v',S' d) (hS:∀ d,S d→S' d) (ha:¬ S' a) : fZ T S' M' a (ps.set i (u,xs)):=by
 obtain ⟨l0,h1,h2,h3⟩:=h.row
 rw [hl] at h1
 obtain rfl:l=l0:=by simpa using h1
 refine ⟨Nat.lt_of_lt_of_le h.lt hk.next,by rw [List.length_set]; exact h.len,⟨_,hb,by simp [h2],fun j hj=>?_⟩,ha⟩
 have hj' : j<ps.length:=by rw [List.length_set] at hj; exact hj
 have hj16:j<16:=by rw [← h.len]; exact hj'
 by_cases hji:j=i
 ·subst hji
  refine ⟨v', ?_, ?_, ?_,hc,hv⟩
  ·rw [List.getElem?_set_ne (by omega),List.getElem?_set_self (by omega),List.getElem_set_self]
  ·rw [List.getElem?_set_self (by simp; omega)]
  ·rw [List.getElem_set_self]; exact hs
 ·obtain ⟨w,b1,b2,b3,b4,b5⟩:=h3 j hj'
  refine ⟨w, ?_, ?_, ?_,b4,fun d hd=>hS d (b5 d hd)⟩
  ·rw [List.getElem?_set_ne (by omega),List.getElem?_set_ne (by omega),List.getElem_set_ne (Ne.symm hji)]; exact b1
  ·rw [List.getElem?_set_ne (by omega),List.getElem?_set_ne (by omega)]; exact b2
  ·rw [List.getElem_set_ne (Ne.symm hji)]
   refine aM.keep b3 hk fun d hd hm=>?_
   rcases hks d hm with rfl | h'
   ·exact h.nb (b5 d hd)
   ·exact h' (b5 d hd)
def lK (f g:List Nat→List Nat) (p q:Pt) : Pt:=settle (max p.1 q.1) (g (f (p.2++q.2)))
def oW (f g:List Nat→List Nat) (ps qs:List Pt) : Nat→List Pt
 | 0=>ps
 | i + 1=>(oW f g ps qs i).set i (lK f g (ps.getD i (0,[])) (qs.getD i (0,[])))
theorem GX {f g:List Nat→List Nat} {ps qs:List Pt} : ∀ {i j:Nat},i≤j→(oW f g ps qs i).getD j (0,[])=ps.getD j (0,[])
 | 0,j,_=>rfl
 | i + 1,j,h=>by rw [oW,getD_set_ne (by omega),GX (by omega)]
def SC (P:List Nat→Prop) (P2:List Nat→Prop) (f g:List Nat→List Nat) (T:Nat) (c:av) : Prop:=∀ {M:RM} {a b:Nat} {ps qs:List Pt} {S S' : Nat→Prop} {Q:ai},fZ T S M a ps→fZ T S' M b qs→(a=b→ps=qs)→¬ S' a →
 (∀ i,i<16→P ((ps.getD i (0,[])).2++(qs.getD i (0,[])).2)∧P2 (f ((ps.getD i (0,[])).2++(qs.getD i (0,[])).2)))→(∀ p∈ps,p.1≤4398046511104∧p.2.length≤100000)→(∀ p∈qs,p.1≤4398046511104∧p.2.length≤100000) →
 (∀ i,i<16→(g (f ((ps.getD i (0,[])).2++(qs.getD i (0,[])).2))).length≤1000000∧∀ x∈g (f ((ps.getD i (0,[])).2++(qs.getD i (0,[])).2)),x≤4398046511104) →
 (∀ M',fZ T (fun e=>S e∨M.next≤e) M' a (oW f g ps qs 16)→ah [a] M M'→Q (.tup []) M')→c [.ptr a 0,.ptr b 0] M Q
theorem ul {ps:List Pt} {R:Pt→Prop} (h:∀ p∈ps,R p) (h0:R (0,[])) (i:Nat) : R (ps.getD i (0,[])):=by
 rw [List.getD_eq_getElem?_getD]
 by_cases hj:i<ps.length
 ·rw [List.getElem?_eq_getElem hj]; exact h _ (List.getElem_mem hj)
 ·rw [List.getElem?_eq_none (by omega)]; exact h0
theorem Uw {TS TP TL TU:Nat} {P P2:List Nat→Prop} {f g:List Nat→List Nat} {cc cs ck ct:av} (hc:J8 TU cc) (hs:Ug P f TU cs) (hk:Ha P2 g TU ck) (ht:Aq ct) :
  SC P P2 f g TS fun args M Q=>∃ a0 a1,args=[a0,a1]∧Bn TP TL cc cs ck ct a0 a1 M Q:=by
 intro M a b ps qs S S' Q hA hB hab hSa hP hbp hbq hres hQ
 refine ⟨_,_,rfl, ?_⟩
 unfold Bn
 have hal:=hA.lt
 have hbl:=hB.lt
 refine aJ (fun m ys M3=>∃ (i:Nat),m=16 - i∧ys=[N .i64 (i:Int)]∧i≤16∧ah [a] M M3∧fZ TS (fun e=>S e∨M.next≤e) M3 a (oW f g ps qs i)) _
  ⟨0,rfl,rfl,Nat.zero_le _,ah.refl _ _,hA.mono (fun e h=>.inl h) (fun h=>by rcases h with h | h; exact hA.nb h; omega)⟩ ?_
 rintro next m ys M3 hnext ⟨i,rfl,rfl,hi,k3,hA3⟩
 dsimp only [aa]
 rw [bL]
 refine aI (fun hlt=>?_) (fun hge=>?_)
 ·have hlt:i<16:=by
   have:(i:Int)<16:=of_decide_eq_true hlt
   omega
  have n3:=k3.next
  -- the second set's part
  have hB3:∃ l w,M3.heap b=some (.row l false TS 0)∧l.length=32∧l[2 * i]?=some (N .u64 ((qs.getD i (0,[])).1:Int))∧l[2 * i + 1]?=some w∧Sl aS M3 w (qs.getD i (0,[])).2∧a ∉ aF w:=by
   by_cases e:a=b
   ·subst e
    have e2:=hab rfl
    obtain ⟨l,h1,h2,h3⟩:=hA3.row
    have hil:i<(oW f g ps qs i).length:=by rw [hA3.len]; exact hlt
    obtain ⟨w,b1,b2,b3,b4,b5⟩:=h3 i hil
    have hD:=GX (f:=f) (g:=g) (ps:=ps) (qs:=qs) (Nat.le_refl i)
    rw [List.getD_eq_getElem?_getD,List.getElem?_eq_getElem hil,Option.getD_some] at hD
    rw [hD,e2] at b1
    rw [hD,e2] at b3
    exact ⟨l,w,h1,h2,b1,b2,b3,fun hm=>hA3.nb (b5 a hm)⟩
   ·obtain ⟨l,h1,h2,h3⟩:=hB.row
    have hil:i<qs.length:=by rw [hB.len]; exact hlt
    obtain ⟨w,b1,b2,b3,b4,b5⟩:=h3 i hil
    have hD:qs.getD i (0,[])=qs[i]:=by rw [List.getD_eq_getElem?_getD,List.getElem?_eq_getElem hil]; rfl
    rw [hD]
    exact ⟨l,w,k3.aO h1 hbl (by simp; exact fun h=>e h.symm),h2,b1,b2,aM.keep b3 k3 (fun d hd hm=>by simp at hm; subst hm; exact hSa (b5 d hd)),fun hm=>hSa (b5 a hm)⟩
  obtain ⟨lb,qw,hb3,hlb32,q1,q2,q3,q4⟩:=hB3
  obtain ⟨la,ha3,hla32,hrow⟩:=hA3.row
  have hil:i<(oW f g ps qs i).length:=by rw [hA3.len]; exact hlt
  obtain ⟨pw,p1,p2,p3,p4,p5⟩:=hrow i hil
  have hD:=GX (f:=f) (g:=g) (ps:=ps) (qs:=qs) (Nat.le_refl i)
  rw [List.getD_eq_getElem?_getD,List.getElem?_eq_getElem hil,Option.getD_some] at hD
  rw [hD] at p1 p3
  have bp:=ul hbp ⟨by decide,by decide⟩ i
  have bq:=ul hbq ⟨by decide,by decide⟩ i
  obtain ⟨hPi,hP2i⟩:=hP i hlt
  obtain ⟨hr1,hr2⟩:=hres i hlt
  have hnext' : ∀ M',ah [a] M M'→fZ TS (fun e=>S e∨M.next≤e) M' a ((oW f g ps qs i).set i (lK f g (ps.getD i (0,[])) (qs.getD i (0,[]))))→next [N .i64 ((i + 1:Nat) : Int)] M':=fun M' k h=>hnext _ _ _ (by omega) ⟨i + 1,rfl,rfl,by omega,k,h⟩
  generalize ps.getD i (0,[])=p at *
  generalize qs.getD i (0,[])=q at *
  obtain ⟨pu,px⟩:=p
  obtain ⟨qu,qx⟩:=q
  simp only [lK] at *
  rw [aK,aW,gW]
  refine ⟨by omega,by omega, ?_⟩
  rw [aK,aW,gW]
  refine ⟨by omega,by omega, ?_⟩
  rw [Int.toNat_natCast,Nat.zero_add,Nat.mul_comm i 2,eQ]
  have hcut:M3.loads b (2 * i) 2=some [N .u64 (qu:Int),qw]:=by
   rw [RM.dh hb3 (by omega)]
   obtain ⟨r1,r2⟩:=List.getElem?_eq_some_iff.1 q1
   obtain ⟨r3,r4⟩:=List.getElem?_eq_some_iff.1 q2
   rw [List.drop_eq_getElem_cons r1,List.drop_eq_getElem_cons r3,r2,r4]; rfl
  refine ⟨_,hcut, ?_⟩
  have hq1:=aM.one q3
  rw [iV,gI (n:=2) (x:=.agg [N .u64 (qu:Int),qw]) (l:=[N .u64 0,.sc (.slice none 0 0)]) (RM.aR _) rfl rfl (by simp [AV.cells,hq1]; rfl)]
  have k4:ah [] M3 ((M3.push (.row [N .u64 0,.sc (.slice none 0 0)] false TP 0)).put M3.next (.row (AV.agg [N .u64 (qu:Int),qw]).cells false TP 0)):=((ah.refl _ _).push _).new _ (Nat.le_refl _)
  have h4:((M3.push (.row [N .u64 0,.sc (.slice none 0 0)] false TP 0)).put M3.next (.row (AV.agg [N .u64 (qu:Int),qw]).cells false TP 0)).heap M3.next=some (.row [N .u64 (qu:Int),qw] false TP 0):=aZ _
  have n4:((M3.push (.row [N .u64 0,.sc (.slice none 0 0)] false TP 0)).put M3.next (.row (AV.agg [N .u64 (qu:Int),qw]).cells false TP 0)).next=M3.next + 1:=rfl
  generalize (M3.push (.row [N .u64 0,.sc (.slice none 0 0)] false TP 0)).put M3.next (.row (AV.agg [N .u64 (qu:Int),qw]).cells false TP 0)=M4 at *
  have hal3:=hA3.lt
  have ha4:=k4.aO ha3 hal3 (by simp)
  rw [aK,aG,Nat.add_zero,ak ha4 p1,aW,ak h4 rfl,Vs,if_pos rfl,NH,aK,aG,Nat.add_zero,fq ha4 (by omega) rfl rfl]
  have k5:ah [a] M4 (M4.put a (.row (la.set (2 * i) (N .u64 ((max pu qu:Nat) : Int))) false TS 0)):=(ah.refl _ _).put _ (.inr (by simp))
  have ha5:(M4.put a (.row (la.set (2 * i) (N .u64 ((max pu qu:Nat) : Int))) false TS 0)).heap a=some (.row (la.set (2 * i) (N .u64 ((max pu qu:Nat) : Int))) false TS 0):=aZ _
  have n5:(M4.put a (.row (la.set (2 * i) (N .u64 ((max pu qu:Nat) : Int))) false TS 0)).next=M4.next:=rfl
  generalize M4.put a (.row (la.set (2 * i) (N .u64 ((max pu qu:Nat) : Int))) false TS 0)=M5 at *
  have h5:=k5.aO h4 (by omega) (by simp; omega)
  have p2' : (la.set (2 * i) (N .u64 ((max pu qu:Nat) : Int)))[2 * i + 1]?=some pw:=by rw [List.getElem?_set_ne (by omega)]; exact p2
  rw [aK,aG,ak ha5 p2',aW,ak h5 rfl]
  have hapw:a ∉ aF pw:=fun hm=>hA3.nb (p5 a hm)
  have k35:ah [a] M3 M5:=(k4.mono (by simp)).trans k5
  have sp5:Sl aS M5 pw px:=aM.keep p3 k35 (fun d hd hm=>by simp at hm; subst hm; exact hapw hd)
  have sq5:Sl aS M5 qw qx:=aM.keep q3 k35 (fun d hd hm=>by simp at hm; subst hm; exact q4 hd)
  have hw1:=aM.one sp5
  have hwc:=aM.cells sp5
  have hqc:=aM.cells sq5
  refine ⟨[pw,qw],by simp [vN,bM,hwc,hqc,hw1,hq1], ?_⟩
  dsimp only
  rw [iV]
  have k6:ah [] M5 (M5.push (.row [pw,qw] false TL 0)):=(ah.refl _ _).push _
  have h6:(M5.push (.row [pw,qw] false TL 0)).heap M5.next=some (.row [pw,qw] false TL 0):=RM.aR _
  have n6:(M5.push (.row [pw,qw] false TL 0)).next=M5.next + 1:=rfl
  generalize M5.push (.row [pw,qw] false TL 0)=M6 at *
  refine hc h6 (by omega) (aM.keep sp5 k6 (by simp)) (aM.keep sq5 k6 (by simp)) (by have:=bp.2; omega) (by have:=bq.2; omega) fun r M7 ho7 k7=>?_
  have n7:=k7.next
  have k57:=k6.trans k7
  have ha7:=k57.aO ha5 (by omega) (by simp)
  rw [aK,aG,fq ha7 (by simp; omega) ho7.cells ho7.one]
  have k8:ah [a] M7 (M7.put a (.row ((la.set (2 * i) (N .u64 ((max pu qu:Nat) : Int))).set (2 * i + 1) r) false TS 0)):=(ah.refl _ _).put _ (.inr (by simp))
  have ha8:(M7.put a (.row ((la.set (2 * i) (N .u64 ((max pu qu:Nat) : Int))).set (2 * i + 1) r) false TS 0)).heap a=some (.row ((la.set (2 * i) (N .u64 ((max pu qu:Nat) : Int))).set (2 * i + 1) r) false TS 0):=aZ _
  have n8:(M7.put a (.row ((la.set (2 * i) (N .u64 ((max pu qu:Nat) : Int))).set (2 * i + 1) r) false TS 0)).next=M7.next:=rfl
  generalize M7.put a (.row ((la.set (2 * i) (N .u64 ((max pu qu:Nat) : Int))).set (2 * i + 1) r) false TS 0)=M8 at *
  have har:a ∉ aF r:=fun hm=>by have:=(ho7.blk a hm).1; omega
  have ho8:=ho7.keep k8 (fun d hd hm=>by simp at hm; subst hm; exact har hd)
  have g1:((la.set (2 * i) (N .u64 ((max pu qu:Nat) : Int))).set (2 * i + 1) r)[2 * i + 1]?=some r:=by rw [List.getElem?_set_self (by simp; omega)]
  have g0:((la.set (2 * i) (N .u64 ((max pu qu:Nat) : Int))).set (2 * i + 1) r)[2 * i]?=some (N .u64 ((max pu qu:Nat) : Int)):=by rw [List.getElem?_set_ne (by omega),List.getElem?_set_self (by omega)]
  rw [aK,aG,ak ha8 g1]
  refine hs ho8 hPi fun M9 ho9 k9=>?_
  have ha9:=k9.aO ha8 (by omega) har
  have n9:=k9.next
  rw [aK,aG,ak ha9 g1]
  refine hk ho9 hP2i fun r' M10 s10 c10 b10 k10=>?_
  have n10:=k10.next
  have ha10:=k10.aO ha9 (by omega) har
  have har' : a ∉ aF r':=fun hm=>har (b10 a hm)
  rw [aK,aG,Es ((la.set (2 * i) (N .u64 ((max pu qu:Nat) : Int))).set (2 * i + 1) r') ha10 (by simp; omega) (aM.cells s10) (aM.one s10) (by rw [List.set_set])]
  have k11:ah [a] M10 (M10.put a (.row ((la.set (2 * i) (N .u64 ((max pu qu:Nat) : Int))).set (2 * i + 1) r') false TS 0)):=(ah.refl _ _).put _ (.inr (by simp))
  have ha11:(M10.put a (.row ((la.set (2 * i) (N .u64 ((max pu qu:Nat) : Int))).set (2 * i + 1) r') false TS 0)).heap a=some (.row ((la.set (2 * i) (N .u64 ((max pu qu:Nat) : Int))).set (2 * i + 1) r') false TS 0):=aZ _
  have n11:(M10.put a (.row ((la.set (2 * i) (N .u64 ((max pu qu:Nat) : Int))).set (2 * i + 1) r') false TS 0)).next=M10.next:=rfl
  generalize M10.put a (.row ((la.set (2 * i) (N .u64 ((max pu qu:Nat) : Int))).set (2 * i + 1) r') false TS 0)=M11 at *
  have s11:Sl aS M11 r' (g (f (px++qx))):=aM.keep s10 k11 (fun d hd hm=>by simp at hm; subst hm; exact har' hd)
  have g0' : ((la.set (2 * i) (N .u64 ((max pu qu:Nat) : Int))).set (2 * i + 1) r')[2 * i]?=some (N .u64 ((max pu qu:Nat) : Int)):=by rw [List.getElem?_set_ne (by omega),List.getElem?_set_self (by omega)]
  have g1' : ((la.set (2 * i) (N .u64 ((max pu qu:Nat) : Int))).set (2 * i + 1) r')[2 * i + 1]?=some r':=by rw [List.getElem?_set_self (by simp; omega)]
  refine ht ha11 g0' g1' s11 har' c10 hr1 (by have:=bp.1; have:=bq.1; omega) hr2 fun v' M12 ha12 s12 c12 b12 k12 n12=>?_
  rw [bH,dQ (by omega)]
  have kr:∀ d∈aF r,M.next≤d∧M3.next≤d:=fun d hd=>by have:=(ho7.blk d hd).1; omega
  -- all that was changed: the set's block,and new ones
  have kAll:ah [a] M3 M12:=by
   have w7:ah [a] M3 M7:=k35.trans (k57.mono (by simp))
   have w8:=w7.trans k8
   have w9:=w8.bi k9 fun d hd=>.inl (kr d hd).2
   have w10:=w9.bi k10 fun d hd=>.inl (kr d hd).2
   exact (w10.trans k11).trans k12
  refine hnext' M12 (k3.trans kAll) (hA3.put ha3 hlt ?_ kAll (fun d hd=>.inl (by simpa using hd)) s12 c12 (fun d hd=>.inr (kr d (b10 d (b12 d hd))).1) (fun d h=>h) (fun h=>by rcases h with h | h; exact hA.nb h; omega))
  rw [ha12]
  rw [List.set_comm (i:=2 * i + 1) (j:=2 * i) _ _ (by omega),List.set_set,List.set_set]
  rfl
 ·have he:i=16:=by
   have:¬ (i:Int)<16:=of_decide_eq_false hge
   omega
  subst he
  exact hQ M3 hA3 k3
theorem yo {f g:List Nat→List Nat} {ps qs:List Pt} : ∀ i,(oW f g ps qs i).length=ps.length
 | 0=>rfl
 | i + 1=>by rw [oW,List.length_set,yo i]
theorem NF {f g:List Nat→List Nat} {ps qs:List Pt} (hl:ps.length=16) : ∀ {i j:Nat},i≤16→j<i→(oW f g ps qs i).getD j (0,[])=lK f g (ps.getD j (0,[])) (qs.getD j (0,[]))
 | i + 1,j,hi,h=>by
   rw [oW]
   by_cases e:i=j
   ·subst e
    rw [Co (by rw [yo]; omega)]
   ·rw [getD_set_ne e,NF hl (by omega) (by omega)]
end Go.Ab.aC
set_option maxRecDepth 10000
set_option linter.unusedVariables false
set_option linter.unusedSimpArgs false
namespace Go.Ab.aC
open Go Go.Ab
theorem gV {p:Pt} {x:Nat} : il p x=true↔(1≤x∧x≤p.1)∨x∈p.2:=by
 unfold il
 simp only [Bool.or_eq_true,Bool.and_eq_true,decide_eq_true_eq]
theorem vH:∀ (xs:List Nat) (u x:Nat),(∀ y∈xs,1≤y)→(il (settle u xs) x=true↔(1≤x∧x≤u)∨x∈xs)
 | [],u,x,_=>by rw [gV]; simp [settle,dV]
 | y :: xs,u,x,h=>by
   by_cases hy:y≤u + 1
   ·have e:settle u (y :: xs)=settle (max u y) xs:=by
     unfold settle
     rw [dV,if_pos hy]; rfl
    have h1:=h y (by simp)
    rw [e,vH xs (max u y) x (fun z hz=>h z (by simp [hz])),List.mem_cons]
    constructor
    ·rintro (⟨a,b⟩ | c)
     ·by_cases hx:x≤u
      ·exact .inl ⟨a,hx⟩
      ·exact .inr (.inl (by omega))
     ·exact .inr (.inr c)
    ·rintro (⟨a,b⟩ | c | c)
     ·exact .inl ⟨a,by omega⟩
     ·exact .inl ⟨by omega,by omega⟩
     ·exact .inr c
   ·have e:settle u (y :: xs)=(u,y :: xs):=by
     unfold settle
     rw [dV,if_neg hy]; rfl
    rw [e,gV]
theorem N8 {k n:Nat} {xs:List Nat} {x:Nat} : x∈fV k n xs↔x=n∨x∈xs:=by
 refine ⟨BG,fun h=>?_⟩
 unfold fV
 rcases h with h | h
 ·simp [h]
 ·rw [← List.take_append_drop k xs,List.mem_append] at h
  rw [List.mem_append,List.mem_cons]
  rcases h with h | h
  ·exact .inl h
  ·exact .inr (.inr h)
theorem Xm {p:Pt} {n x:Nat} (hp:iZ p) (hn:1≤n) (hok:(fU p n).1=true) : il (fU p n).2 x=true↔il p x=true∨x=n:=by
 unfold fU at hok ⊢
 by_cases h:n∈p.2∨n≤p.1
 ·rw [if_pos h]
  constructor
  ·exact .inl
  ·rintro (h1 | rfl)
   ·exact h1
   ·rw [gV]
    rcases h with h | h
    ·exact .inr h
    ·exact .inl ⟨hn,h⟩
 ·rw [if_neg h] at hok ⊢
  by_cases h2:(settle p.1 (fV (below n p.2) n p.2)).2.length≤4096
  ·rw [if_pos h2]
   simp only
   rw [vH _ _ _ (fun y hy=>by rcases N8.1 hy with rfl | hy; exact hn; have:=hp.2.1 y hy; omega),N8,gV]
   constructor
   ·rintro (a | b | c)
    ·exact .inl (.inl a)
    ·exact .inr b
    ·exact .inl (.inr c)
   ·rintro ((a | b) | c)
    ·exact .inl a
    ·exact .inr (.inr b)
    ·exact .inr (.inl c)
  ·rw [if_neg h2] at hok; cases hok
theorem FQ {p q:Pt} (hp:iZ p) (hq:iZ q) : ll p q=true↔∀ x,il p x=true→il q x=true:=by
 constructor
 ·intro h x hx
  unfold ll at h
  simp only [Bool.and_eq_true,List.all_eq_true,decide_eq_true_eq] at h
  rw [gV] at hx
  rcases hx with hx | hx
  ·rw [gV]; exact .inl ⟨hx.1,by omega⟩
  ·exact h.2 x hx
 ·intro h
  unfold ll
  simp only [Bool.and_eq_true,List.all_eq_true,decide_eq_true_eq]
  refine ⟨?_,fun x hx=>h x (gV.2 (.inr hx))⟩
  rcases Nat.lt_or_ge q.1 p.1 with hlt | hle
  ·have:=gV.1 (h (q.1 + 1) (gV.2 (.inl ⟨by omega,by omega⟩)))
   rcases this with h1 | h1
   ·omega
   ·have:=hq.2.1 _ h1; omega
  ·exact hle
theorem Wj {p:Pt} {n:Nat} : (fU p n).2.2.length≤p.2.length + 1:=by
 unfold fU
 split
 ·exact Nat.le_succ _
 ·split
  ·have h1:=vK p.1 (fV (below n p.2) n p.2)
   have h2:=AB (x:=n) (below_le n p.2)
   simp only; omega
  ·exact Nat.le_succ _
theorem Ry {p:Pt} {n:Nat} (h:p.2.length<4096) : (fU p n).1=true:=by
 unfold fU
 split
 ·rfl
 ·have h1:=vK p.1 (fV (below n p.2) n p.2)
  have h2:=AB (x:=n) (below_le n p.2)
  rw [if_pos (by omega)]
theorem Lb {ps:List Pt} {d:aC} (hl:∀ p∈ps,p.2.length<4096) (hg:good d=true) : lg ps d=(0,ps.set d.1.toNat (fU (ps.getD d.1.toNat (0,[])) d.2).2):=by
 unfold lg
 rw [if_pos hg,Ry (ul (R:=fun p=>p.2.length<4096) hl (by decide) _),if_pos rfl]
theorem V3 {ps:List Pt} {d:aC} {k:Nat} (hl:∀ p∈ps,p.2.length≤k) : ∀ p∈(lg ps d).2,p.2.length≤k + 1:=by
 unfold lg
 split
 ·split
  ·intro p hp
   rcases List.mem_or_eq_of_mem_set hp with hp | rfl
   ·have:=hl p hp; omega
   ·have h1:=Wj (p:=ps.getD d.1.toNat (0,[])) (n:=d.2)
    have h2:=ul (R:=fun p=>p.2.length≤k) hl (Nat.zero_le _) d.1.toNat
    omega
  ·intro p hp; have:=hl p hp; omega
 ·intro p hp; have:=hl p hp; omega
section
variable {ps:List Pt} {d:aC}
theorem ND (hg:good d=true) : 1≤d.2∧d.2≤1099511627776∧d.1.toNat<16:=by
 simp only [good,Bool.and_eq_true,decide_eq_true_eq] at hg
 omega
theorem Xd (h16:ps.length=16) (hw:∀ p∈ps,iZ p) (hl:∀ p∈ps,p.2.length<4096) (hg:good d=true) (j x:Nat) :
  il ((lg ps d).2.getD j (0,[])) x=true↔il (ps.getD j (0,[])) x=true∨(j=d.1.toNat∧x=d.2):=by
 obtain ⟨h1,h2,h3⟩:=ND hg
 rw [Lb hl hg]
 simp only
 by_cases e:d.1.toNat=j
 ·subst e
  rw [Co (by omega),Xm (nK hw _) h1 (Ry (ul (R:=fun p=>p.2.length<4096) hl (by decide) _))]
  simp
 ·rw [getD_set_ne e]
  simp [Ne.symm e]
theorem Qr {qs:List Pt} {e:aC} (hw:∀ p∈ps,iZ p) (hw2:∀ p∈qs,iZ p) (h:iL ps qs=true) (he:dB ps e=true) : dB qs e=true:=by
 unfold dB at he ⊢
 simp only [Bool.and_eq_true] at he ⊢
 exact ⟨he.1,(FQ (nK hw _) (nK hw2 _)).1 (qb.1 h _ (ND he.1).2.2) _ he.2⟩
end
end Go.Ab.aC
set_option maxRecDepth 10000
set_option linter.unusedVariables false
set_option linter.unusedSimpArgs false
namespace Go.Ab.aC
open Go Go.Ab
end Go.Ab.aC
