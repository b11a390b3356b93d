/- Part 5 of the ground of the proofs of this seat (texts Q3 to L4). By an AI agent. -/
import Derived.Test.YtngfappichkflaaGreatLis4
import Derived.KernelRfl
set_option maxRecDepth 10000
set_option linter.unusedVariables false
set_option linter.unusedSimpArgs false
namespace Go.Ab.aD
open Go Go.Ab
def SM (M:RM) (s T k:Nat) : RM:=M.put s (.row [N .i64 (k:Int)] false T 0)
theorem SM.put {M:RM} {s T k k' : Nat} : (SM M s T k).put s (.row [N .i64 (k' : Int)] false T 0)=SM M s T k':=by
 unfold SM RM.put
 congr 1
 funext c
 simp only
 by_cases h:c=s <;> simp[h]
theorem SM.new {M:RM} {T:Nat} : M.push (.row [N .i64 0] false T 0)=SM (M.push (.row [N .i64 0] false T 0)) M.next T 0:=by
 unfold SM RM.put RM.push
 congr 1
 funext c
 simp only
 by_cases h:c=M.next <;> simp[h]
def OW (T TI:Nat) (c:aj) : Prop:=∀ {M:RM} {b s k i j:Nat} {d:Array Nat} {Q:ak},s≠b→i<d.size→j<d.size→k≤1000 →
 Q (.tup [N .i64 (((Sort.order2 lN d i j k).1:Nat) : Int),N .i64 (((Sort.order2 lN d i j k).2.1:Nat) : Int)]) (PM (SM M s TI (Sort.order2 lN d i j k).2.2) b T d)→c [vv b d.size,N .i64 (i:Int),N .i64 (j:Int),.ptr s 0] (PM (SM M s TI k) b T d) Q
theorem SG {T TI:Nat} {cl:aj} (hl:xZ cl) : OW T TI fun args M Q=>∃ a0 a1 a2 a3,args=[a0,a1,a2,a3]∧nV cl a0 a1 a2 a3 M Q:=by
 intro M b s k i j d Q hsb hi hj hk hQ
 refine⟨_,_,_,_,rfl, ?_⟩
 unfold nV
 rw[PM.rd rfl (by omega),PM.rd rfl (by omega)]
 refine hl ?_
 unfold Sort.order2 at hQ
 refine aG (fun h=>?_) (fun h=>?_)
 ·rw[if_pos (by exact h)] at hQ
  have hh:(PM (SM M s TI k) b T d).heap s=some (.row [N .i64 (k:Int)] false TI 0):=by
   rw[PM.MN hsb]; exact RM.xm _ _
  rw[aM,az hh rfl,add1 (by omega),aM,fG hh (by simp) rfl rfl]
  rw[PM.Zv hsb]
  rw[show([N .i64 (k:Int)] : List AV).set 0 (N .i64 ((k + 1:Nat) : Int))=[N .i64 ((k + 1:Nat) : Int)] from rfl,SM.put]
  exact hQ
 ·rw[if_neg (by rw[show lN d[j]! d[i]! = false from h]; decide)] at hQ
  exact hQ
theorem yQ (d:Array Nat) (i j k:Nat) : (((Sort.order2 lN d i j k).1=i∧(Sort.order2 lN d i j k).2.1=j)∨((Sort.order2 lN d i j k).1=j∧(Sort.order2 lN d i j k).2.1=i))∧k≤(Sort.order2 lN d i j k).2.2∧(Sort.order2 lN d i j k).2.2≤k + 1:=by
 unfold Sort.order2
 split <;> simp
def Jd (T TI:Nat) (c:aj) : Prop:=∀ {M:RM} {b s k i j h:Nat} {d:Array Nat} {Q:ak},s≠b→i<d.size→j<d.size→h<d.size→k≤900 →
 Q (N .i64 (((Sort.median lN d i j h k).1:Nat) : Int)) (PM (SM M s TI (Sort.median lN d i j h k).2) b T d)→c [vv b d.size,N .i64 (i:Int),N .i64 (j:Int),N .i64 (h:Int),.ptr s 0] (PM (SM M s TI k) b T d) Q
theorem Xq {T TI:Nat} {c2:aj} (h2:OW T TI c2) : Jd T TI fun args M Q=>∃ a0 a1 a2 a3 a4,args=[a0,a1,a2,a3,a4]∧nS c2 a0 a1 a2 a3 a4 M Q:=by
 intro M b s k i j h d Q hsb hi hj hh hk hQ
 refine⟨_,_,_,_,_,rfl, ?_⟩
 unfold nS
 unfold Sort.median at hQ
 have o1:=yQ d i j k
 refine h2 hsb hi hj (by omega) ?_
 rw[lM,lH]
 dsimp only at hQ
 generalize Sort.order2 lN d i j k=r1 at *
 have o2:=yQ d r1.2.1 h r1.2.2
 refine h2 hsb (by omega) hh (by omega) ?_
 rw[lM,lH]
 generalize Sort.order2 lN d r1.2.1 h r1.2.2=r2 at *
 refine h2 hsb (by omega) (by omega) (by omega) ?_
 rw[lM,lH]
 exact hQ
theorem GM (d:Array Nat) {i j h k n:Nat} (hi:i<n) (hj:j<n) (hh:h<n) : (Sort.median lN d i j h k).1<n∧(Sort.median lN d i j h k).2≤k + 3:=by
 unfold Sort.median
 dsimp only
 have o1:=yQ d i j k
 generalize Sort.order2 lN d i j k=r1 at *
 have o2:=yQ d r1.2.1 h r1.2.2
 generalize Sort.order2 lN d r1.2.1 h r1.2.2=r2 at *
 have o3:=yQ d r1.1 r2.1 r2.2.2
 omega
def O8 (T TI:Nat) (c:aj) : Prop:=∀ {M:RM} {b s k i:Nat} {d:Array Nat} {Q:ak},s≠b→d.size≤1000000→1≤i→i + 1<d.size→k≤900 →
 Q (N .i64 (((Sort.medianAdjacent lN d i k).1:Nat) : Int)) (PM (SM M s TI (Sort.medianAdjacent lN d i k).2) b T d)→c [vv b d.size,N .i64 (i:Int),.ptr s 0] (PM (SM M s TI k) b T d) Q
theorem Vm {T TI:Nat} {cm:aj} (hm:Jd T TI cm) : O8 T TI fun args M Q=>∃ a0 a1 a2,args=[a0,a1,a2]∧jm cm a0 a1 a2 M Q:=by
 intro M b s k i d Q hsb hsz h1 h2 hk hQ
 refine⟨_,_,_,rfl, ?_⟩
 unfold jm
 rw[bu (by omega) (by omega),add1 (by omega)]
 exact hm hsb (by omega) (by omega) (by omega) hk hQ
def mr:Sort.Hint→Int
 | .unknown=>0
 | .increasing=>1
 | .decreasing=>2
def PV (T:Nat) (c:aj) : Prop:=∀ {M:RM} {b a e:Nat} {d:Array Nat} {Q:ak},b<M.next→d.size≤1000000→a<e→e≤d.size →
 (∀ M',ag [] M M'→Q (.tup [N .i64 (((Sort.choosePivot lN d a e).1:Nat) : Int),N .i64 (mr (Sort.choosePivot lN d a e).2)]) (PM M' b T d))→c [vv b d.size,N .i64 (a:Int),N .i64 (e:Int)] (PM M b T d) Q
theorem Xp {T TI:Nat} {ca cm:aj} (ha:O8 T TI ca) (hm:Jd T TI cm) : PV T fun args M Q=>∃ a0 a1 a2,args=[a0,a1,a2]∧kw TI ca cm a0 a1 a2 M Q:=by
 intro M b a e d Q hb hsz hae he hQ
 refine⟨_,_,_,rfl, ?_⟩
 unfold kw
 simp only[bR]
 rw[dM (by omega) (by omega),bB,PM.push hb]
 have hnx:(PM M b T d).next=M.next:=rfl
 rw[hnx]
 have kk:ag [] M (M.push (.row [N .i64 0] false TI 0)):=(ag.refl _ _).push _
 have kS:∀ k,ag [] M (SM (M.push (.row [N .i64 0] false TI 0)) M.next TI k):=fun k=>kk.new _ (Nat.le_refl _)
 rw[show PM (M.push (.row [N .i64 0] false TI 0)) b T d=PM (SM (M.push (.row [N .i64 0] false TI 0)) M.next TI 0) b T d by rw[← SM.new]]
 generalize M.push (.row [N .i64 0] false TI 0)=M1 at *
 have hsb:M.next≠b:=by omega
 generalize M.next=s at *
 have hq:∀ (k:Nat) (c:Int),c=(k:Int)→k≤3→∀ (K:AV→Prop),(ae .quo (N .i64 ((e - a:Nat) : Int)) (N .i64 4) fun t18=>ae .mul t18 (N .i64 c) fun t19=>ae .add (N .i64 (a:Int)) t19 K)=K (N .i64 ((a + (e - a) / 4 * k:Nat) : Int)):=fun k c hc hk K=>by
  subst hc
  have hb:(e - a) / 4 * k≤(e - a) * 3:=Nat.mul_le_mul (Nat.div_le_self _ _) hk
  rw[lc,show(4:Int)=((4:Nat) : Int) from rfl,oU,aW (by omega) (by omega),uO,← Int.natCast_mul,aW (by omega) (by omega),addN (by omega)]
  exact propext ⟨fun h=>h.2,fun h=>⟨by decide,h⟩⟩
 rw[hq 1 1 rfl (by omega),hq 2 2 rfl (by omega),hq 3 3 rfl (by omega)]
 have hcp:Sort.choosePivot lN d a e=((if e - a ≥ 8 then(if e - a ≥ 50 then Sort.median lN d (Sort.medianAdjacent lN d (a + (e - a) / 4 * 1) 0).1 (Sort.medianAdjacent lN d (a + (e - a) / 4 * 2) (Sort.medianAdjacent lN d (a + (e - a) / 4 * 1) 0).2).1 (Sort.medianAdjacent lN d (a + (e - a) / 4 * 3) (Sort.medianAdjacent lN d (a + (e - a) / 4 * 2) (Sort.medianAdjacent lN d (a + (e - a) / 4 * 1) 0).2).2).1 (Sort.medianAdjacent lN d (a + (e - a) / 4 * 3) (Sort.medianAdjacent lN d (a + (e - a) / 4 * 2) (Sort.medianAdjacent lN d (a + (e - a) / 4 * 1) 0).2).2).2
   else Sort.median lN d (a + (e - a) / 4 * 1) (a + (e - a) / 4 * 2) (a + (e - a) / 4 * 3) 0) else(a + (e - a) / 4 * 2,0) : Nat × Nat).1,
   if (if e - a ≥ 8 then(if e - a ≥ 50 then Sort.median lN d (Sort.medianAdjacent lN d (a + (e - a) / 4 * 1) 0).1 (Sort.medianAdjacent lN d (a + (e - a) / 4 * 2) (Sort.medianAdjacent lN d (a + (e - a) / 4 * 1) 0).2).1 (Sort.medianAdjacent lN d (a + (e - a) / 4 * 3) (Sort.medianAdjacent lN d (a + (e - a) / 4 * 2) (Sort.medianAdjacent lN d (a + (e - a) / 4 * 1) 0).2).2).1 (Sort.medianAdjacent lN d (a + (e - a) / 4 * 3) (Sort.medianAdjacent lN d (a + (e - a) / 4 * 2) (Sort.medianAdjacent lN d (a + (e - a) / 4 * 1) 0).2).2).2
   else Sort.median lN d (a + (e - a) / 4 * 1) (a + (e - a) / 4 * 2) (a + (e - a) / 4 * 3) 0) else(a + (e - a) / 4 * 2,0) : Nat × Nat).2=0 then .increasing else if (if e - a ≥ 8 then(if e - a ≥ 50 then Sort.median lN d (Sort.medianAdjacent lN d (a + (e - a) / 4 * 1) 0).1 (Sort.medianAdjacent lN d (a + (e - a) / 4 * 2) (Sort.medianAdjacent lN d (a + (e - a) / 4 * 1) 0).2).1 (Sort.medianAdjacent lN d (a + (e - a) / 4 * 3) (Sort.medianAdjacent lN d (a + (e - a) / 4 * 2) (Sort.medianAdjacent lN d (a + (e - a) / 4 * 1) 0).2).2).1 (Sort.medianAdjacent lN d (a + (e - a) / 4 * 3) (Sort.medianAdjacent lN d (a + (e - a) / 4 * 2) (Sort.medianAdjacent lN d (a + (e - a) / 4 * 1) 0).2).2).2
   else Sort.median lN d (a + (e - a) / 4 * 1) (a + (e - a) / 4 * 2) (a + (e - a) / 4 * 3) 0) else(a + (e - a) / 4 * 2,0) : Nat × Nat).2=12 then .decreasing else .unknown):=rfl
 rw[hcp] at hQ
 generalize hr:(if e - a ≥ 8 then(if e - a ≥ 50 then Sort.median lN d (Sort.medianAdjacent lN d (a + (e - a) / 4 * 1) 0).1 (Sort.medianAdjacent lN d (a + (e - a) / 4 * 2) (Sort.medianAdjacent lN d (a + (e - a) / 4 * 1) 0).2).1 (Sort.medianAdjacent lN d (a + (e - a) / 4 * 3) (Sort.medianAdjacent lN d (a + (e - a) / 4 * 2) (Sort.medianAdjacent lN d (a + (e - a) / 4 * 1) 0).2).2).1 (Sort.medianAdjacent lN d (a + (e - a) / 4 * 3) (Sort.medianAdjacent lN d (a + (e - a) / 4 * 2) (Sort.medianAdjacent lN d (a + (e - a) / 4 * 1) 0).2).2).2
   else Sort.median lN d (a + (e - a) / 4 * 1) (a + (e - a) / 4 * 2) (a + (e - a) / 4 * 3) 0) else(a + (e - a) / 4 * 2,0) : Nat × Nat)=r at hQ
 refine aY (fun zs M'=>zs=[N .i64 ((r.1:Nat) : Int)]∧M'=PM (SM M1 s TI r.2) b T d) ?_ ?_
 ·rintro zs M' ⟨rfl,rfl⟩
  dsimp only[aa]
  have hh:(PM (SM M1 s TI r.2) b T d).heap s=some (.row [N .i64 (r.2:Int)] false TI 0):=by
   rw[PM.MN hsb]; exact RM.xm _ _
  have:=hQ _ (kS r.2)
  rw[az hh rfl,bU]
  by_cases h0:r.2=0
  ·rw[show((r.2:Int) == 0)=true by rw[h0]; rfl,dD]
   rw[if_pos h0] at this
   exact this
  ·rw[show((r.2:Int) == 0)=false by rw[beq_eq_false_iff_ne]; omega,bD,bU]
   rw[if_neg h0] at this
   by_cases h12:r.2=12
   ·rw[show((r.2:Int) == 12)=true by rw[h12]; rfl,dD]
    rw[if_pos h12] at this
    exact this
   ·rw[show((r.2:Int) == 12)=false by rw[beq_eq_false_iff_ne]; omega,bD]
    rw[if_neg h12] at this
    exact this
 intro J hJ
 rw[show(8:Int)=((8:Nat) : Int) from rfl,ja]
 refine aG (fun h8=>?_) (fun h8=>?_)
 ·have h8:e - a ≥ 8:=of_decide_eq_true h8
  rw[if_pos h8] at hr
  refine aY (fun zs M'=>∃ x y z k:Nat,zs=[N .i64 (x:Int),N .i64 (y:Int),N .i64 (z:Int)]∧M'=PM (SM M1 s TI k) b T d∧x<d.size∧y<d.size∧z<d.size∧k≤900∧Sort.median lN d x y z k=r) ?_ ?_
  ·rintro zs M' ⟨x,y,z,k,rfl,rfl,hx,hy,hz,hk,he⟩
   dsimp only[aa]
   refine hm hsb hx hy hz hk ?_
   rw[he]
   exact hJ _ _ ⟨rfl,rfl⟩
  intro J0 hJ0
  rw[show(50:Int)=((50:Nat) : Int) from rfl,ja]
  refine aG (fun h50=>?_) (fun h50=>?_)
  ·have h50:e - a ≥ 50:=of_decide_eq_true h50
   rw[if_pos h50] at hr
   have m1:=GM d (i:=a + (e - a) / 4 * 1 - 1) (j:=a + (e - a) / 4 * 1) (h:=a + (e - a) / 4 * 1 + 1) (k:=0) (n:=d.size) (by omega) (by omega) (by omega)
   have r1:(Sort.medianAdjacent lN d (a + (e - a) / 4 * 1) 0).1<d.size∧(Sort.medianAdjacent lN d (a + (e - a) / 4 * 1) 0).2≤0 + 3:=m1
   refine ha hsb hsz (by omega) (by omega) (by omega) ?_
   generalize Sort.medianAdjacent lN d (a + (e - a) / 4 * 1) 0=q1 at *
   have m2:=GM d (i:=a + (e - a) / 4 * 2 - 1) (j:=a + (e - a) / 4 * 2) (h:=a + (e - a) / 4 * 2 + 1) (k:=q1.2) (n:=d.size) (by omega) (by omega) (by omega)
   have r2:(Sort.medianAdjacent lN d (a + (e - a) / 4 * 2) q1.2).1<d.size∧(Sort.medianAdjacent lN d (a + (e - a) / 4 * 2) q1.2).2≤q1.2 + 3:=m2
   refine ha hsb hsz (by omega) (by omega) (by omega) ?_
   generalize Sort.medianAdjacent lN d (a + (e - a) / 4 * 2) q1.2=q2 at *
   have m3:=GM d (i:=a + (e - a) / 4 * 3 - 1) (j:=a + (e - a) / 4 * 3) (h:=a + (e - a) / 4 * 3 + 1) (k:=q2.2) (n:=d.size) (by omega) (by omega) (by omega)
   have r3:(Sort.medianAdjacent lN d (a + (e - a) / 4 * 3) q2.2).1<d.size∧(Sort.medianAdjacent lN d (a + (e - a) / 4 * 3) q2.2).2≤q2.2 + 3:=m3
   refine ha hsb hsz (by omega) (by omega) (by omega) ?_
   generalize Sort.medianAdjacent lN d (a + (e - a) / 4 * 3) q2.2=q3 at *
   exact hJ0 _ _ ⟨q1.1,q2.1,q3.1,q3.2,rfl,rfl,r1.1,r2.1,r3.1,by omega,hr⟩
  ·have h50:¬ e - a ≥ 50:=of_decide_eq_false h50
   rw[if_neg h50] at hr
   exact hJ0 _ _ ⟨_,_,_,0,rfl,rfl,by omega,by omega,by omega,by omega,hr⟩
 ·have h8:¬ e - a ≥ 8:=of_decide_eq_false h8
  rw[if_neg h8] at hr
  subst hr
  exact hJ _ _ ⟨rfl,rfl⟩
theorem A8:∀ (j:Nat) (d:Array Nat),(Sort.shiftDown lN j d).size=d.size
 | 0,d=>rfl
 | j + 1,d=>by
   rw[Sort.shiftDown]
   split
   ·rfl
   ·rw[A8 j,eO]
theorem Fp (e:Nat) : ∀ (k j:Nat) (d:Array Nat),e - j≤k→(Sort.shiftUp lN e j d).size=d.size
 | 0,j,d,h=>by rw[Sort.shiftUp,if_neg (by omega)]
 | k + 1,j,d,h=>by
   rw[Sort.shiftUp]
   split
   ·split
    ·rfl
    ·rw[Fp e k _ _ (by omega),eO]
   ·rfl
def Lc (T:Nat) (c:aj) : Prop:=∀ {M:RM} {b a e:Nat} {d:Array Nat} {Q:ak},b<M.next→d.size≤1000000→a<e→e≤d.size→Q (Bo (Sort.partialInsertionSort lN d a e).2) (PM M b T (Sort.partialInsertionSort lN d a e).1) →
 c [vv b d.size,N .i64 (a:Int),N .i64 (e:Int)] (PM M b T d) Q
theorem Gq (a b s i:Nat) (d:Array Nat) : Sort.partialIns lN a b (s + 1) i d =
  if Sort.scanSorted lN d b i=b then(d,true) else if b - a<50 then(d,false) else
   Sort.partialIns lN a b s (Sort.scanSorted lN d b i) (if b - Sort.scanSorted lN d b i ≥ 2 then Sort.shiftUp lN b (Sort.scanSorted lN d b i + 1) (if Sort.scanSorted lN d b i - a ≥ 2 then Sort.shiftDown lN (Sort.scanSorted lN d b i - 1) (Sort.swp d (Sort.scanSorted lN d b i) (Sort.scanSorted lN d b i - 1)) else Sort.swp d (Sort.scanSorted lN d b i) (Sort.scanSorted lN d b i - 1))
    else(if Sort.scanSorted lN d b i - a ≥ 2 then Sort.shiftDown lN (Sort.scanSorted lN d b i - 1) (Sort.swp d (Sort.scanSorted lN d b i) (Sort.scanSorted lN d b i - 1)) else Sort.swp d (Sort.scanSorted lN d b i) (Sort.scanSorted lN d b i - 1))):=rfl
theorem RV {T:Nat} {cl:aj} (hl:xZ cl) : Lc T fun args M Q=>∃ a0 a1 a2,args=[a0,a1,a2]∧gQ cl a0 a1 a2 M Q:=by
 intro M b a e d Q hb hsz hae he hQ
 refine⟨_,_,_,rfl, ?_⟩
 unfold gQ
 simp only[fB,dY,eP,bR]
 rw[add1 (by omega)]
 unfold Sort.partialInsertionSort at hQ
 obtain⟨R,hR⟩ : ∃ R,R=Sort.partialIns lN a e 5 (a + 1) d:=⟨_,rfl⟩
 rw[← hR] at hQ
 refine aI (fun m ys M3=>∃ (i s:Nat) (d3:Array Nat),m=s∧s≤5∧ys=[N .i64 (i:Int),N .i64 ((5 - s:Nat) : Int)]∧a + 1≤i∧i≤e∧M3=PM M b T d3∧d3.size=d.size∧R=Sort.partialIns lN a e s i d3) _ ⟨a + 1,5,d,rfl,by omega,rfl,by omega,by omega,rfl,rfl,hR⟩ ?_
 rintro next m ys M3 hnext ⟨i,s,d3,hms,hs5,rfl,hai,hie,rfl,hs3,hm⟩
 dsimp only[aa]
 rw[show(5:Int)=((5:Nat) : Int) from rfl,ed]
 refine aG (fun hg=>?_) (fun hg=>?_)
 ·have hg:5 - s<5:=of_decide_eq_true hg
  obtain⟨s',rfl⟩ : ∃ s',s=s' + 1:=⟨s - 1,by omega⟩
  rw[Gq] at hm
  refine aY (fun zs M'=>∃ (i' : Nat) (d4:Array Nat),zs=[N .i64 (i' : Int)]∧a + 1≤i'∧i'≤e∧M'=PM M b T d4∧d4.size=d.size∧R=Sort.partialIns lN a e s' i' d4) ?_ ?_
  ·rintro zs M' ⟨i',d4,rfl,h1,h2,rfl,h3,h4⟩
   dsimp only[aa]
   rw[add1 (by omega)]
   exact hnext _ _ _ (by omega) ⟨i',s',d4,rfl,by omega,by congr 4; omega,h1,h2,rfl,h3,h4⟩
  intro J hJ
  obtain⟨R5,hR5⟩ : ∃ R5,R5=Sort.scanSorted lN d3 e i:=⟨_,rfl⟩
  rw[← hR5] at hm
  refine aI (fun m ys M5=>∃ (j:Nat),m=e - j∧ys=[N .i64 (j:Int)]∧i≤j∧j≤e∧M5=PM M b T d3∧R5=Sort.scanSorted lN d3 e j) _ ⟨i,rfl,rfl,Nat.le_refl _,hie,rfl,hR5⟩ ?_
  rintro gT m ys M5 dH ⟨j,rfl,rfl,hij,hje,rfl,hm5⟩
  dsimp only[aa]
  rw[Sort.scanSorted] at hm5
  rw[ed]
  refine Ty (p:=!lN d3[j]! d3[j - 1]!) (fun hc k hk=>?_) ?_
  ·have hc:j<e:=of_decide_eq_true hc
   rw[PM.rd hs3.symm (by omega),bu (by omega) (by omega),PM.rd hs3.symm (by omega)]
   refine hl ?_
   rw[bH]
   exact hk
  refine aG (fun h=>?_) (fun h=>?_)
  ·have hc:j<e:=by
    rw[Bool.and_eq_true] at h
    exact of_decide_eq_true h.1
   rw[if_pos h] at hm5
   rw[add1 (by omega)]
   exact dH _ _ _ (by omega) ⟨j + 1,rfl,rfl,by omega,by omega,rfl,hm5⟩
  rw[if_neg (by rw[h]; decide)] at hm5
  subst hm5
  rw[Qv]
  refine aG (fun qZ=>?_) (fun qZ=>?_)
  ·rw[if_pos (of_decide_eq_true qZ)] at hm
   rw[hm] at hQ
   exact hQ
  have qZ:¬ R5=e:=of_decide_eq_false qZ
  rw[if_neg qZ] at hm
  rw[dM (by omega) (by omega),show(50:Int)=((50:Nat) : Int) from rfl,ed]
  refine aG (fun h50=>?_) (fun h50=>?_)
  ·rw[if_pos (of_decide_eq_true h50)] at hm
   rw[hm] at hQ
   exact hQ
  rw[if_neg (of_decide_eq_false h50)] at hm
  rw[bu (by omega) (by omega),bu (by omega) (by omega),PM.rd hs3.symm (by omega),PM.rd hs3.symm (by omega),PM.swap hs3.symm (by omega) (by omega)]
  have hs6:=zU (i:=R5) (j:=R5 - 1) hs3
  generalize Sort.swp d3 R5 (R5 - 1)=d6 at *
  refine aY (fun zs M'=>zs=[]∧M'=PM M b T (if R5 - a ≥ 2 then Sort.shiftDown lN (R5 - 1) d6 else d6)) ?_ ?_
  ·rintro zs M' ⟨rfl,rfl⟩
   have hs7:(if R5 - a ≥ 2 then Sort.shiftDown lN (R5 - 1) d6 else d6).size=d.size:=by
    split
    ·rw[A8,hs6]
    ·exact hs6
   generalize (if R5 - a ≥ 2 then Sort.shiftDown lN (R5 - 1) d6 else d6)=d7 at *
   rw[dM (by omega) (by omega),show(2:Int)=((2:Nat) : Int) from rfl,ja]
   refine aG (fun h2=>?_) (fun h2=>?_)
   ·rw[if_pos (of_decide_eq_true h2)] at hm
    rw[add1 (by omega)]
    have hs8:=Fp e e (R5 + 1) d7 (by omega)
    obtain⟨R8,hR8⟩ : ∃ R8,R8=Sort.shiftUp lN e (R5 + 1) d7:=⟨_,rfl⟩
    rw[← hR8] at hm hs8
    refine aI (fun m ys M8=>∃ (j:Nat) (d8:Array Nat),m=e - j∧ys=[N .i64 (j:Int)]∧R5 + 1≤j∧j≤e∧M8=PM M b T d8∧d8.size=d.size∧R8=Sort.shiftUp lN e j d8) _ ⟨R5 + 1,d7,rfl,rfl,Nat.le_refl _,by omega,rfl,hs7,hR8⟩ ?_
    rintro qp m ys M8 rG ⟨j,d8,rfl,rfl,hj1,hj2,rfl,dZ,hm8⟩
    dsimp only[aa]
    rw[Sort.shiftUp] at hm8
    rw[ed]
    refine aG (fun hl1=>?_) (fun hl1=>?_)
    ·have hl1:j<e:=of_decide_eq_true hl1
     rw[if_pos hl1] at hm8
     rw[PM.rd dZ.symm (by omega),bu (by omega) (by omega),PM.rd dZ.symm (by omega)]
     refine hl ?_
     rw[bH]
     refine aG (fun hn=>?_) (fun hn=>?_)
     ·rw[if_pos hn] at hm8
      subst hm8
      exact hJ _ _ ⟨R5,R8,rfl,by omega,by omega,rfl,dZ,hm⟩
     ·rw[if_neg (by rw[show(!lN d8[j]! d8[j - 1]!)=false from hn]; decide)] at hm8
      rw[bu (by omega) (by omega),bu (by omega) (by omega),PM.rd dZ.symm (by omega),PM.rd dZ.symm (by omega),PM.swap dZ.symm (by omega) (by omega),add1 (by omega)]
      exact rG _ _ _ (by omega) ⟨j + 1,_,rfl,rfl,by omega,by omega,rfl,zU dZ,hm8⟩
    ·rw[if_neg (of_decide_eq_false hl1)] at hm8
     subst hm8
     exact hJ _ _ ⟨R5,R8,rfl,by omega,by omega,rfl,dZ,hm⟩
   ·rw[if_neg (of_decide_eq_false h2)] at hm
    exact hJ _ _ ⟨R5,d7,rfl,by omega,by omega,rfl,hs7,hm⟩
  intro J2 hJ2
  rw[dM (by omega) (by omega),show(2:Int)=((2:Nat) : Int) from rfl,ja]
  refine aG (fun h2=>?_) (fun h2=>?_)
  ·rw[if_pos (of_decide_eq_true h2)] at hJ2
   rw[bu (by omega) (by omega)]
   obtain⟨R8,hR8⟩ : ∃ R8,R8=Sort.shiftDown lN (R5 - 1) d6:=⟨_,rfl⟩
   rw[← hR8] at hJ2
   refine aI (fun m ys M8=>∃ (j:Nat) (d8:Array Nat),m=j + 1∧ys=[N .i64 (j:Int)]∧j<R5∧M8=PM M b T d8∧d8.size=d.size∧R8=Sort.shiftDown lN j d8) _ ⟨R5 - 1,d6,rfl,rfl,by omega,rfl,hs6,hR8⟩ ?_
   rintro qp m ys M8 rG ⟨j,d8,rfl,rfl,hj1,rfl,dZ,hm8⟩
   dsimp only[aa]
   rw[show(1:Int)=((1:Nat) : Int) from rfl,ja]
   refine aG (fun hl1=>?_) (fun hl1=>?_)
   ·have hl1:j ≥ 1:=of_decide_eq_true hl1
    obtain⟨j',rfl⟩ : ∃ j',j=j' + 1:=⟨j - 1,by omega⟩
    rw[Sort.shiftDown] at hm8
    rw[PM.rd dZ.symm (by omega),dM (by omega) (by omega),Nat.add_sub_cancel,PM.rd dZ.symm (by omega)]
    refine hl ?_
    rw[bH]
    refine aG (fun hn=>?_) (fun hn=>?_)
    ·rw[if_pos hn] at hm8
     subst hm8
     exact hJ2 _ _ ⟨rfl,rfl⟩
    ·rw[if_neg (by rw[show(!lN d8[j' + 1]! d8[j']!)=false from hn]; decide)] at hm8
     rw[dM (by omega) (by omega),dM (by omega) (by omega),Nat.add_sub_cancel,PM.rd dZ.symm (by omega),PM.rd dZ.symm (by omega),PM.swap dZ.symm (by omega) (by omega),dM (by omega) (by omega),Nat.add_sub_cancel]
     exact rG _ _ _ (by omega) ⟨j',_,rfl,rfl,by omega,rfl,zU dZ,hm8⟩
   ·have hl1:¬ j ≥ 1:=of_decide_eq_false hl1
    have h0:j=0:=by omega
    subst h0
    rw[Sort.shiftDown] at hm8
    subst hm8
    exact hJ2 _ _ ⟨rfl,rfl⟩
  ·rw[if_neg (of_decide_eq_false h2)] at hJ2
   exact hJ2 _ _ ⟨rfl,rfl⟩
 ·have hg:¬ 5 - s<5:=of_decide_eq_false hg
  have h0:s=0:=by omega
  subst h0
  rw[Sort.partialIns] at hm
  rw[hm] at hQ
  exact hQ
def aaJ (P:List Nat→Prop) (f:List Nat→List Nat) (T:Nat) (c:aj) : Prop:=∀ {M:RM} {base:Nat} {v:AV} {xs:List Nat} {Q:ak},Ow aX M base T v xs→P xs→(∀ M',Ow aX M' base T v (f xs)→ag (aH v) M M'→Q (.tup []) M')→c [v] M Q
def KN (P:List Nat→Prop) (f:List Nat→List Nat) (T:Nat) (c:aj) : Prop:=∀ {M:RM} {base:Nat} {v:AV} {xs:List Nat} {Q:ak},Ow aX M base T v xs→P xs→(∀ v' M',Sl aX M' v' (f xs)→mh v'→(∀ d∈aH v',d∈aH v)→ag (aH v) M M'→Q v' M')→c [v] M Q
def ZX (T:Nat) (c:aj) : Prop:=∀ {M:RM} {n:Nat} {Q:ak},n≤10000000→(n=0→Q bZ M) →
 (0<n→∀ b M',M.next≤b→b<M'.next→M'.heap b=some (.row (bM [N .u64 0] n) true T 0)→ag [] M M'→Q (.slc b 0 0 (.op 1)) M')→c [bZ,N .i64 (n:Int)] M Q
theorem acQ {TS T:Nat} : ZX T fun args M Q=>∃ a0 a1,args=[a0,a1]∧zi TS T a0 a1 M Q:=by
 intro M n Q hn h0 h1
 refine⟨_,_,rfl, ?_⟩
 unfold zi
 rw[xJ,dB,show decide ((n:Int)<0)=false by simp,bD]
 dsimp only
 rw[xJ]
 have hcap:∀ K:AV→Prop,Dk bZ K=K (N .i64 0):=fun K=>by
  unfold Dk
  exact propext ⟨fun⟨m,h,k⟩=>by cases h; exact k,fun k=>⟨0,rfl,k⟩⟩
 rw[hcap,Ld,ig,show IntKind.wrap .i64 ((0:Int) - 0)=0 from by rw[aW] <;> decide,ig,Int.sub_zero,aW (by omega) (by omega),jS]
 dsimp only[aa]
 by_cases hz:n=0
 ·rw[show decide ((n:Int) > 0)=false by simp; omega,bD]
  exact h0 hz
 ·rw[show decide ((n:Int) > 0)=true by simp; omega,dD,hcap,show cO 1 bZ none (some (N .i64 0)) none=some bZ by simp[cO,bnd],eH]
  have hr:=qO n
  refine z8 (base:=M.next) (m:=n) (ds:=bM [N .u64 0] n) .nil (Nat.le_refl _) (Nat.le_refl _) (by simp[oW]) (by rw[hr.1,Nat.mul_one]) hr.2 (by omega) (by omega) ?_
  intro v' M' o k _ _
  rw[Nat.zero_add] at o
  obtain⟨b,rfl,q1,q2,q3,q4⟩:=Own.yJ o (by omega)
  rw[Ld,show cO 1 (.slc b 0 n (.op 1)) none (some (N .i64 0)) none=some (.slc b 0 0 (.op 1)) by simp[cO,bnd]; omega,eH]
  exact h1 (by omega) b M' q1 q2 (by simpa using q3) (by simpa [aH] using k)
theorem FX (p:Nat→Bool) (d:Array Nat) (J:Nat) : ∀ (n i:Nat),J + 1 - i≤n→i≤Sort.scanUp p d J i∧Sort.scanUp p d J i≤max (J + 1) i
 | 0,i,h=>by
   rw[Sort.scanUp,if_neg (by simp; omega)]; omega
 | n + 1,i,h=>by
   rw[Sort.scanUp]
   split
   ·rename_i hc
    rw[Bool.and_eq_true] at hc
    have:=of_decide_eq_true hc.1
    have:=FX p d J n (i + 1) (by omega)
    omega
   ·omega
theorem Ae (p:Nat→Bool) (d:Array Nat) (i:Nat) : ∀ j,Sort.scanDown p d i j≤j
 | 0=>Nat.le_refl _
 | j + 1=>by
   rw[Sort.scanDown]
   split
   ·have:=Ae p d i j; omega
   ·omega
theorem DC (a:Nat) : ∀ (n i j:Nat) (d:Array Nat),j + 1 - i≤n→i≤(Sort.partEqLoop lN a i j d).1∧(Sort.partEqLoop lN a i j d).1≤max (j + 1) i∧(Sort.partEqLoop lN a i j d).2.size=d.size
 | n,i,j,d,h=>by
   have h1:=FX (fun x=>!lN d[a]! x) d j _ i (Nat.le_refl _)
   have h2:=Ae (fun x=>lN d[a]! x) d (Sort.scanUp (fun x=>!lN d[a]! x) d j i) j
   rw[Sort.partEqLoop]
   generalize Sort.scanUp (fun x=>!lN d[a]! x) d j i=i2 at *
   generalize Sort.scanDown (fun x=>lN d[a]! x) d i2 j=j2 at *
   split
   ·exact⟨h1.1,h1.2,rfl⟩
   ·split
    ·cases n with
     | zero=>omega
     | succ n =>
       have h3:=DC a n (i2 + 1) (j2 - 1) (Sort.swp d i2 j2) (by omega)
       rw[eO] at h3
       omega
    ·exact⟨h1.1,h1.2,rfl⟩
theorem JY (a:Nat) : ∀ (n i j:Nat) (d:Array Nat),j + 1 - i≤n→(Sort.partLoop lN a i j d).1≤j∧(Sort.partLoop lN a i j d).2.size=d.size
 | n,i,j,d,h=>by
   have h1:=FX (fun x=>lN x d[a]!) d j _ i (Nat.le_refl _)
   have h2:=Ae (fun x=>!lN x d[a]!) d (Sort.scanUp (fun x=>lN x d[a]!) d j i) j
   rw[Sort.partLoop]
   generalize Sort.scanUp (fun x=>lN x d[a]!) d j i=i2 at *
   generalize Sort.scanDown (fun x=>!lN x d[a]!) d i2 j=j2 at *
   split
   ·exact⟨h2,rfl⟩
   ·split
    ·cases n with
     | zero=>omega
     | succ n =>
       have h3:=JY a n (i2 + 1) (j2 - 1) (Sort.swp d i2 j2) (by omega)
       rw[eO] at h3
       exact⟨by omega,h3.2⟩
    ·exact⟨h2,rfl⟩
theorem Ew (a e:Nat) : ∀ (s i:Nat) (d:Array Nat),(Sort.partialIns lN a e s i d).1.size=d.size
 | 0,i,d=>rfl
 | s + 1,i,d=>by
   rw[Gq]
   split
   ·rfl
   ·split
    ·rfl
    ·rw[Ew a e s]
     have h1:∀ x,(if x - a ≥ 2 then Sort.shiftDown lN (x - 1) (Sort.swp d x (x - 1)) else Sort.swp d x (x - 1)).size=d.size:=fun x=>by
      split
      ·rw[A8,eO]
      ·rw[eO]
     split
     ·rw[Fp e e _ _ (by omega),h1]
     ·rw[h1]
theorem aeC {x:Nat} (h:256≤x) : Sort.bitsLen x=Sort.bitsLen (x / 256) + 8:=by
 have h0:x / 256≠0:=by omega
 unfold Sort.bitsLen
 rw[if_neg (by omega),if_neg h0]
 have h1:=(Nat.log2_eq_iff h0 (k:=(x / 256).log2)).1 rfl
 have h2:x.log2=(x / 256).log2 + 8:=by
  rw[Nat.log2_eq_iff (by omega)]
  rw[show(x / 256).log2 + 8 + 1=((x / 256).log2 + 1) + 8 by omega,Nat.pow_add,Nat.pow_add _ ((x / 256).log2 + 1)]
  generalize 2 ^ (x / 256).log2=u at *
  generalize 2 ^ ((x / 256).log2 + 1)=v at *
  omega
 omega
theorem acs {tab:List UInt8} {x:Nat} (h:(List.range 256).all (fun i=>tab[i]? == some (UInt8.ofNat (Sort.bitsLen i)))=true) (hx:x<256) : tab[x]?=some (UInt8.ofNat (Sort.bitsLen x)):=by
 have:=List.all_eq_true.1 h x (List.mem_range.2 hx)
 exact eq_of_beq this
theorem ahs {x:Nat} (h:x<256) : Sort.bitsLen x≤8:=by
 unfold Sort.bitsLen
 split
 ·omega
 ·rename_i h0
  have:=(Nat.log2_lt h0 (k:=8)).2 (by omega)
  omega
def EE (c:aj) : Prop:=∀ {M:RM} {x:Nat} {Q:ak},x<65536→Q (N .i64 (Sort.bitsLen x:Nat)) M→c [N .u64 (x:Int)] M Q
theorem Yu:EE fun args M Q=>∃ a0,args=[a0]∧sO a0 M Q:=by
 intro M x Q hx hQ
 refine⟨_,rfl, ?_⟩
 unfold sO
 rw[xJ,iK,show decide ((x:Int) ≥ 4294967296)=false by simp; omega,bD]
 dsimp only[aa]
 rw[xJ,iK,show decide ((x:Int) ≥ 65536)=false by simp; omega,bD]
 dsimp only[aa]
 rw[xJ,iK]
 have fin:∀ (y z:Nat),y<256→z≤8→Sort.bitsLen x=z + Sort.bitsLen y→oO .u8 (N .u64 (y:Int)) fun t21=>Xj (St [0,1,2,2,3,3,3,3,4,4,4,4,4,4,4,4,5,5,5,5,5,5,5,5,5,5,5,5,5,5,5,5,6,6,6,6,6,6,6,6,6,6,6,6,6,6,6,6,6,6,6,6,6,6,6,6,6,6,6,6,6,6,6,6,7,7,7,7,7,7,7,7,7,7,7,7,7,7,7,7,7,7,7,7,7,7,7,7,7,7,7,7,7,7,7,7,7,7,7,7,7,7,7,7,7,7,7,7,7,7,7,7,7,7,7,7,7,7,7,7,7,7,7,7,7,7,7,7,8,8,8,8,8,8,8,8,8,8,8,8,8,8,8,8,8,8,8,8,8,8,8,8,8,8,8,8,8,8,8,8,8,8,8,8,8,8,8,8,8,8,8,8,8,8,8,8,8,8,8,8,8,8,8,8,8,8,8,8,8,8,8,8,8,8,8,8,8,8,8,8,8,8,8,8,8,8,8,8,8,8,8,8,8,8,8,8,8,8,8,8,8,8,8,8,8,8,8,8,8,8,8,8,8,8,8,8,8,8,8,8,8,8,8,8,8,8,8,8,8,8,8,8,8,8,8,8]) t21 fun t22 =>
   oO .i64 t22 fun t23=>ae .add (N .i64 (z:Int)) t23 fun t24=>Q t24 M:=fun y z hy hz e=>by
  rw[nJ,abg (by omega) (by omega),ahC]
  refine⟨by omega, ?_⟩
  rw[Int.toNat_natCast]
  refine⟨_,acs (by kernel_rfl) hy, ?_⟩
  have hb:=ahs hy
  have hu:(UInt8.ofNat (Sort.bitsLen y)).toNat=Sort.bitsLen y:=by rw[UInt8.toNat_ofNat']; omega
  rw[hu,nJ,aW (by omega) (by omega),addN (by omega),← e]
  exact hQ
 by_cases h:x ≥ 256
 ·rw[show decide ((x:Int) ≥ 256)=true by simp; omega,dD]
  dsimp only[aa]
  rw[Jq]
  refine⟨by decide, ?_⟩
  rw[show(8:Int)=((8:Nat) : Int) from rfl,KH _ _ _ (by decide),cZ,Int.zero_add,aW (by omega) (by omega)]
  exact fin (x / 256) 8 (by omega) (by omega) (by rw[aeC h]; omega)
 ·rw[show decide ((x:Int) ≥ 256)=false by simp; omega,bD]
  dsimp only[aa]
  exact fin x 0 (by omega) (by omega) (by omega)
theorem ada {c3 c6:aj} (h6:EE c6) : EE fun args M Q=>∃ a0,args=[a0]∧wo c3 c6 a0 M Q:=by
 intro M x Q hx hQ
 refine⟨_,rfl, ?_⟩
 unfold wo
 rw[bD]
 exact h6 hx hQ
def XM (M:RM) (s T:Nat) (r:UInt64) : RM:=M.put s (.row [N .u64 (r.toNat:Int)] false T 0)
theorem XM.put {M:RM} {s T:Nat} {r r' : UInt64} : (XM M s T r).put s (.row [N .u64 (r'.toNat:Int)] false T 0)=XM M s T r':=by
 unfold XM RM.put
 congr 1
 funext c
 simp only
 by_cases h:c=s <;> simp[h]
theorem XM.new {M:RM} {T:Nat} {x:RB} {r:UInt64} : (M.push x).put M.next (.row [N .u64 (r.toNat:Int)] false T 0)=XM (M.push x) M.next T r:=rfl
theorem I6 {r k:UInt64} {n:Nat} (hk:k.toNat=n) (h:n<64) : ZT .u64 (r.toNat:Int) (n:Int)=((r <<< k).toNat:Int):=by
 rw[UY rfl _ _ (by show n≤64; omega),UInt64.toNat_shiftLeft,hk,Nat.mod_eq_of_lt h,Nat.shiftLeft_eq]; rfl
theorem YM {r k:UInt64} {n:Nat} (hk:k.toNat=n) (h:n<64) : Vs .u64 (r.toNat:Int) (n:Int)=((r >>> k).toNat:Int):=by
 rw[KH _ _ _ (by show n≤64; omega),UInt64.toNat_shiftRight,hk,Nat.mod_eq_of_lt h,Nat.shiftRight_eq_div_pow]
theorem u64_xor (a b:UInt64) : abj .u64 (a.toNat:Int) (b.toNat:Int)=((a ^^^ b).toNat:Int):=by
 rw[ads rfl,← UInt64.toNat_xor]
 have:=(a ^^^ b).toNat_lt
 rw[Nat.mod_eq_of_lt (by show _<2 ^ 64; omega)]
def ad8 (T TX:Nat) (c:aj) : Prop:=∀ {M:RM} {b s:Nat} {r:UInt64} {d:Array Nat} {Q:ak},s≠b→Q (N .u64 ((Sort.xorNext r).toNat:Int)) (PM (XM M s TX (Sort.xorNext r)) b T d)→c [.ptr s 0] (PM (XM M s TX r) b T d) Q
theorem afi {T TX:Nat} : ad8 T TX fun args M Q=>∃ a0,args=[a0]∧nC a0 M Q:=by
 intro M b s r d Q hsb hQ
 refine⟨_,rfl, ?_⟩
 unfold nC
 have hh:∀ r,(PM (XM M s TX r) b T d).heap s=some (.row [N .u64 (r.toNat:Int)] false TX 0):=fun r=>by rw[PM.MN hsb]; exact RM.xm _ _
 have st:∀ (r r' : UInt64) (K:RM→Prop),aC (PM (XM M s TX r) b T d) (.ptr s 0) (N .u64 (r'.toNat:Int)) 1 K=K (PM (XM M s TX r') b T d):=fun r r' K=>by
  rw[fG (hh r) (by simp) rfl rfl,PM.Zv hsb]
  rw[show([N .u64 (r.toNat:Int)] : List AV).set 0 (N .u64 (r'.toNat:Int))=[N .u64 (r'.toNat:Int)] from rfl,XM.put]
 rw[aM,az (hh r) rfl,aM,az (hh r) rfl,Dr]
 refine⟨by decide, ?_⟩
 rw[show(13:Int)=((13:Nat) : Int) from rfl,I6 (k:=13) (n:=13) rfl (by decide),xG,u64_xor,aM,st]
 rw[aM,az (hh _) rfl,aM,az (hh _) rfl,Jq]
 refine⟨by decide, ?_⟩
 rw[show(7:Int)=((7:Nat) : Int) from rfl,YM (k:=7) (n:=7) rfl (by decide),xG,u64_xor,aM,st]
 rw[aM,az (hh _) rfl,aM,az (hh _) rfl,Dr]
 refine⟨by decide, ?_⟩
 rw[show(17:Int)=((17:Nat) : Int) from rfl,I6 (k:=17) (n:=17) rfl (by decide),xG,u64_xor,aM,st]
 rw[aM,az (hh _) rfl]
 exact hQ
def Un (c:aj) : Prop:=∀ {M:RM} {x:Nat} {Q:ak},0<x→x<65536→Q (N .u64 ((2 ^ Sort.bitsLen x:Nat) : Int)) M→c [N .i64 (x:Int)] M Q
theorem xg {x:Nat} (h0:0<x) (h:x<65536) : Sort.bitsLen x≤16∧2 ^ Sort.bitsLen x≤2 * x∧x<2 ^ Sort.bitsLen x:=by
 unfold Sort.bitsLen
 rw[if_neg (by omega)]
 have h1:=(Nat.log2_eq_iff (show x≠0 by omega) (k:=x.log2)).1 rfl
 have h2:=(Nat.log2_lt (show x≠0 by omega) (k:=16)).2 (by omega)
 rw[Nat.pow_succ] at *
 omega
theorem afv {cl:aj} (hl:EE cl) : Un fun args M Q=>∃ a0,args=[a0]∧uB cl a0 M Q:=by
 intro M x Q h0 hx hQ
 refine⟨_,rfl, ?_⟩
 unfold uB
 have hb:=xg h0 hx
 rw[nJ,je (by omega) (by omega)]
 refine hl hx ?_
 rw[Dr]
 refine⟨by omega, ?_⟩
 rw[show(1:Int)=((1:Nat) : Int) from rfl,UY rfl _ _ (by show Sort.bitsLen x≤64; omega),Nat.one_mul]
 have:2 ^ Sort.bitsLen x<2 ^ 64:=Nat.pow_lt_pow_right (by decide) (by omega)
 rw[Nat.mod_eq_of_lt (by exact this)]
 exact hQ
def Gh (a l m i0:Nat) (d:Array Nat) : Nat→UInt64 × Array Nat
 | 0=>(UInt64.ofNat l,d)
 | k + 1=>Sort.breakStep a l m (Gh a l m i0 d k) (i0 + k)
theorem ade (a l m i0:Nat) (d:Array Nat) : ∀ k,(Gh a l m i0 d k).2.size=d.size
 | 0=>rfl
 | k + 1=>by
   rw[Gh,Sort.breakStep]
   show(Sort.swp _ _ _).size=_
   rw[eO,ade a l m i0 d k]
def Vv (T:Nat) (c:aj) : Prop:=∀ {M:RM} {b a e:Nat} {d:Array Nat} {Q:ak},b<M.next→d.size≤60000→a≤e→e≤d.size→(∀ M',ag [] M M'→Q (.tup []) (PM M' b T (Sort.breakPatterns d a e))) →
 c [vv b d.size,N .i64 (a:Int),N .i64 (e:Int)] (PM M b T d) Q
theorem aac {T TX:Nat} {cp cx:aj} (hp:Un cp) (hx:ad8 T TX cx) : Vv T fun args M Q=>∃ a0 a1 a2,args=[a0,a1,a2]∧jv TX cp cx a0 a1 a2 M Q:=by
 intro M b a e d Q hb hsz hae he hQ
 refine⟨_,_,_,rfl, ?_⟩
 unfold jv
 simp only[bR]
 rw[dM hae (by omega),show(8:Int)=((8:Nat) : Int) from rfl,ja]
 unfold Sort.breakPatterns at hQ
 refine aG (fun h8=>?_) (fun h8=>?_)
 ·have h8:e - a ≥ 8:=of_decide_eq_true h8
  rw[if_pos h8] at hQ
  have hbl:=xg (x:=e - a) (by omega) (by omega)
  rw[nJ,je (by omega) (by omega),bB,PM.push hb]
  have hnx:(PM M b T d).next=M.next:=rfl
  rw[hnx]
  have hsb:M.next≠b:=by omega
  have kk:ag [] M (M.push (.row [(N .u64 0)] false TX 0)):=(ag.refl _ _).push _
  have kS:∀ r,ag [] M (XM (M.push (.row [(N .u64 0)] false TX 0)) M.next TX r):=fun r=>kk.new _ (Nat.le_refl _)
  have hh0:(PM (M.push (.row [(N .u64 0)] false TX 0)) b T d).heap M.next=some (.row [N .u64 0] false TX 0):=by rw[PM.MN hsb]; exact RM.aS _
  have Xg:(UInt64.ofNat (e - a)).toNat=e - a:=by rw[UInt64.toNat_ofNat']; omega
  rw[fG hh0 (by simp) rfl rfl,PM.Zv hsb]
  rw[show([N .u64 0] : List AV).set 0 (N .u64 ((e - a:Nat) : Int))=[N .u64 ((UInt64.ofNat (e - a)).toNat:Int)] by rw[Xg]; rfl,XM.new]
  generalize M.push (.row [(N .u64 0)] false TX 0)=M1 at *
  generalize M.next=s at *
  refine hp (by omega) (by omega) ?_
  have hq:∀ (c:Int),c=((2:Nat) : Int)→∀ (K:AV→Prop),(ae .quo (N .i64 ((e - a:Nat) : Int)) (N .i64 4) fun t18=>ae .mul t18 (N .i64 c) fun t19=>ae .add (N .i64 (a:Int)) t19 K)=K (N .i64 ((a + (e - a) / 4 * 2:Nat) : Int)):=fun c hc K=>by
   subst hc
   rw[lc,show(4:Int)=((4:Nat) : Int) from rfl,oU,aW (by omega) (by omega),uO,← Int.natCast_mul,aW (by omega) (by omega),addN (by omega)]
   exact propext ⟨fun h=>h.2,fun h=>⟨by decide,h⟩⟩
  rw[hq 2 rfl,bu (by omega) (by omega)]
  have UR:(Sort.breakStep a (e - a) (1 <<< Sort.bitsLen (e - a)) (Sort.breakStep a (e - a) (1 <<< Sort.bitsLen (e - a)) (Sort.breakStep a (e - a) (1 <<< Sort.bitsLen (e - a)) (UInt64.ofNat (e - a),d) (a + (e - a) / 4 * 2 - 1)) (a + (e - a) / 4 * 2 - 1 + 1)) (a + (e - a) / 4 * 2 - 1 + 2)).2=(Gh a (e - a) (2 ^ Sort.bitsLen (e - a)) (a + (e - a) / 4 * 2 - 1) d 3).2:=by
   rw[Nat.shiftLeft_eq,Nat.one_mul]; rfl
  have hQ:∀ M',ag [] M M'→Q (.tup []) (PM M' b T (Gh a (e - a) (2 ^ Sort.bitsLen (e - a)) (a + (e - a) / 4 * 2 - 1) d 3).2):=fun M' k=>by
   have:=hQ M' k
   rw[← UR]; exact this
  generalize hmd:2 ^ Sort.bitsLen (e - a)=md at *
  generalize hi0:a + (e - a) / 4 * 2 - 1=i0 at *
  refine aI (fun m ys M3=>∃ (k:Nat),m=3 - k∧k≤3∧ys=[N .i64 ((i0 + k:Nat) : Int)]∧M3=PM (XM M1 s TX (Gh a (e - a) md i0 d k).1) b T (Gh a (e - a) md i0 d k).2) _ ⟨0,rfl,by omega,rfl,rfl⟩ ?_
  rintro next m ys M3 hnext ⟨k,rfl,hk,rfl,rfl⟩
  dsimp only[aa]
  have hsk:=ade a (e - a) md i0 d k
  have Xd:Gh a (e - a) md i0 d (k + 1)=Sort.breakStep a (e - a) md (Gh a (e - a) md i0 d k) (i0 + k):=rfl
  generalize WI:Gh a (e - a) md i0 d k=st at *
  rw[hq 2 rfl,add1 (by omega),jR]
  refine aG (fun hg=>?_) (fun hg=>?_)
  ·have hg:i0 + k≤a + (e - a) / 4 * 2 + 1:=of_decide_eq_true hg
   refine aY (fun zs M'=>M'=PM (XM M1 s TX (Gh a (e - a) md i0 d (k + 1)).1) b T (Gh a (e - a) md i0 d (k + 1)).2) ?_ ?_
   ·rintro zs M' rfl
    rw[add1 (by omega)]
    exact hnext _ _ _ (by omega) ⟨k + 1,rfl,by omega,rfl,rfl⟩
   intro J hJ
   refine hx hsb ?_
   rw[Xd] at hJ
   unfold Sort.breakStep at hJ
   dsimp only at hJ
   generalize Sort.xorNext st.1=r at *
   rw[ig,je (by omega) (by omega),show(md:Int) - 1=((md - 1:Nat) : Int) by omega,LW,Li rfl]
   have hlt:r.toNat &&& (md - 1)<md:=by
    rw[← hmd,Nat.and_two_pow_sub_one_eq_mod]
    exact Nat.mod_lt _ (by rw[hmd]; omega)
   rw[Nat.mod_eq_of_lt (show r.toNat &&& (md - 1)<2 ^ zx .u64 by show _<2 ^ 64; omega)]
   generalize r.toNat &&& (md - 1)=o at *
   rw[nJ,aW (by omega) (by omega)]
   refine aY (fun zs M'=>zs=[N .i64 (((if o ≥ e - a then o - (e - a) else o) : Nat) : Int)]∧M'=PM (XM M1 s TX r) b T st.2) ?_ ?_
   ·rintro zs M' ⟨rfl,rfl⟩
    dsimp only[aa]
    have ho:(if o ≥ e - a then o - (e - a) else o)<e - a:=by split <;> omega
    generalize (if o ≥ e - a then o - (e - a) else o)=o2 at *
    rw[addN (by omega),addN (by omega),PM.rd hsk.symm (by omega),PM.rd hsk.symm (by omega),PM.swap hsk.symm (by omega) (by omega)]
    exact hJ _ _ rfl
   intro J4 hJ4
   rw[ja]
   refine aG (fun hg2=>?_) (fun hg2=>?_)
   ·have hg2:o ≥ e - a:=of_decide_eq_true hg2
    rw[dM (by omega) (by omega)]
    exact hJ4 _ _ ⟨by rw[if_pos hg2],rfl⟩
   ·exact hJ4 _ _ ⟨by rw[if_neg (of_decide_eq_false hg2)],rfl⟩
  ·have hg:¬ i0 + k≤a + (e - a) / 4 * 2 + 1:=of_decide_eq_false hg
   have h3:k=3:=by omega
   subst h3
   rw[WI] at hQ
   exact hQ _ (kS _)
 ·rw[if_neg (of_decide_eq_false h8)] at hQ
  exact hQ M (ag.refl _ _)
theorem Vy:Sort.SWO lN where
 irrefl x:=by simp[lN]
 trans x y z:=by simp[lN]; omega
 ntrans x y z:=by simp[lN]; omega
def Vf (d3:Array Nat) (a e pv limit:Nat) (wb wp:Bool) : Array Nat :=
 if a > 0 && !lN d3[a - 1]! d3[pv]! then
  match Sort.partitionEqual lN d3 a e pv with
  | (mid,d4)=>if _h:a<mid∧mid≤e then Sort.pdq lN d4 mid e limit wb wp else d4
 else
  match Sort.partition lN d3 a e pv with
  | (mid,ap,d4) =>
    if _h:a≤mid∧mid<e then
     if mid - a<e - mid then Sort.pdq lN (Sort.pdq lN d4 a mid limit true true) (mid + 1) e limit (decide (mid - a ≥ (e - a) / 8)) ap
     else Sort.pdq lN (Sort.pdq lN d4 (mid + 1) e limit true true) a mid limit (decide (e - mid ≥ (e - a) / 8)) ap
    else d4
def adk (pi:Array Nat × Bool) (a e pv limit:Nat) (wb wp:Bool) : Array Nat:=if pi.2 then pi.1 else Vf pi.1 a e pv limit wb wp
def afy (d2:Array Nat) (a e pv:Nat) (hint:Sort.Hint) (limit:Nat) (wb wp:Bool) : Array Nat :=
 adk (if wb && wp && hint=.increasing then Sort.partialInsertionSort lN d2 a e else(d2,false)) a e pv limit wb wp
def adM (d1:Array Nat) (a e limit:Nat) (wb wp:Bool) : Array Nat :=
 afy (if (Sort.choosePivot lN d1 a e).2=.decreasing then Sort.reverseRange d1 a e else d1) a e (if (Sort.choosePivot lN d1 a e).2=.decreasing then(e - 1) - ((Sort.choosePivot lN d1 a e).1 - a) else(Sort.choosePivot lN d1 a e).1)
  (if (Sort.choosePivot lN d1 a e).2=.decreasing then .increasing else(Sort.choosePivot lN d1 a e).2) limit wb wp
theorem pdq_eq (d:Array Nat) (a e limit:Nat) (wb wp:Bool) : Sort.pdq lN d a e limit wb wp =
  if e - a≤12 then Sort.insertionSort lN d a e else if limit=0 then Sort.heapSort lN d a e else adM (if !wb then Sort.breakPatterns d a e else d) a e (if !wb then limit - 1 else limit) wb wp:=by
 rw[Sort.pdq]; rfl
theorem JX (a e:Nat) : ∀ (k i:Nat) (d:Array Nat),e - i≤k→(Sort.insOuter lN a e i d).size=d.size
 | 0,i,d,h=>by rw[Sort.insOuter,if_neg (by omega)]
 | k + 1,i,d,h=>by
   rw[Sort.insOuter]
   split
   ·rw[JX a e k _ _ (by omega),JK]
   ·rfl
theorem ajl (d:Array Nat) (a e:Nat) : (Sort.insertionSort lN d a e).size=d.size:=JX a e _ _ _ (Nat.le_refl _)
theorem acw (first:Nat) : ∀ (k:Nat) (d:Array Nat),(Sort.heapPop lN first k d).size=d.size
 | 0,d=>rfl
 | k + 1,d=>by rw[Sort.heapPop,acw first k,zY _ _ k _ _ (by omega),eO]
theorem adN (d:Array Nat) (a e:Nat) : (Sort.heapSort lN d a e).size=d.size:=by rw[Sort.heapSort,acw,VA]
theorem NB:∀ (k i j:Nat) (d:Array Nat),j - i≤k→(Sort.reverseLoop i j d).size=d.size
 | 0,i,j,d,h=>by rw[Sort.reverseLoop,if_neg (by omega)]
 | k + 1,i,j,d,h=>by
   rw[Sort.reverseLoop]
   split
   ·rw[NB k _ _ _ (by omega),eO]
   ·rfl
theorem adh (d:Array Nat) (a e:Nat) : (Sort.reverseRange d a e).size=d.size:=NB _ _ _ _ (Nat.le_refl _)
theorem AX (a l m:Nat) (st:UInt64 × Array Nat) (i:Nat) : (Sort.breakStep a l m st i).2.size=st.2.size:=eO _ _ _
theorem TY (d:Array Nat) (a e:Nat) : (Sort.breakPatterns d a e).size=d.size:=by
 unfold Sort.breakPatterns
 dsimp only
 split
 ·rw[AX,AX,AX]
 ·rfl
theorem UA (d:Array Nat) (a e pv:Nat) (h:a<e) : (Sort.partitionEqual lN d a e pv).2.size=d.size∧a<(Sort.partitionEqual lN d a e pv).1∧(Sort.partitionEqual lN d a e pv).1≤e:=by
 unfold Sort.partitionEqual
 have:=DC a _ (a + 1) (e - 1) (Sort.swp d a pv) (Nat.le_refl _)
 rw[eO] at this
 omega
theorem YQ (d:Array Nat) (a e pv:Nat) : (Sort.partition lN d a e pv).2.2.size=d.size:=by
 rw[IB]
 split
 ·show(Sort.swp _ _ _).size=_
  rw[eO,eO]
 ·show(Sort.swp _ _ _).size=_
  rw[eO,(JY a _ _ _ _ (Nat.le_refl _)).2,eO,eO]
theorem Aw:∀ (n:Nat) (d:Array Nat) (a e limit:Nat) (wb wp:Bool),e - a≤n→(Sort.pdq lN d a e limit wb wp).size=d.size
 | n,d,a,e,limit,wb,wp,hn=>by
   rw[pdq_eq]
   split
   ·exact ajl d a e
   split
   ·exact adN d a e
   have h1:(if !wb then Sort.breakPatterns d a e else d).size=d.size:=by split; exact TY d a e; rfl
   rw[← h1]
   generalize (if !wb then Sort.breakPatterns d a e else d)=d1
   unfold adM
   have h2:(if (Sort.choosePivot lN d1 a e).2=.decreasing then Sort.reverseRange d1 a e else d1).size=d1.size:=by split; exact adh d1 a e; rfl
   rw[← h2]
   generalize (if (Sort.choosePivot lN d1 a e).2=.decreasing then Sort.reverseRange d1 a e else d1)=d2
   generalize (if (Sort.choosePivot lN d1 a e).2=.decreasing then(e - 1) - ((Sort.choosePivot lN d1 a e).1 - a) else(Sort.choosePivot lN d1 a e).1)=pv
   generalize (if (Sort.choosePivot lN d1 a e).2=.decreasing then Sort.Hint.increasing else(Sort.choosePivot lN d1 a e).2)=hint
   unfold afy
   have h3:(if wb && wp && hint=.increasing then Sort.partialInsertionSort lN d2 a e else(d2,false)).1.size=d2.size:=by
    split
    ·exact Ew a e _ _ _
    ·rfl
   rw[← h3]
   generalize (if wb && wp && hint=.increasing then Sort.partialInsertionSort lN d2 a e else(d2,false))=pi
   unfold adk
   split
   ·rfl
   unfold Vf
   have hE:=UA pi.1 a e pv
   have hP:=YQ pi.1 a e pv
   generalize Sort.partitionEqual lN pi.1 a e pv=pe at *
   generalize Sort.partition lN pi.1 a e pv=pp at *
   obtain⟨mid,d4⟩:=pe
   obtain⟨aqu,ap,d5⟩:=pp
   cases n with
   | zero=>omega
   | succ n =>
     split
     ·dsimp only
      split
      ·rw[Aw n _ _ _ _ _ _ (by omega)]
       exact(hE (by omega)).1
      ·exact(hE (by omega)).1
     ·dsimp only at hP ⊢
      split
      ·split
       ·rw[Aw n _ _ _ _ _ _ (by omega),Aw n _ _ _ _ _ _ (by omega)]; exact hP
       ·rw[Aw n _ _ _ _ _ _ (by omega),Aw n _ _ _ _ _ _ (by omega)]; exact hP
      ·exact hP
def Z8 (T m:Nat) (c:aj) : Prop:=∀ {M:RM} {b a e limit:Nat} {d:Array Nat} {Q:ak},b<M.next→d.size≤60000→a≤e→e≤d.size→e - a<m→limit≤1000000→(∀ M',ag [] M M'→Q (.tup []) (PM M' b T (Sort.pdq lN d a e limit true true))) →
 c [vv b d.size,N .i64 (a:Int),N .i64 (e:Int),N .i64 (limit:Int)] (PM M b T d) Q
theorem aci {T m:Nat} {ci ch cb cc cr cp cl ce ct cq:aj} (hi:zP T (Sort.insertionSort lN) (fun _ _ _=>True) ci) (hh:zP T (Sort.heapSort lN) (fun _ a e=>a<e) ch) (hb:Vv T cb) (hc:PV T cc) (hr:zP T Sort.reverseRange (fun _ a e=>a<e) cr)
  (hp:Lc T cp) (hl:xZ cl) (he:Qo T ce) (ht:aaN T ct) (hq:Z8 T m cq) : Z8 T (m + 1) fun args M Q=>∃ a0 a1 a2 a3,args=[a0,a1,a2,a3]∧gY ci ch cb cc cr cp cl ce ct cq a0 a1 a2 a3 M Q:=by
 intro M b a e limit d Q hbn hsz hae hed hm hlim hQ
 refine⟨_,_,_,_,rfl, ?_⟩
 unfold gY
 simp only[fB,dY,eP,bR]
 obtain⟨R,hR⟩ : ∃ R,R=Sort.pdq lN d a e limit true true:=⟨_,rfl⟩
 rw[← hR] at hQ
 refine aI (fun m' ys M3=>∃ (a e limit:Nat) (wb wp:Bool) (d3:Array Nat) (M4:RM),m'=e - a∧ys=[N .i64 (a:Int),N .i64 (e:Int),N .i64 (limit:Int),Bo wb,Bo wp]∧a≤e∧e≤d.size∧e - a<m + 1∧limit≤1000000∧M3=PM M4 b T d3∧ag [] M M4∧d3.size=d.size∧R=Sort.pdq lN d3 a e limit wb wp) _
  ⟨a,e,limit,true,true,d,M,rfl,rfl,hae,hed,hm,hlim,rfl,ag.refl _ _,rfl,hR⟩ ?_
 clear hR hae hed hm hlim
 rintro next m' ys M3 hnext ⟨a,e,limit,wb,wp,d3,M4,rfl,rfl,hae,hed,hm,hlim,rfl,k4,hs3,hR⟩
 dsimp only[aa]
 have hb4:b<M4.next:=Nat.lt_of_lt_of_le hbn k4.next
 rw[pdq_eq] at hR
 rw[dM hae (by omega),show(12:Int)=((12:Nat) : Int) from rfl,jR]
 refine aG (fun hg=>?_) (fun hg=>?_)
 ·rw[if_pos (of_decide_eq_true hg)] at hR
  rw[← hs3]
  refine hi hb4 (by omega) hae (by omega) trivial ?_
  rw[← hR]
  exact hQ M4 k4
 have hg:¬ e - a≤12:=of_decide_eq_false hg
 rw[if_neg hg] at hR
 rw[show(0:Int)=((0:Nat) : Int) from rfl,Qv]
 refine aG (fun hg0=>?_) (fun hg0=>?_)
 ·rw[if_pos (of_decide_eq_true hg0)] at hR
  rw[← hs3]
  refine hh hb4 (by omega) hae (by omega) (by omega) ?_
  rw[← hR]
  exact hQ M4 k4
 have hg0:¬ limit=0:=of_decide_eq_false hg0
 rw[if_neg hg0] at hR
 refine aY (fun zs M'=>∃ (M5:RM),zs=[N .i64 (((if !wb then limit - 1 else limit) : Nat) : Int)]∧M'=PM M5 b T (if !wb then Sort.breakPatterns d3 a e else d3)∧ag [] M M5) ?_ ?_
 ·rintro zs M' ⟨M5,rfl,rfl,k5⟩
  dsimp only[aa]
  have hs5:(if !wb then Sort.breakPatterns d3 a e else d3).size=d.size:=by
   split
   ·rw[TY,hs3]
   ·exact hs3
  have hl5:(if !wb then limit - 1 else limit)≤1000000:=by split <;> omega
  generalize (if !wb then Sort.breakPatterns d3 a e else d3)=d5 at *
  generalize (if !wb then limit - 1 else limit)=lim at *
  have hb5:b<M5.next:=Nat.lt_of_lt_of_le hbn k5.next
  rw[← hs5]
  refine hc hb5 (by omega) (by omega) (by omega) fun M6 k6=>?_
  rw[hs5]
  have hcr:=Sort.choosePivot_holds lN d5 a e (by omega)
  unfold adM at hR
  generalize Sort.choosePivot lN d5 a e=cpv at *
  have k6':=k5.trans k6
  have hb6:b<M6.next:=Nat.lt_of_lt_of_le hbn k6'.next
  rw[lM,lH]
  refine aY (fun zs M'=>zs=[N .i64 (((if cpv.2=.decreasing then(e - 1) - (cpv.1 - a) else cpv.1) : Nat) : Int),N .i64 (mr (if cpv.2=.decreasing then .increasing else cpv.2))]∧M'=PM M6 b T (if cpv.2=.decreasing then Sort.reverseRange d5 a e else d5)) ?_ ?_
  ·rintro zs M' ⟨rfl,rfl⟩
   dsimp only[aa]
   have hs7:(if cpv.2=.decreasing then Sort.reverseRange d5 a e else d5).size=d.size:=by
    split
    ·rw[adh,hs5]
    ·exact hs5
   have hpv:a≤(if cpv.2=.decreasing then(e - 1) - (cpv.1 - a) else cpv.1)∧(if cpv.2=.decreasing then(e - 1) - (cpv.1 - a) else cpv.1)<e:=by
    split <;> omega
   generalize (if cpv.2=.decreasing then Sort.reverseRange d5 a e else d5)=d7 at *
   generalize (if cpv.2=.decreasing then(e - 1) - (cpv.1 - a) else cpv.1)=pv at *
   generalize (if cpv.2=.decreasing then Sort.Hint.increasing else cpv.2)=hint at *
   unfold afy adk at hR
   -- behind the short insertion sort
   have rest:∀ d8:Array Nat,d8.size=d.size→R=Vf d8 a e pv lim wb wp→∀ (J:ak),True→ae .gtr (N .i64 (a:Int)) (N .i64 ((0:Nat) : Int)) fun t74 =>
     af t74 true (fun k'=>ae .sub (N .i64 (a:Int)) (N .i64 1) fun t78=>ai (vv b d.size) t78 1 fun t79=>au (PM M6 b T d8) t79 fun t80=>ai (vv b d.size) (N .i64 (pv:Int)) 1 fun t83=>au (PM M6 b T d8) t83 fun t84=>cl [t80,t84] (PM M6 b T d8) fun t85 wm=>dE t85 fun t86=>k' t86 wm none) (fun k=>k .undef (PM M6 b T d8) none) fun Ua fJ QJ =>
     aK t74 Ua (Bo false) fun t87=>av t87 (
      ce [vv b d.size,N .i64 (a:Int),N .i64 (e:Int),N .i64 (pv:Int)] fJ fun t92 xA=>next [t92,N .i64 (e:Int),N .i64 (lim:Int),Bo wb,Bo wp] xA) (
      ct [vv b d.size,N .i64 (a:Int),N .i64 (e:Int),N .i64 (pv:Int)] fJ fun t99 iT=>eB t99 0 fun jJ=>eB t99 1 fun qo=>ae .sub jJ (N .i64 (a:Int)) fun t105=>ae .sub (N .i64 (e:Int)) jJ fun xq =>
      ae .quo (N .i64 ((e - a:Nat) : Int)) (N .i64 8) fun xh=>ae .lss t105 xq fun uA=>av uA (ae .geq t105 xh fun t116=>cq [vv b d.size,N .i64 (a:Int),jJ,N .i64 (lim:Int)] iT fun ES l5=>ae .add jJ (N .i64 1) fun EX=>next [EX,N .i64 (e:Int),N .i64 (lim:Int),t116,qo] l5) (
      ae .geq xq xh fun KP=>ae .add jJ (N .i64 1) fun uF=>cq [vv b d.size,uF,N .i64 (e:Int),N .i64 (lim:Int)] iT fun Ao sK=>next [N .i64 (a:Int),jJ,N .i64 (lim:Int),KP,qo] sK)):=fun d8 hs8 hR8 _ _=>by
    unfold Vf at hR8
    rw[pG]
    refine Ty (p:=!lN d8[a - 1]! d8[pv]!) (fun hc k hk=>?_) ?_
    ·have hc:a > 0:=of_decide_eq_true hc
     rw[bu (by omega) (by omega),PM.rd hs8.symm (by omega),PM.rd hs8.symm (by omega)]
     refine hl ?_
     rw[bH]
     exact hk
    refine aG (fun h=>?_) (fun h=>?_)
    ·rw[if_pos h] at hR8
     rw[← hs8]
     refine he hb6 (by omega) hpv.1 hpv.2 (by omega) ?_
     have hE:=UA d8 a e pv (by omega)
     generalize Sort.partitionEqual lN d8 a e pv=pe at *
     dsimp only at hR8
     rw[dif_pos ⟨hE.2.1,hE.2.2⟩] at hR8
     exact hnext _ _ _ (by omega) ⟨pe.1,e,lim,wb,wp,pe.2,M6,rfl,rfl,hE.2.2,hed,by omega,hl5,rfl,k6',by rw[hE.1,hs8],hR8⟩
    ·rw[if_neg (by rw[h]; decide)] at hR8
     rw[← hs8]
     refine ht hb6 (by omega) hpv.1 hpv.2 (by omega) ?_
     have hT:=Sort.partition_holds lN Vy d8 a e pv hpv.1 hpv.2 (by omega)
     have hTs:=YQ d8 a e pv
     generalize Sort.partition lN d8 a e pv=pp at *
     obtain⟨mid,ap,d9⟩:=pp
     dsimp only at hR8 hT hTs ⊢
     rw[dif_pos ⟨hT.1,hT.2.1⟩] at hR8
     have hT1:=hT.1
     have hT2:=hT.2.1
     rw[lM,lH,dM hT1 (by omega),dM (by omega) (by omega),lc]
     refine⟨by decide, ?_⟩
     rw[show(8:Int)=((8:Nat) : Int) from rfl,oU,aW (by omega) (by omega),ed]
     refine aG (fun hc1=>?_) (fun hc1=>?_)
     ·have hc1:mid - a<e - mid:=of_decide_eq_true hc1
      rw[if_pos hc1] at hR8
      rw[ja,← hTs]
      refine hq hb6 (by omega) hT1 (by omega) (by omega) hl5 fun M7 k7=>?_
      rw[add1 (by omega)]
      exact hnext _ _ _ (by omega) ⟨mid + 1,e,lim,_,ap,_,M7,rfl,rfl,by omega,hed,by omega,hl5,rfl,k6'.trans k7,by rw[Aw _ _ _ _ _ _ _ (Nat.le_refl _),hTs,hs8],hR8⟩
     ·have hc1:¬ mid - a<e - mid:=of_decide_eq_false hc1
      rw[if_neg hc1] at hR8
      rw[ja,add1 (by omega),← hTs]
      refine hq hb6 (by omega) (by omega) (by omega) (by omega) hl5 fun M7 k7=>?_
      exact hnext _ _ _ (by omega) ⟨a,mid,lim,_,ap,_,M7,rfl,rfl,hT1,by omega,by omega,hl5,rfl,k6'.trans k7,by rw[Aw _ _ _ _ _ _ _ (Nat.le_refl _),hTs,hs8],hR8⟩
   refine aY (fun zs M'=>∃ d8:Array Nat,M'=PM M6 b T d8∧d8.size=d.size∧R=Vf d8 a e pv lim wb wp) ?_ ?_
   ·rintro zs M' ⟨d8,rfl,hs8,hR8⟩
    exact rest d8 hs8 hR8 (fun _ _=>True) trivial
   intro J10 Iu
   have no:¬ (wb && wp && decide (hint=.increasing))=true→J10 [] (PM M6 b T d7):=fun hn=>by
    have hpi:(if (wb && wp && decide (hint=.increasing))=true then Sort.partialInsertionSort lN d7 a e else(d7,false))=(d7,false):=if_neg hn
    rw[hpi] at hR
    exact Iu _ _ ⟨d7,rfl,hs7,hR⟩
   cases wb with
   | false =>
     rw[bS]
     dsimp only
     rw[df,bS]
     dsimp only
     rw[bS]
     dsimp only
     rw[df,bD]
     exact no (by simp)
   | true =>
     rw[dx]
     dsimp only
     rw[eT]
     cases wp with
     | false =>
       rw[bS]
       dsimp only
       rw[bS]
       dsimp only
       rw[df,bD]
       exact no (by simp)
     | true =>
       rw[dx]
       dsimp only
       rw[dx]
       dsimp only
       rw[bU,eT]
       by_cases hin:hint=.increasing
       ·rw[show(mr hint == 1)=true by rw[hin]; rfl,dD]
        have hpi:(if (true && true && decide (hint=.increasing))=true then Sort.partialInsertionSort lN d7 a e else(d7,false))=Sort.partialInsertionSort lN d7 a e:=if_pos (by simp[hin])
        rw[hpi] at hR
        rw[← hs7]
        refine hp hb6 (by omega) (by omega) (by omega) ?_
        have hs8:(Sort.partialInsertionSort lN d7 a e).1.size=d.size:=by
         rw[Sort.partialInsertionSort,Ew,hs7]
        generalize Sort.partialInsertionSort lN d7 a e=pi at *
        refine aG (fun h=>?_) (fun h=>?_)
        ·rw[if_pos h] at hR
         rw[← hR]
         exact hQ M6 k6'
        ·rw[if_neg (by rw[h]; decide)] at hR
         exact Iu _ _ ⟨pi.1,rfl,hs8,hR⟩
       ·rw[show(mr hint == 1)=false by cases hint <;> first | rfl | exact absurd rfl hin,bD]
        exact no (by simp[hin])
  intro J6 hJ6
  rw[bU]
  by_cases hdec:cpv.2=.decreasing
  ·rw[show(mr cpv.2 == 2)=true by rw[hdec]; rfl,dD,← hs5]
   refine hr hb6 (by omega) hae (by omega) (by omega) ?_
   rw[bu (by omega) (by omega),dM (by omega) (by omega),dM (by omega) (by omega)]
   exact hJ6 _ _ ⟨by rw[if_pos hdec,if_pos hdec]; rfl,by rw[if_pos hdec]⟩
  ·rw[show(mr cpv.2 == 2)=false by cases h:cpv.2 <;> first | rfl | exact absurd h hdec,bD]
   exact hJ6 _ _ ⟨by rw[if_neg hdec,if_neg hdec],by rw[if_neg hdec]⟩
 intro J hJ
 rw[bH]
 cases wb with
 | true =>
   rw[Bool.not_true,bD]
   exact hJ _ _ ⟨M4,rfl,rfl,k4⟩
 | false =>
   rw[Bool.not_false,dD,← hs3]
   refine hb hb4 (by omega) hae (by omega) fun M5 k5=>?_
   rw[bu (by omega) (by omega)]
   exact hJ _ _ ⟨M5,rfl,rfl,k4.trans k5⟩
end Go.Ab.aD
namespace Go.Ab.Crw
open Go Go.Ab Go.Ab.aD
section
variable {α:Type} [Inhabited α] {E:Enc α} {M M' : RM} {T b z n i j:Nat} {d:Array α}
structure At (E:Enc α) (T b:Nat) (d:Array α) (M:RM) : Prop where
 heap:M.heap b=some (.row (E.row d.toList) true T 0)
 lt:b<M.next
abbrev sv (b n z:Nat) : AV:=.slc b 0 n (.op z)
theorem At.keep {α:Type} {E:Enc α} {d:Array α} (h:At E T b d M) (k:ag [] M M') : At E T b d M':=⟨k.aP h.heap h.lt (by simp),Nat.lt_of_lt_of_le h.lt k.next⟩
theorem P7 (hi:i<d.size) : d[i]! = d[i]:=getElem!_pos d i hi
theorem At.idx {kd:IntKind} {K:AV→Prop} (hi:i<n) : ai (sv b n z) (N kd (i:Int)) z K=K (.ptr b (i * z)):=by
 rw[pW]
 simp only[Int.toNat_natCast]
 rw[Nat.zero_add]
 exact propext ⟨fun h=>h.2.2,fun h=>⟨by omega,by omega,h⟩⟩
theorem At.ld (h:At E T b d M) (hz:E.size=z) (hi:i<d.size) {K:AV→Prop} : aA M (.ptr b (i * z)) z K=K (.agg (E.cells d[i]!)):=by
 subst hz
 have hl:M.loads b (i * E.size) E.size=some (E.cells d[i]!):=by
  have hlen:(E.row d.toList).length=d.size * E.size:=by rw[Enc.eY,Array.length_toList]
  have hsum:i * E.size + E.size≤d.size * E.size:=by rw[← Nat.succ_mul]; exact Nat.mul_le_mul_right _ hi
  rw[RM.dw h.heap (by omega),E.QC (by rw[Array.length_toList]; exact hi),P7 hi]
  simp
 rw[gK,hl]
 simp
theorem At.rd (h:At E T b d M) (hz:E.size=z) (hn:n=d.size) (hi:i<d.size) {kd:IntKind} {K:AV→Prop} : (ai (sv b n z) (N kd (i:Int)) z fun p=>aA M p z K)=K (.agg (E.cells d[i]!)):=by
 rw[At.idx (by omega),h.ld hz hi]
theorem ag6 {α:Type} {E:Enc α} {l:List α} {i:Nat} {x:α} (hi:i<l.length) : (E.row l).take (i * E.size)++E.cells x++(E.row l).drop (i * E.size + E.size)=E.row (l.set i x):=by
 rw[List.set_eq_take_append_cons_drop,if_pos hi,E.vP,E.l7,E.wQ,← Nat.succ_mul,E.xL,List.append_assoc]
theorem At.st {α:Type} {E:Enc α} {d:Array α} (h:At E T b d M) (hz:E.size=z) (hi:i<d.size) {x:α} {K:RM→Prop} (hK:∀ M',At E T b (d.setIfInBounds i x) M'→ag [b] M M'→M'.next=M.next→K M') : aC M (.ptr b (i * z)) (.agg (E.cells x)) z K:=by
 subst hz
 have hlen:(E.row d.toList).length=d.size * E.size:=by rw[Enc.eY,Array.length_toList]
 have hsum:i * E.size + E.size≤d.size * E.size:=by rw[← Nat.succ_mul]; exact Nat.mul_le_mul_right _ hi
 rw[zJ]
 refine⟨E.len x,_,RM.EA h.heap (by show i * E.size + (E.cells x).length≤_; rw[E.len]; omega) (Nat.zero_le _) (E.one x), ?_⟩
 refine hK _ ⟨?_,h.lt⟩ ((ag.refl _ _).put _ (.inr (by simp))) rfl
 rw[aR]
 have hi' : i<d.toList.length:=by rw[Array.length_toList]; exact hi
 have:=ag6 (E:=E) (x:=x) hi'
 rw[Array.toList_setIfInBounds,← this]
 show some (RB.row ((E.row d.toList).take (i * E.size)++E.cells x++(E.row d.toList).drop (i * E.size + (E.cells x).length)) true T 0)=_
 rw[E.len]
theorem bP (d:Array α) (i j:Nat) : (Sort.swp d i j).size=d.size:=by simp[Sort.swp]
theorem At.swap (h:At E T b d M) (hz:E.size=z) (hn:n=d.size) (hi:i<d.size) (hj:j<d.size) {k1 k2:IntKind} {K:RM→Prop} (hK:∀ M',At E T b (Sort.swp d i j) M'→ag [b] M M'→K M') :
  ai (sv b n z) (N k1 (i:Int)) z fun p=>aC M p (.agg (E.cells d[j]!)) z fun M1=>ai (sv b n z) (N k2 (j:Int)) z fun q=>aC M1 q (.agg (E.cells d[i]!)) z K:=by
 rw[At.idx (by omega)]
 refine h.st hz hi fun M1 h1 k1 _=>?_
 rw[At.idx (by omega)]
 refine h1.st hz (by simpa using hj) fun M2 h2 k2 _=>?_
 exact hK M2 h2 (k1.trans k2)
def oF (E:Enc α) (lt:α→α→Bool) (c:List AV→RM→ak→Prop) : Prop:=∀ {M:RM} {x y:α} {Q:ak},(∀ (n:Int) M',decide (n<0)=lt x y→ag [] M M'→Q (N .i64 n) M')→c [.agg (E.cells x),.agg (E.cells y)] M Q
theorem oF.use {α:Type} {E:Enc α} {lt:α→α→Bool} {c:List AV→RM→ak→Prop} (h:oF E lt c) {M:RM} {x y:α} {K:AV→RM→Prop} (hK:∀ M',ag [] M M'→K (Bo (lt x y)) M') :
  c [.agg (E.cells x),.agg (E.cells y)] M fun t M'=>ae .lss t (N .i64 0) fun u=>K u M':=by
 refine h fun n M' hn k=>?_
 rw[dB,hn]
 exact hK M' k
def SortG (E:Enc α) (T z:Nat) (fv:AV) (f:Array α→Nat→Nat→Array α) (P:Array α→Nat→Nat→Prop) (c:aj) : Prop:=∀ {M:RM} {b a e:Nat} {d:Array α} {Q:ak},At E T b d M→d.size≤60000→a≤e→e≤d.size→P d a e→(∀ M',At E T b (f d a e) M'→ag [b] M M'→Q (.tup []) M') →
 c [sv b d.size z,N .i64 (a:Int),N .i64 (e:Int),fv] M Q
end
section
variable {α:Type} [Inhabited α] (lt:α→α→Bool)
theorem Nw (a:Nat) : ∀ (j:Nat) (d:Array α),(Sort.insInner lt a j d).size=d.size
 | 0,d=>rfl
 | j + 1,d=>by
   rw[Sort.insInner]
   split
   ·rw[Nw a j,bP]
   ·rfl
theorem Oh (a e:Nat) : ∀ (k i:Nat) (d:Array α),e - i≤k→(Sort.insOuter lt a e i d).size=d.size
 | 0,i,d,h=>by rw[Sort.insOuter,if_neg (by omega)]
 | k + 1,i,d,h=>by
   rw[Sort.insOuter]
   split
   ·rw[Oh a e k _ _ (by omega),Nw]
   ·rfl
theorem an1 (d:Array α) (a e:Nat) : (Sort.insertionSort lt d a e).size=d.size:=Oh lt a e _ _ _ (Nat.le_refl _)
theorem yL (hi first:Nat) : ∀ (k lo:Nat) (d:Array α),hi - lo≤k→(Sort.siftDown lt hi first lo d).size=d.size
 | 0,lo,d,h=>by rw[Sort.siftDown,dif_pos (by omega)]
 | k + 1,lo,d,h=>by
   rw[Sort.siftDown]
   split
   ·rfl
   ·split
    ·split
     ·rfl
     ·split
      ·rw[yL hi first k _ _ (by omega),bP]
      ·rfl
    ·split
     ·rfl
     ·rw[yL hi first k _ _ (by omega),bP]
theorem Ze (hi first:Nat) : ∀ (k:Nat) (d:Array α),(Sort.heapBuild lt hi first k d).size=d.size
 | 0,d=>rfl
 | k + 1,d=>by rw[Sort.heapBuild,Ze hi first k,yL lt hi first hi _ _ (by omega)]
theorem agw (first:Nat) : ∀ (k:Nat) (d:Array α),(Sort.heapPop lt first k d).size=d.size
 | 0,d=>rfl
 | k + 1,d=>by rw[Sort.heapPop,agw first k,yL lt _ _ k _ _ (by omega),bP]
theorem al1 (d:Array α) (a e:Nat) : (Sort.heapSort lt d a e).size=d.size:=by rw[Sort.heapSort,agw,Ze]
theorem QR:∀ (k i j:Nat) (d:Array α),j - i≤k→(Sort.reverseLoop i j d).size=d.size
 | 0,i,j,d,h=>by rw[Sort.reverseLoop,if_neg (by omega)]
 | k + 1,i,j,d,h=>by
   rw[Sort.reverseLoop]
   split
   ·rw[QR k _ _ _ (by omega),bP]
   ·rfl
theorem abx (d:Array α) (a e:Nat) : (Sort.reverseRange d a e).size=d.size:=QR _ _ _ _ (Nat.le_refl _)
theorem x8 (a l m:Nat) (st:UInt64 × Array α) (i:Nat) : (Sort.breakStep a l m st i).2.size=st.2.size:=bP _ _ _
theorem PX (d:Array α) (a e:Nat) : (Sort.breakPatterns d a e).size=d.size:=by
 unfold Sort.breakPatterns
 dsimp only
 split
 ·rw[x8,x8,x8]
 ·rfl
theorem xX:∀ (j:Nat) (d:Array α),(Sort.shiftDown lt j d).size=d.size
 | 0,d=>rfl
 | j + 1,d=>by
   rw[Sort.shiftDown]
   split
   ·rfl
   ·rw[xX j,bP]
theorem Rb (e:Nat) : ∀ (k j:Nat) (d:Array α),e - j≤k→(Sort.shiftUp lt e j d).size=d.size
 | 0,j,d,h=>by rw[Sort.shiftUp,if_neg (by omega)]
 | k + 1,j,d,h=>by
   rw[Sort.shiftUp]
   split
   ·split
    ·rfl
    ·rw[Rb e k _ _ (by omega),bP]
   ·rfl
theorem vU (a b s i:Nat) (d:Array α) : Sort.partialIns lt a b (s + 1) i d =
  if Sort.scanSorted lt d b i=b then(d,true) else if b - a<50 then(d,false) else
   Sort.partialIns lt a b s (Sort.scanSorted lt d b i) (if b - Sort.scanSorted lt d b i ≥ 2 then Sort.shiftUp lt b (Sort.scanSorted lt d b i + 1) (if Sort.scanSorted lt d b i - a ≥ 2 then Sort.shiftDown lt (Sort.scanSorted lt d b i - 1) (Sort.swp d (Sort.scanSorted lt d b i) (Sort.scanSorted lt d b i - 1)) else Sort.swp d (Sort.scanSorted lt d b i) (Sort.scanSorted lt d b i - 1))
    else(if Sort.scanSorted lt d b i - a ≥ 2 then Sort.shiftDown lt (Sort.scanSorted lt d b i - 1) (Sort.swp d (Sort.scanSorted lt d b i) (Sort.scanSorted lt d b i - 1)) else Sort.swp d (Sort.scanSorted lt d b i) (Sort.scanSorted lt d b i - 1))):=rfl
theorem BH (a e:Nat) : ∀ (s i:Nat) (d:Array α),(Sort.partialIns lt a e s i d).1.size=d.size
 | 0,i,d=>rfl
 | s + 1,i,d=>by
   rw[vU]
   split
   ·rfl
   ·split
    ·rfl
    ·rw[BH a e s]
     have h1:∀ x,(if x - a ≥ 2 then Sort.shiftDown lt (x - 1) (Sort.swp d x (x - 1)) else Sort.swp d x (x - 1)).size=d.size:=fun x=>by
      split
      ·rw[xX,bP]
      ·rw[bP]
     split
     ·rw[Rb lt e e _ _ (by omega),h1]
     ·rw[h1]
theorem K7 (p:α→Bool) (d:Array α) (J:Nat) : ∀ (n i:Nat),J + 1 - i≤n→i≤Sort.scanUp p d J i∧Sort.scanUp p d J i≤max (J + 1) i
 | 0,i,h=>by
   rw[Sort.scanUp,if_neg (by simp; omega)]; omega
 | n + 1,i,h=>by
   rw[Sort.scanUp]
   split
   ·rename_i hc
    rw[Bool.and_eq_true] at hc
    have:=of_decide_eq_true hc.1
    have:=K7 p d J n (i + 1) (by omega)
    omega
   ·omega
theorem Fq (p:α→Bool) (d:Array α) (i:Nat) : ∀ j,Sort.scanDown p d i j≤j
 | 0=>Nat.le_refl _
 | j + 1=>by
   rw[Sort.scanDown]
   split
   ·have:=Fq p d i j; omega
   ·omega
theorem Hw (a:Nat) : ∀ (n i j:Nat) (d:Array α),j + 1 - i≤n→i≤(Sort.partEqLoop lt a i j d).1∧(Sort.partEqLoop lt a i j d).1≤max (j + 1) i∧(Sort.partEqLoop lt a i j d).2.size=d.size
 | n,i,j,d,h=>by
   have h1:=K7 (fun x=>!lt d[a]! x) d j _ i (Nat.le_refl _)
   have h2:=Fq (fun x=>lt d[a]! x) d (Sort.scanUp (fun x=>!lt d[a]! x) d j i) j
   rw[Sort.partEqLoop]
   generalize Sort.scanUp (fun x=>!lt d[a]! x) d j i=i2 at *
   generalize Sort.scanDown (fun x=>lt d[a]! x) d i2 j=j2 at *
   split
   ·exact⟨h1.1,h1.2,rfl⟩
   ·split
    ·cases n with
     | zero=>omega
     | succ n =>
       have h3:=Hw a n (i2 + 1) (j2 - 1) (Sort.swp d i2 j2) (by omega)
       rw[bP] at h3
       omega
    ·exact⟨h1.1,h1.2,rfl⟩
theorem OH (a:Nat) : ∀ (n i j:Nat) (d:Array α),j + 1 - i≤n→(Sort.partLoop lt a i j d).1≤j∧(Sort.partLoop lt a i j d).2.size=d.size
 | n,i,j,d,h=>by
   have h1:=K7 (fun x=>lt x d[a]!) d j _ i (Nat.le_refl _)
   have h2:=Fq (fun x=>!lt x d[a]!) d (Sort.scanUp (fun x=>lt x d[a]!) d j i) j
   rw[Sort.partLoop]
   generalize Sort.scanUp (fun x=>lt x d[a]!) d j i=i2 at *
   generalize Sort.scanDown (fun x=>!lt x d[a]!) d i2 j=j2 at *
   split
   ·exact⟨h2,rfl⟩
   ·split
    ·cases n with
     | zero=>omega
     | succ n =>
       have h3:=OH a n (i2 + 1) (j2 - 1) (Sort.swp d i2 j2) (by omega)
       rw[bP] at h3
       exact⟨by omega,h3.2⟩
    ·exact⟨h2,rfl⟩
theorem Qc (d:Array α) (a e pv:Nat) (h:a<e) : (Sort.partitionEqual lt d a e pv).2.size=d.size∧a<(Sort.partitionEqual lt d a e pv).1∧(Sort.partitionEqual lt d a e pv).1≤e:=by
 unfold Sort.partitionEqual
 have:=Hw lt a _ (a + 1) (e - 1) (Sort.swp d a pv) (Nat.le_refl _)
 rw[bP] at this
 omega
def pI (d2:Array α) (a e:Nat) : Nat:=Sort.scanUp (fun x=>lt x d2[a]!) d2 (e - 1) (a + 1)
def pJ (d2:Array α) (a e:Nat) : Nat:=Sort.scanDown (fun x=>!lt x d2[a]!) d2 (pI lt d2 a e) (e - 1)
def pL (d2:Array α) (a e:Nat) : Nat × Array α:=Sort.partLoop lt a (pI lt d2 a e + 1) (pJ lt d2 a e - 1) (Sort.swp d2 (pI lt d2 a e) (pJ lt d2 a e))
theorem xu (d:Array α) (a e pv:Nat) : Sort.partition lt d a e pv =
  if pI lt (Sort.swp d a pv) a e > pJ lt (Sort.swp d a pv) a e then(pJ lt (Sort.swp d a pv) a e,true,Sort.swp (Sort.swp d a pv) (pJ lt (Sort.swp d a pv) a e) a)
  else((pL lt (Sort.swp d a pv) a e).1,false,Sort.swp (pL lt (Sort.swp d a pv) a e).2 (pL lt (Sort.swp d a pv) a e).1 a):=rfl
theorem SV (d:Array α) (a e pv:Nat) : (Sort.partition lt d a e pv).2.2.size=d.size:=by
 rw[xu]
 split
 ·show(Sort.swp _ _ _).size=_
  rw[bP,bP]
 ·show(Sort.swp _ _ _).size=_
  rw[bP,pL,(OH lt a _ _ _ _ (Nat.le_refl _)).2,bP,bP]
def gC (d3:Array α) (a e pv limit:Nat) (wb wp:Bool) : Array α :=
 if a > 0 && !lt d3[a - 1]! d3[pv]! then
  match Sort.partitionEqual lt d3 a e pv with
  | (mid,d4)=>if _h:a<mid∧mid≤e then Sort.pdq lt d4 mid e limit wb wp else d4
 else
  match Sort.partition lt d3 a e pv with
  | (mid,ap,d4) =>
    if _h:a≤mid∧mid<e then
     if mid - a<e - mid then Sort.pdq lt (Sort.pdq lt d4 a mid limit true true) (mid + 1) e limit (decide (mid - a ≥ (e - a) / 8)) ap
     else Sort.pdq lt (Sort.pdq lt d4 (mid + 1) e limit true true) a mid limit (decide (e - mid ≥ (e - a) / 8)) ap
    else d4
def gP (pi:Array α × Bool) (a e pv limit:Nat) (wb wp:Bool) : Array α:=if pi.2 then pi.1 else gC lt pi.1 a e pv limit wb wp
def gB (d2:Array α) (a e pv:Nat) (hint:Sort.Hint) (limit:Nat) (wb wp:Bool) : Array α :=
 gP lt (if wb && wp && hint=.increasing then Sort.partialInsertionSort lt d2 a e else(d2,false)) a e pv limit wb wp
def gA (d1:Array α) (a e limit:Nat) (wb wp:Bool) : Array α :=
 gB lt (if (Sort.choosePivot lt d1 a e).2=.decreasing then Sort.reverseRange d1 a e else d1) a e (if (Sort.choosePivot lt d1 a e).2=.decreasing then(e - 1) - ((Sort.choosePivot lt d1 a e).1 - a) else(Sort.choosePivot lt d1 a e).1)
  (if (Sort.choosePivot lt d1 a e).2=.decreasing then .increasing else(Sort.choosePivot lt d1 a e).2) limit wb wp
theorem Be (d:Array α) (a e limit:Nat) (wb wp:Bool) : Sort.pdq lt d a e limit wb wp =
  if e - a≤12 then Sort.insertionSort lt d a e else if limit=0 then Sort.heapSort lt d a e else gA lt (if !wb then Sort.breakPatterns d a e else d) a e (if !wb then limit - 1 else limit) wb wp:=by
 rw[Sort.pdq]; rfl
theorem zL:∀ (n:Nat) (d:Array α) (a e limit:Nat) (wb wp:Bool),e - a≤n→(Sort.pdq lt d a e limit wb wp).size=d.size
 | n,d,a,e,limit,wb,wp,hn=>by
   rw[Be]
   split
   ·exact an1 lt d a e
   split
   ·exact al1 lt d a e
   have h1:(if !wb then Sort.breakPatterns d a e else d).size=d.size:=by split; exact PX d a e; rfl
   rw[← h1]
   generalize (if !wb then Sort.breakPatterns d a e else d)=d1
   unfold gA
   have h2:(if (Sort.choosePivot lt d1 a e).2=.decreasing then Sort.reverseRange d1 a e else d1).size=d1.size:=by split; exact abx d1 a e; rfl
   rw[← h2]
   generalize (if (Sort.choosePivot lt d1 a e).2=.decreasing then Sort.reverseRange d1 a e else d1)=d2
   generalize (if (Sort.choosePivot lt d1 a e).2=.decreasing then(e - 1) - ((Sort.choosePivot lt d1 a e).1 - a) else(Sort.choosePivot lt d1 a e).1)=pv
   generalize (if (Sort.choosePivot lt d1 a e).2=.decreasing then Sort.Hint.increasing else(Sort.choosePivot lt d1 a e).2)=hint
   unfold gB
   have h3:(if wb && wp && hint=.increasing then Sort.partialInsertionSort lt d2 a e else(d2,false)).1.size=d2.size:=by
    split
    ·exact BH lt a e _ _ _
    ·rfl
   rw[← h3]
   generalize (if wb && wp && hint=.increasing then Sort.partialInsertionSort lt d2 a e else(d2,false))=pi
   unfold gP
   split
   ·rfl
   unfold gC
   have hE:=Qc lt pi.1 a e pv
   have hP:=SV lt pi.1 a e pv
   generalize Sort.partitionEqual lt pi.1 a e pv=pe at *
   generalize Sort.partition lt pi.1 a e pv=pp at *
   obtain⟨mid,d4⟩:=pe
   obtain⟨aqu,ap,d5⟩:=pp
   cases n with
   | zero=>omega
   | succ n =>
     split
     ·dsimp only
      split
      ·rw[zL n _ _ _ _ _ _ (by omega)]
       exact(hE (by omega)).1
      ·exact(hE (by omega)).1
     ·dsimp only at hP ⊢
      split
      ·split
       ·rw[zL n _ _ _ _ _ _ (by omega),zL n _ _ _ _ _ _ (by omega)]; exact hP
       ·rw[zL n _ _ _ _ _ _ (by omega),zL n _ _ _ _ _ _ (by omega)]; exact hP
      ·exact hP
theorem uL (d:Array α) (i j k:Nat) : (((Sort.order2 lt d i j k).1=i∧(Sort.order2 lt d i j k).2.1=j)∨((Sort.order2 lt d i j k).1=j∧(Sort.order2 lt d i j k).2.1=i))∧k≤(Sort.order2 lt d i j k).2.2∧(Sort.order2 lt d i j k).2.2≤k + 1:=by
 unfold Sort.order2
 split <;> simp
theorem xw (d:Array α) {i j h k n:Nat} (hi:i<n) (hj:j<n) (hh:h<n) : (Sort.median lt d i j h k).1<n∧(Sort.median lt d i j h k).2≤k + 3:=by
 unfold Sort.median
 dsimp only
 have o1:=uL lt d i j k
 generalize Sort.order2 lt d i j k=r1 at *
 have o2:=uL lt d r1.2.1 h r1.2.2
 generalize Sort.order2 lt d r1.2.1 h r1.2.2=r2 at *
 have o3:=uL lt d r1.1 r2.1 r2.2.2
 omega
end
section
variable {α:Type} [Inhabited α] {E:Enc α} {M M' : RM} {T b z n i j:Nat} {d:Array α} {ks:List Nat}
theorem At.keep' {α:Type} {E:Enc α} {d:Array α} (h:At E T b d M) (k:ag ks M M') (hb:b ∉ ks) : At E T b d M':=⟨k.aP h.heap h.lt hb,Nat.lt_of_lt_of_le h.lt k.next⟩
theorem pR {c p:Bool} {f:KR→Prop} {P:RM→Prop} {G:AV→RM→Prop} (h0:P M) (hf:c=true→∀ k:KR,(∀ M',P M'→k (Bo p) M' none)→f k) (hG:∀ M',P M'→G (Bo (c && p)) M') :
  af (Bo c) true f (fun k=>k .undef M none) (fun t M' b=>aK (Bo c) t (Bo false) fun u=>G u M'):=by
 cases c with
 | false=>rw[pq]; dsimp only; rw[df]; exact hG M h0
 | true=>rw[o8]; exact hf rfl _ fun M' h=>by rw[eT]; exact hG M' h
variable {body:(List AV→RM→Prop)→List AV→RM→Prop} {p:α→Bool} {P:RM→Prop}
theorem zT {J i0:Nat} (hP:P M) (h:∀ (next:List AV→RM→Prop) (i:Nat) (M' : RM),P M'→i0≤i→i≤max (J + 1) i0→((decide (i≤J) && p d[i]!)=true→∀ M'',P M''→next [N .i64 ((i + 1:Nat) : Int)] M'')→((decide (i≤J) && p d[i]!)=false→i=Sort.scanUp p d J i0)→body next [N .i64 (i:Int)] M') :
  aN body [N .i64 (i0:Int)] M:=by
 obtain⟨R,hR⟩ : ∃ R,R=Sort.scanUp p d J i0:=⟨_,rfl⟩
 refine aI (fun m ys M3=>∃ (i:Nat),m=J + 1 - i∧ys=[N .i64 (i:Int)]∧i0≤i∧i≤max (J + 1) i0∧P M3∧R=Sort.scanUp p d J i) _ ⟨i0,rfl,rfl,Nat.le_refl _,by omega,hP,hR⟩ ?_
 rintro next m ys M3 hnext ⟨i,rfl,rfl,h0,hi,h3,hm⟩
 rw[Sort.scanUp] at hm
 refine h next i M3 h3 h0 hi (fun hc M4 h4=>?_) (fun hc=>?_)
 ·rw[if_pos hc] at hm
  have hij:i≤J:=by
   rw[Bool.and_eq_true] at hc
   exact of_decide_eq_true hc.1
  exact hnext _ _ _ (by omega) ⟨i + 1,rfl,rfl,by omega,by omega,h4,hm⟩
 ·rw[if_neg (by rw[hc]; decide)] at hm
  rw[← hR]; exact hm.symm
theorem uU {i j0:Nat} (hP:P M) (h1:1≤i) (h:∀ (next:List AV→RM→Prop) (j:Nat) (M' : RM),P M'→j≤j0→(j=j0∨i≤j + 1)→((decide (i≤j) && p d[j]!)=true→∀ M'',P M''→next [N .i64 ((j - 1:Nat) : Int)] M'')→((decide (i≤j) && p d[j]!)=false→j=Sort.scanDown p d i j0)→body next [N .i64 (j:Int)] M') :
  aN body [N .i64 (j0:Int)] M:=by
 obtain⟨R,hR⟩ : ∃ R,R=Sort.scanDown p d i j0:=⟨_,rfl⟩
 refine aI (fun m ys M3=>∃ (j:Nat),m=j + 1∧ys=[N .i64 (j:Int)]∧j≤j0∧(j=j0∨i≤j + 1)∧P M3∧R=Sort.scanDown p d i j) _ ⟨j0,rfl,rfl,Nat.le_refl _,.inl rfl,hP,hR⟩ ?_
 rintro next m ys M3 hnext ⟨j,rfl,rfl,h0,hi,h3,hm⟩
 refine h next j M3 h3 h0 hi (fun hc M4 h4=>?_) (fun hc=>?_)
 ·have hij:i≤j:=by
   rw[Bool.and_eq_true] at hc
   exact of_decide_eq_true hc.1
  obtain⟨k,rfl⟩ : ∃ k,j=k + 1:=⟨j - 1,by omega⟩
  rw[Sort.scanDown,if_pos hc] at hm
  exact hnext _ _ _ (by omega) ⟨k,rfl,rfl,by omega,by omega,h4,hm⟩
 ·rw[← hR]
  cases j with
  | zero=>exact hm.symm
  | succ k=>rw[Sort.scanDown,if_neg (by rw[hc]; decide)] at hm; exact hm.symm
end
def abA (TX:Nat) (c:aj) : Prop:=∀ {M:RM} {s:Nat} {r:UInt64} {Q:ak},M.heap s=some (.row [N .u64 (r.toNat:Int)] false TX 0)→s<M.next→(∀ M',M'.heap s=some (.row [N .u64 ((Sort.xorNext r).toNat:Int)] false TX 0)→ag [s] M M'→M'.next=M.next→Q (N .u64 ((Sort.xorNext r).toNat:Int)) M')→c [.ptr s 0] M Q
theorem acR {TX:Nat} : abA TX fun args M Q=>∃ a0,args=[a0]∧nC a0 M Q:=by
 intro M s r Q hh hlt hQ
 refine⟨_,rfl, ?_⟩
 unfold nC
 have st:∀ (M:RM) (r r' : UInt64) (K:RM→Prop),M.heap s=some (.row [N .u64 (r.toNat:Int)] false TX 0)→(∀ M',M'.heap s=some (.row [N .u64 (r'.toNat:Int)] false TX 0)→ag [s] M M'→M'.next=M.next→K M')→aC M (.ptr s 0) (N .u64 (r'.toNat:Int)) 1 K:=fun M r r' K h hK=>by
  rw[fG h (by simp) rfl rfl]
  exact hK _ (aR _) ((ag.refl _ _).put _ (.inr (by simp))) rfl
 rw[aM,az hh rfl,aM,az hh rfl,Dr]
 refine⟨by decide, ?_⟩
 rw[show(13:Int)=((13:Nat) : Int) from rfl,I6 (k:=13) (n:=13) rfl (by decide),xG,u64_xor,aM]
 refine st _ _ _ _ hh fun M1 h1 k1 n1=>?_
 rw[aM,az h1 rfl,aM,az h1 rfl,Jq]
 refine⟨by decide, ?_⟩
 rw[show(7:Int)=((7:Nat) : Int) from rfl,YM (k:=7) (n:=7) rfl (by decide),xG,u64_xor,aM]
 refine st _ _ _ _ h1 fun M2 h2 k2 n2=>?_
 rw[aM,az h2 rfl,aM,az h2 rfl,Dr]
 refine⟨by decide, ?_⟩
 rw[show(17:Int)=((17:Nat) : Int) from rfl,I6 (k:=17) (n:=17) rfl (by decide),xG,u64_xor,aM]
 refine st _ _ _ _ h2 fun M3 h3 k3 n3=>?_
 rw[aM,az h3 rfl]
 exact hQ M3 h3 ((k1.trans k2).trans k3) (by omega)
def tQ {α:Type} [Inhabited α] (a l m i0:Nat) (d:Array α) : Nat→UInt64 × Array α
 | 0=>(UInt64.ofNat l,d)
 | k + 1=>Sort.breakStep a l m (tQ a l m i0 d k) (i0 + k)
theorem Vo {α:Type} [Inhabited α] (a l m i0:Nat) (d:Array α) : ∀ k,(tQ a l m i0 d k).2.size=d.size
 | 0=>rfl
 | k + 1=>by
   rw[tQ,x8,Vo a l m i0 d k]
abbrev aF:=aD × (List UInt8 × List UInt8 × List UInt8)
def aB:Enc aF:=⟨5,fun x=>aT x.1++[St x.2.1,St x.2.2.1,St x.2.2.2],fun _=>rfl,fun _=>rfl⟩
theorem afm {T:Nat} {fv:AV} {lt:aF→aF→Bool} {cv:FuncId→aj} (hl:oF aB lt (bT cv fv)) : SortG aB T 5 fv (Sort.insertionSort lt) (fun _ _ _=>True) fun args M Q=>∃ a0 a1 a2 a3,args=[a0,a1,a2,a3]∧fw cv a0 a1 a2 a3 M Q:=by
 intro M b a e d Q hat hsz hae he _ hQ
 refine⟨_,_,_,_,rfl, ?_⟩
 unfold fw
 simp only[fB,dY,eP]
 rw[add1 (by omega)]
 rw[Sort.insertionSort] at hQ
 obtain⟨R,hR⟩ : ∃ R,R=Sort.insOuter lt a e (a + 1) d:=⟨_,rfl⟩
 rw[← hR] at hQ
 refine aI (fun m ys M3=>∃ (i:Nat) (d3:Array aF),m=d.size - i∧ys=[N .i64 (i:Int)]∧i≤d.size + 1∧At aB T b d3 M3∧ag [b] M M3∧d3.size=d.size∧R=Sort.insOuter lt a e i d3) _ ⟨a + 1,d,rfl,rfl,by omega,hat,ag.refl _ _,rfl,hR⟩ ?_
 rintro next m ys M3 hnext ⟨i,d3,rfl,rfl,hi,h3,k3,hs3,hm⟩
 dsimp only[aa]
 rw[ed]
 refine aG (fun hlt=>?_) (fun hge=>?_)
 ·have hlt:i<e:=of_decide_eq_true hlt
  rw[Sort.insOuter,if_pos hlt] at hm
  obtain⟨R5,hR5⟩ : ∃ R5,R5=Sort.insInner lt a i d3:=⟨_,rfl⟩
  rw[← hR5] at hm
  refine aI (fun m ys M5=>∃ (j:Nat) (d5:Array aF),m=j + 1∧ys=[N .i64 (j:Int)]∧j≤i∧At aB T b d5 M5∧ag [b] M M5∧d5.size=d.size∧R5=Sort.insInner lt a j d5) _ ⟨i,d3,rfl,rfl,Nat.le_refl _,h3,k3,hs3,hR5⟩ ?_
  rintro gT m ys M5 dH ⟨j,d5,rfl,rfl,hj,h5,k5,hs5,hm5⟩
  dsimp only[aa]
  rw[pG]
  have out:∀ M6,At aB T b d5 M6→ag [b] M M6→Sort.insInner lt a j d5=d5→ae .add (N .i64 (i:Int)) (N .i64 1) (fun t14=>next [t14] M6):=fun M6 h6 k6 h=>by
   rw[add1 (by omega)]
   refine hnext _ _ _ (by omega) ⟨i + 1,d5,rfl,rfl,by omega,h6,k6,hs5, ?_⟩
   rw[hm,hm5,h]
  by_cases hg:j > a
  ·obtain⟨k,rfl⟩ : ∃ k,j=k + 1:=⟨j - 1,by omega⟩
   rw[decide_eq_true hg,o8]
   dsimp only
   rw[h5.rd (z:=5) rfl hs5.symm (by omega),bu (by omega) (by omega),Nat.add_sub_cancel,h5.rd (z:=5) rfl hs5.symm (by omega)]
   refine hl.use fun M6 k6=>?_
   have h6:=h5.keep k6
   have k6':=k5.trans (k6.mono (cs:=[b]) (by simp))
   rw[eT]
   rw[Sort.insInner] at hm5 out
   refine aG (fun h=>?_) (fun h=>?_)
   ·rw[if_pos (by simp[hg,h])] at hm5
    rw[bu (by omega) (by omega),bu (by omega) (by omega),Nat.add_sub_cancel,h6.rd (z:=5) rfl hs5.symm (by omega),h6.rd (z:=5) rfl hs5.symm (by omega)]
    refine h6.swap (z:=5) rfl hs5.symm (by omega) (by omega) fun M7 h7 k7=>?_
    rw[bu (by omega) (by omega),Nat.add_sub_cancel]
    exact dH _ _ _ (by omega) ⟨k,_,rfl,rfl,by omega,h7,k6'.trans k7,by rw[bP]; exact hs5,hm5⟩
   ·exact out M6 h6 k6' (by rw[if_neg (by simp[h])])
  ·rw[decide_eq_false hg,pq]
   dsimp only
   rw[df,bD]
   refine out M5 h5 k5 ?_
   cases j with
   | zero=>rfl
   | succ k=>rw[Sort.insInner,if_neg (by simp[hg])]
 ·have hge:¬ i<e:=of_decide_eq_false hge
  rw[Sort.insOuter,if_neg hge] at hm
  subst hm
  exact hQ M3 h3 k3
theorem adZ {T:Nat} {fv:AV} : SortG aB T 5 fv Sort.reverseRange (fun _ a e=>a<e) fun args M Q=>∃ a0 a1 a2 a3,args=[a0,a1,a2,a3]∧kG a0 a1 a2 a3 M Q:=by
 intro M b a e d Q hat hsz hae he hP hQ
 refine⟨_,_,_,_,rfl, ?_⟩
 unfold kG
 rw[bu (by omega) (by omega)]
 rw[Sort.reverseRange] at hQ
 obtain⟨R,hR⟩ : ∃ R,R=Sort.reverseLoop a (e - 1) d:=⟨_,rfl⟩
 rw[← hR] at hQ
 refine aI (fun m ys M3=>∃ (i j:Nat) (d3:Array aF),m=j - i∧ys=[N .i64 (i:Int),N .i64 (j:Int)]∧j<d.size∧i≤d.size∧At aB T b d3 M3∧ag [b] M M3∧d3.size=d.size∧R=Sort.reverseLoop i j d3) _ ⟨a,e - 1,d,rfl,rfl,by omega,by omega,hat,ag.refl _ _,rfl,hR⟩ ?_
 rintro next m ys M3 hnext ⟨i,j,d3,rfl,rfl,hj,hi,h3,k3,hs3,hm⟩
 dsimp only[aa]
 rw[ed]
 rw[Sort.reverseLoop] at hm
 refine aG (fun hlt=>?_) (fun hge=>?_)
 ·have hlt:i<j:=of_decide_eq_true hlt
  rw[if_pos hlt] at hm
  rw[h3.rd (z:=5) rfl hs3.symm (by omega),h3.rd (z:=5) rfl hs3.symm (by omega)]
  refine h3.swap (z:=5) rfl hs3.symm (by omega) (by omega) fun M4 h4 k4=>?_
  rw[add1 (by omega),bu (by omega) (by omega)]
  exact hnext _ _ _ (by omega) ⟨i + 1,j - 1,_,rfl,rfl,by omega,by omega,h4,k3.trans k4,by rw[bP]; exact hs3,hm⟩
 ·have hge:¬ i<j:=of_decide_eq_false hge
  rw[if_neg hge] at hm
  subst hm
  exact hQ M3 h3 k3
def abB (T:Nat) (fv:AV) (lt:aF→aF→Bool) (c:aj) : Prop:=∀ {M:RM} {b lo hi first:Nat} {d:Array aF} {Q:ak},At aB T b d M→d.size≤60000→first + hi≤d.size→lo≤1000000→(∀ M',At aB T b (Sort.siftDown lt hi first lo d) M'→ag [b] M M'→Q (.tup []) M') →
 c [sv b d.size 5,N .i64 (lo:Int),N .i64 (hi:Int),N .i64 (first:Int),fv] M Q
theorem aaE {T:Nat} {fv:AV} {lt:aF→aF→Bool} {cv:FuncId→aj} (hl:oF aB lt (bT cv fv)) : abB T fv lt fun args M Q=>∃ a0 a1 a2 a3 a4,args=[a0,a1,a2,a3,a4]∧mE cv a0 a1 a2 a3 a4 M Q:=by
 intro M b lo hi first d Q hat hsz hfe hlo hQ
 refine⟨_,_,_,_,_,rfl, ?_⟩
 unfold mE
 simp only[fB,dY,eP,bR]
 obtain⟨R,hR⟩ : ∃ R,R=Sort.siftDown lt hi first lo d:=⟨_,rfl⟩
 rw[← hR] at hQ
 refine aI (fun m ys M3=>∃ (r:Nat) (d3:Array aF),m=1000000 + hi - r∧ys=[N .i64 (r:Int)]∧(r≤1000000)∧At aB T b d3 M3∧ag [b] M M3∧d3.size=d.size∧R=Sort.siftDown lt hi first r d3) _ ⟨lo,d,rfl,rfl,hlo,hat,ag.refl _ _,rfl,hR⟩ ?_
 rintro next m ys M3 hnext ⟨r,d3,rfl,rfl,hr,h3,k3,hs3,hm⟩
 dsimp only[aa]
 rw[afE (by omega),add1 (by omega),ja]
 rw[Sort.siftDown] at hm
 refine aG (fun hg=>?_) (fun hg=>?_)
 ·rw[dif_pos (of_decide_eq_true hg)] at hm
  subst hm
  exact hQ M3 h3 k3
 have hg:¬ 2 * r + 1 ≥ hi:=of_decide_eq_false hg
 rw[dif_neg hg] at hm
 refine aY (fun zs M'=>∃ c:Nat,zs=[N .i64 (c:Int)]∧At aB T b d3 M'∧ag [b] M M'∧r<c∧c<hi∧R=if !lt d3[first + r]! d3[first + c]! then d3 else Sort.siftDown lt hi first c (Sort.swp d3 (first + r) (first + c))) ?_ ?_
 ·rintro zs M' ⟨c,rfl,h4,k4,hrc,akB,hm2⟩
  dsimp only[aa]
  rw[addN (by omega),h4.rd (z:=5) rfl hs3.symm (by omega),addN (by omega),h4.rd (z:=5) rfl hs3.symm (by omega)]
  refine hl.use fun M5 k5=>?_
  have h5:=h4.keep k5
  have k5':=k4.trans (k5.mono (cs:=[b]) (by simp))
  rw[bH]
  refine aG (fun h=>?_) (fun h=>?_)
  ·rw[if_pos h] at hm2
   subst hm2
   exact hQ M5 h5 k5'
  ·rw[if_neg (by rw[h]; decide)] at hm2
   rw[addN (by omega),addN (by omega),addN (by omega),h5.rd (z:=5) rfl hs3.symm (by omega),addN (by omega),h5.rd (z:=5) rfl hs3.symm (by omega)]
   refine h5.swap (z:=5) rfl hs3.symm (by omega) (by omega) fun M6 h6 k6=>?_
   exact hnext _ _ _ (by omega) ⟨c,_,rfl,rfl,by omega,h6,k5'.trans k6,by rw[bP]; exact hs3,hm2⟩
 intro J hJ
 rw[add1 (by omega),ed]
 refine pR (P:=fun M'=>At aB T b d3 M'∧ag [b] M M') (p:=lt d3[first + (2 * r + 1)]! d3[first + (2 * r + 1) + 1]!) ⟨h3,k3⟩ (fun hc k hk=>?_) fun M4 ⟨h4,k4⟩=>?_
 ·have hc:2 * r + 1 + 1<hi:=of_decide_eq_true hc
  rw[addN (by omega),h3.rd (z:=5) rfl hs3.symm (by omega),addN (by omega),add1 (by omega),h3.rd (z:=5) rfl hs3.symm (by omega)]
  exact hl.use fun M5 k5=>hk M5 ⟨h3.keep k5,k3.trans (k5.mono (cs:=[b]) (by simp))⟩
 refine aG (fun h=>?_) (fun h=>?_)
 ·have hc:2 * r + 1 + 1<hi:=by
   rw[Bool.and_eq_true] at h
   exact of_decide_eq_true h.1
  rw[add1 (by omega)]
  refine hJ _ _ ⟨2 * r + 2,rfl,h4,k4,by omega,by omega, ?_⟩
  rw[if_pos h,dif_pos (by omega)] at hm
  exact hm
 ·refine hJ _ _ ⟨2 * r + 1,rfl,h4,k4,by omega,by omega, ?_⟩
  rw[if_neg (by rw[h]; decide)] at hm
  exact hm
theorem aa9 {T:Nat} {fv:AV} {lt:aF→aF→Bool} {cs:aj} (hs:abB T fv lt cs) : SortG aB T 5 fv (Sort.heapSort lt) (fun _ a e=>a<e) fun args M Q=>∃ a0 a1 a2 a3,args=[a0,a1,a2,a3]∧mF cs a0 a1 a2 a3 M Q:=by
 intro M b a e d Q hat hsz hae he hP hQ
 refine⟨_,_,_,_,rfl, ?_⟩
 unfold mF
 rw[Sort.heapSort] at hQ
 rw[dM hae (by omega),bu (by omega) (by omega),lc]
 refine⟨by decide, ?_⟩
 rw[show(2:Int)=((2:Nat) : Int) from rfl,oU,aW (by omega) (by omega)]
 obtain⟨R,hR⟩ : ∃ R,R=Sort.heapBuild lt (e - a) a ((e - a - 1) / 2 + 1) d:=⟨_,rfl⟩
 rw[← hR] at hQ
 refine aI (fun m ys M3=>∃ (k:Nat) (d3:Array aF),m=k + 1∧ys=[N .i64 ((k:Int) - 1)]∧k≤(e - a - 1) / 2 + 1∧At aB T b d3 M3∧ag [b] M M3∧d3.size=d.size∧R=Sort.heapBuild lt (e - a) a k d3) _ ⟨(e - a - 1) / 2 + 1,d,rfl,by congr 3; omega,Nat.le_refl _,hat,ag.refl _ _,rfl,hR⟩ ?_
 rintro next m ys M3 hnext ⟨k,d3,rfl,rfl,hk,h3,k3,hs3,hm⟩
 dsimp only[aa]
 rw[iK]
 refine aG (fun hg=>?_) (fun hg=>?_)
 ·have hg:1≤k:=by
   have:(k:Int) - 1 ≥ 0:=of_decide_eq_true hg
   omega
  obtain⟨k',rfl⟩ : ∃ k',k=k' + 1:=⟨k - 1,by omega⟩
  rw[Sort.heapBuild] at hm
  rw[show((k' + 1:Nat) : Int) - 1=(k' : Int) by omega,← hs3]
  refine hs h3 (by omega) (by omega) (by omega) fun M4 h4 k4=>?_
  rw[ig,aW (by omega) (by omega)]
  exact hnext _ _ _ (by omega) ⟨k',_,rfl,rfl,by omega,h4,k3.trans k4,by rw[yL lt _ _ (e - a) _ _ (by omega)]; exact hs3,hm⟩
 ·have hk0:k=0:=by
   have:¬ (k:Int) - 1 ≥ 0:=of_decide_eq_false hg
   omega
  subst hk0
  rw[Sort.heapBuild] at hm
  rw[hm] at hQ
  rw[bu (by omega) (by omega)]
  obtain⟨R4,hR4⟩ : ∃ R4,R4=Sort.heapPop lt a (e - a) d3:=⟨_,rfl⟩
  rw[← hR4] at hQ
  refine aI (fun m ys M4=>∃ (k:Nat) (d4:Array aF),m=k + 1∧ys=[N .i64 ((k:Int) - 1)]∧k≤e - a∧At aB T b d4 M4∧ag [b] M M4∧d4.size=d.size∧R4=Sort.heapPop lt a k d4) _ ⟨e - a,d3,rfl,by congr 3; omega,Nat.le_refl _,h3,k3,hs3,hR4⟩ ?_
  rintro gT m ys M4 dH ⟨k,d4,rfl,rfl,hk,h4,k4,hs4,hm4⟩
  dsimp only[aa]
  rw[iK]
  refine aG (fun hg=>?_) (fun hg=>?_)
  ·have hg:1≤k:=by
    have:(k:Int) - 1 ≥ 0:=of_decide_eq_true hg
    omega
   obtain⟨k',rfl⟩ : ∃ k',k=k' + 1:=⟨k - 1,by omega⟩
   rw[Sort.heapPop] at hm4
   rw[show((k' + 1:Nat) : Int) - 1=(k' : Int) by omega,addN (by omega),addN (by omega),h4.rd (z:=5) rfl hs4.symm (by omega),h4.rd (z:=5) rfl hs4.symm (by omega)]
   refine h4.swap (z:=5) rfl hs4.symm (by omega) (by omega) fun M5 h5 k5=>?_
   rw[show d.size=(Sort.swp d4 a (a + k')).size by rw[bP]; exact hs4.symm]
   refine hs (lo:=0) h5 (by rw[bP]; omega) (by rw[bP]; omega) (by decide) fun M6 h6 k6=>?_
   rw[ig,aW (by omega) (by omega)]
   exact dH _ _ _ (by omega) ⟨k',_,rfl,rfl,by omega,h6,(k4.trans k5).trans k6,by rw[yL lt _ _ k' _ _ (by omega),bP]; exact hs4,hm4⟩
  ·have hk0:k=0:=by
    have:¬ (k:Int) - 1 ≥ 0:=of_decide_eq_false hg
    omega
   subst hk0
   rw[Sort.heapPop] at hm4
   subst hm4
   exact hQ M4 h4 k4
def QH (T:Nat) (fv:AV) (lt:aF→aF→Bool) (c:aj) : Prop:=∀ {M:RM} {b a e pv:Nat} {d:Array aF} {Q:ak},At aB T b d M→d.size≤60000→a≤pv→pv<e→e≤d.size→(∀ M',At aB T b (Sort.partitionEqual lt d a e pv).2 M'→ag [b] M M'→Q (N .i64 (((Sort.partitionEqual lt d a e pv).1:Nat) : Int)) M') →
 c [sv b d.size 5,N .i64 (a:Int),N .i64 (e:Int),N .i64 (pv:Int),fv] M Q
theorem O4 {T:Nat} {fv:AV} {lt:aF→aF→Bool} {cv:FuncId→aj} (hl:oF aB lt (bT cv fv)) : QH T fv lt fun args M Q=>∃ a0 a1 a2 a3 a4,args=[a0,a1,a2,a3,a4]∧jA cv a0 a1 a2 a3 a4 M Q:=by
 intro M b a e pv d Q hat hsz hap hpe he hQ
 refine⟨_,_,_,_,_,rfl, ?_⟩
 unfold jA
 simp only[fB,dY,eP]
 rw[Sort.partitionEqual] at hQ
 rw[hat.rd (z:=5) rfl rfl (by omega),hat.rd (z:=5) rfl rfl (by omega)]
 refine hat.swap (z:=5) rfl rfl (by omega) (by omega) fun M2 h2 k2=>?_
 rw[add1 (by omega),bu (by omega) (by omega)]
 obtain⟨R,hR⟩ : ∃ R,R=Sort.partEqLoop lt a (a + 1) (e - 1) (Sort.swp d a pv):=⟨_,rfl⟩
 rw[← hR] at hQ
 refine aI (fun m ys M3=>∃ (i j:Nat) (d3:Array aF),m=j + 1 - i∧ys=[N .i64 (i:Int),N .i64 (j:Int)]∧a + 1≤i∧i≤e + 1∧j<e∧At aB T b d3 M3∧ag [b] M M3∧d3.size=d.size∧R=Sort.partEqLoop lt a i j d3) _ ⟨a + 1,e - 1,_,rfl,rfl,Nat.le_refl _,by omega,by omega,h2,k2,bP _ _ _,hR⟩ ?_
 rintro next m ys M3 hnext ⟨i,j,d3,rfl,rfl,hai,hie,hje,h3,k3,hs3,hm⟩
 dsimp only[aa]
 rw[Sort.partEqLoop] at hm
 refine zT (P:=fun M'=>At aB T b d3 M'∧ag [b] M M') (p:=fun x=>!lt d3[a]! x) (d:=d3) (J:=j) ⟨h3,k3⟩ fun gT i2 M4 ⟨h4,k4⟩ h0 h1 hgo hstop=>?_
 dsimp only[aa]
 rw[jR]
 refine pR (P:=fun M'=>At aB T b d3 M'∧ag [b] M M') (p:=!lt d3[a]! d3[i2]!) ⟨h4,k4⟩ (fun hc k hk=>?_) fun M5 h5=>?_
 ·have hc:i2≤j:=of_decide_eq_true hc
  rw[h4.rd (z:=5) rfl hs3.symm (by omega),h4.rd (z:=5) rfl hs3.symm (by omega)]
  refine hl.use fun M5 k5=>?_
  rw[bH]
  exact hk M5 ⟨h4.keep k5,k4.trans (k5.mono (cs:=[b]) (by simp))⟩
 refine aG (fun h=>?_) (fun h=>?_)
 ·rw[add1 (by omega)]
  exact hgo h M5 h5
 have hi2:=hstop h
 rw[← hi2] at hm
 refine uU (P:=fun M'=>At aB T b d3 M'∧ag [b] M M') (p:=fun x=>lt d3[a]! x) (d:=d3) (i:=i2) h5 (by omega) fun qp j2 M6 ⟨h6,k6⟩ q0 q1 qN kE=>?_
 dsimp only[aa]
 rw[jR]
 refine pR (P:=fun M'=>At aB T b d3 M'∧ag [b] M M') (p:=lt d3[a]! d3[j2]!) ⟨h6,k6⟩ (fun hc k hk=>?_) fun M7 ⟨h7,k7⟩=>?_
 ·have hc:i2≤j2:=of_decide_eq_true hc
  rw[h6.rd (z:=5) rfl hs3.symm (by omega),h6.rd (z:=5) rfl hs3.symm (by omega)]
  exact hl.use fun M5 k5=>hk M5 ⟨h6.keep k5,k6.trans (k5.mono (cs:=[b]) (by simp))⟩
 refine aG (fun h=>?_) (fun h=>?_)
 ·have hc:i2≤j2:=by
   rw[Bool.and_eq_true] at h
   exact of_decide_eq_true h.1
  rw[bu (by omega) (by omega)]
  exact qN h M7 ⟨h7,k7⟩
 have hj2:=kE h
 simp only[← hj2] at hm
 rw[pG]
 refine aG (fun hg=>?_) (fun hg=>?_)
 ·rw[if_pos (of_decide_eq_true hg)] at hm
  rw[hm] at hQ
  exact hQ M7 h7 k7
 ·have hg:¬ i2 > j2:=of_decide_eq_false hg
  rw[if_neg hg,dif_pos (by omega)] at hm
  rw[h7.rd (z:=5) rfl hs3.symm (by omega),h7.rd (z:=5) rfl hs3.symm (by omega)]
  refine h7.swap (z:=5) rfl hs3.symm (by omega) (by omega) fun M8 h8 k8=>?_
  rw[add1 (by omega),bu (by omega) (by omega)]
  exact hnext _ _ _ (by omega) ⟨i2 + 1,j2 - 1,_,rfl,rfl,by omega,by omega,by omega,h8,k7.trans k8,by rw[bP,hs3],hm⟩
def abw (T:Nat) (fv:AV) (lt:aF→aF→Bool) (c:aj) : Prop:=∀ {M:RM} {b a e pv:Nat} {d:Array aF} {Q:ak},At aB T b d M→d.size≤60000→a≤pv→pv<e→e≤d.size→(∀ M',At aB T b (Sort.partition lt d a e pv).2.2 M'→ag [b] M M'→Q (.tup [N .i64 (((Sort.partition lt d a e pv).1:Nat) : Int),Bo (Sort.partition lt d a e pv).2.1]) M') →
 c [sv b d.size 5,N .i64 (a:Int),N .i64 (e:Int),N .i64 (pv:Int),fv] M Q
theorem aba {T:Nat} {fv:AV} {lt:aF→aF→Bool} {cv:FuncId→aj} (hl:oF aB lt (bT cv fv)) : abw T fv lt fun args M Q=>∃ a0 a1 a2 a3 a4,args=[a0,a1,a2,a3,a4]∧mf cv a0 a1 a2 a3 a4 M Q:=by
 intro M b a e pv d Q hat hsz hap hpe he hQ
 refine⟨_,_,_,_,_,rfl, ?_⟩
 unfold mf
 simp only[fB,dY,eP]
 have hs2:=bP d a pv
 rw[xu] at hQ
 rw[hat.rd (z:=5) rfl rfl (by omega),hat.rd (z:=5) rfl rfl (by omega)]
 refine hat.swap (z:=5) rfl rfl (by omega) (by omega) fun M2 h2 k2=>?_
 rw[add1 (by omega),bu (by omega) (by omega)]
 generalize Sort.swp d a pv=d2 at *
 refine zT (P:=fun M'=>At aB T b d2 M'∧ag [b] M M') (p:=fun x=>lt x d2[a]!) (d:=d2) (J:=e - 1) ⟨h2,k2⟩ fun gT i M3 ⟨h3,k3⟩ h0 h1 hgo hstop=>?_
 dsimp only[aa]
 rw[jR]
 refine pR (P:=fun M'=>At aB T b d2 M'∧ag [b] M M') (p:=lt d2[i]! d2[a]!) ⟨h3,k3⟩ (fun hc k hk=>?_) fun M4 h4=>?_
 ·have hc:i≤e - 1:=of_decide_eq_true hc
  rw[h3.rd (z:=5) rfl hs2.symm (by omega),h3.rd (z:=5) rfl hs2.symm (by omega)]
  exact hl.use fun M5 k5=>hk M5 ⟨h3.keep k5,k3.trans (k5.mono (cs:=[b]) (by simp))⟩
 refine aG (fun h=>?_) (fun h=>?_)
 ·rw[add1 (by omega)]
  exact hgo h M4 h4
 have hi2:i=pI lt d2 a e:=hstop h
 have Fh:pJ lt d2 a e=Sort.scanDown (fun x=>!lt x d2[a]!) d2 (pI lt d2 a e) (e - 1):=rfl
 have Fz:pL lt d2 a e=Sort.partLoop lt a (pI lt d2 a e + 1) (pJ lt d2 a e - 1) (Sort.swp d2 (pI lt d2 a e) (pJ lt d2 a e)):=rfl
 rw[← hi2] at Fh Fz hQ
 refine uU (P:=fun M'=>At aB T b d2 M'∧ag [b] M M') (p:=fun x=>!lt x d2[a]!) (d:=d2) (i:=i) h4 (by omega) fun qp j M5 ⟨h5,k5⟩ q0 q1 qN kE=>?_
 dsimp only[aa]
 rw[jR]
 refine pR (P:=fun M'=>At aB T b d2 M'∧ag [b] M M') (p:=!lt d2[j]! d2[a]!) ⟨h5,k5⟩ (fun hc k hk=>?_) fun M6 ⟨h6,k6⟩=>?_
 ·have hc:i≤j:=of_decide_eq_true hc
  rw[h5.rd (z:=5) rfl hs2.symm (by omega),h5.rd (z:=5) rfl hs2.symm (by omega)]
  refine hl.use fun M7 k7=>?_
  rw[bH]
  exact hk M7 ⟨h5.keep k7,k5.trans (k7.mono (cs:=[b]) (by simp))⟩
 refine aG (fun h=>?_) (fun h=>?_)
 ·have hc:i≤j:=by
   rw[Bool.and_eq_true] at h
   exact of_decide_eq_true h.1
  rw[bu (by omega) (by omega)]
  exact qN h M6 ⟨h6,k6⟩
 have hj2:=kE h
 rw[← hj2] at Fh
 rw[Fh] at Fz hQ
 rw[pG]
 refine aG (fun hg=>?_) (fun hg=>?_)
 ·rw[if_pos (of_decide_eq_true hg)] at hQ
  rw[h6.rd (z:=5) rfl hs2.symm (by omega),h6.rd (z:=5) rfl hs2.symm (by omega)]
  exact h6.swap (z:=5) rfl hs2.symm (by omega) (by omega) fun M7 h7 k7=>hQ M7 h7 (k6.trans k7)
 have hg:¬ i > j:=of_decide_eq_false hg
 rw[if_neg hg] at hQ
 rw[h6.rd (z:=5) rfl hs2.symm (by omega),h6.rd (z:=5) rfl hs2.symm (by omega)]
 refine h6.swap (z:=5) rfl hs2.symm (by omega) (by omega) fun M7 h7 k7=>?_
 rw[add1 (by omega),bu (by omega) (by omega)]
 generalize pL lt d2 a e=R at *
 refine aI (fun m ys M3=>∃ (i j:Nat) (d3:Array aF),m=j + 1 - i∧ys=[N .i64 (i:Int),N .i64 (j:Int)]∧a + 1≤i∧i≤e + 1∧j<e∧At aB T b d3 M3∧ag [b] M M3∧d3.size=d.size∧R=Sort.partLoop lt a i j d3) _ ⟨i + 1,j - 1,_,rfl,rfl,by omega,by omega,by omega,h7,k6.trans k7,by rw[bP,hs2],Fz⟩ ?_
 rintro next m ys M3 hnext ⟨i,j,d3,rfl,rfl,hai,hie,hje,h3,k3,hs3,hm⟩
 dsimp only[aa]
 rw[Sort.partLoop] at hm
 refine zT (P:=fun M'=>At aB T b d3 M'∧ag [b] M M') (p:=fun x=>lt x d3[a]!) (d:=d3) (J:=j) ⟨h3,k3⟩ fun gT i2 M4 ⟨h4,k4⟩ h0 h1 hgo hstop=>?_
 dsimp only[aa]
 rw[jR]
 refine pR (P:=fun M'=>At aB T b d3 M'∧ag [b] M M') (p:=lt d3[i2]! d3[a]!) ⟨h4,k4⟩ (fun hc k hk=>?_) fun M5 h5=>?_
 ·have hc:i2≤j:=of_decide_eq_true hc
  rw[h4.rd (z:=5) rfl hs3.symm (by omega),h4.rd (z:=5) rfl hs3.symm (by omega)]
  exact hl.use fun M5 k5=>hk M5 ⟨h4.keep k5,k4.trans (k5.mono (cs:=[b]) (by simp))⟩
 refine aG (fun h=>?_) (fun h=>?_)
 ·rw[add1 (by omega)]
  exact hgo h M5 h5
 have hi2:=hstop h
 rw[← hi2] at hm
 refine uU (P:=fun M'=>At aB T b d3 M'∧ag [b] M M') (p:=fun x=>!lt x d3[a]!) (d:=d3) (i:=i2) h5 (by omega) fun qp j2 M6 ⟨h6,k6⟩ q0 q1 qN kE=>?_
 dsimp only[aa]
 rw[jR]
 refine pR (P:=fun M'=>At aB T b d3 M'∧ag [b] M M') (p:=!lt d3[j2]! d3[a]!) ⟨h6,k6⟩ (fun hc k hk=>?_) fun M7 ⟨h7,k7⟩=>?_
 ·have hc:i2≤j2:=of_decide_eq_true hc
  rw[h6.rd (z:=5) rfl hs3.symm (by omega),h6.rd (z:=5) rfl hs3.symm (by omega)]
  refine hl.use fun M8 k8=>?_
  rw[bH]
  exact hk M8 ⟨h6.keep k8,k6.trans (k8.mono (cs:=[b]) (by simp))⟩
 refine aG (fun h=>?_) (fun h=>?_)
 ·have hc:i2≤j2:=by
   rw[Bool.and_eq_true] at h
   exact of_decide_eq_true h.1
  rw[bu (by omega) (by omega)]
  exact qN h M7 ⟨h7,k7⟩
 have hj2:=kE h
 simp only[← hj2] at hm
 rw[pG]
 refine aG (fun hg=>?_) (fun hg=>?_)
 ·rw[if_pos (of_decide_eq_true hg)] at hm
  rw[hm] at hQ
  rw[h7.rd (z:=5) rfl hs3.symm (by omega),h7.rd (z:=5) rfl hs3.symm (by omega)]
  exact h7.swap (z:=5) rfl hs3.symm (by omega) (by omega) fun M8 h8 k8=>hQ M8 h8 (k7.trans k8)
 ·have hg:¬ i2 > j2:=of_decide_eq_false hg
  rw[if_neg hg,dif_pos (by omega)] at hm
  rw[h7.rd (z:=5) rfl hs3.symm (by omega),h7.rd (z:=5) rfl hs3.symm (by omega)]
  refine h7.swap (z:=5) rfl hs3.symm (by omega) (by omega) fun M8 h8 k8=>?_
  rw[add1 (by omega),bu (by omega) (by omega)]
  exact hnext _ _ _ (by omega) ⟨i2 + 1,j2 - 1,_,rfl,rfl,by omega,by omega,by omega,h8,k7.trans k8,by rw[bP,hs3],hm⟩
def Nn (T TI b s:Nat) (d:Array aF) (k:Nat) (M:RM) : Prop:=At aB T b d M∧M.heap s=some (.row [N .i64 (k:Int)] false TI 0)∧s<M.next
def QB (T TI:Nat) (fv:AV) (lt:aF→aF→Bool) (c:aj) : Prop:=∀ {M:RM} {b s k i j:Nat} {d:Array aF} {Q:ak},Nn T TI b s d k M→s≠b→i<d.size→j<d.size→k≤1000 →
 (∀ M',Nn T TI b s d (Sort.order2 lt d i j k).2.2 M'→ag [s] M M'→Q (.tup [N .i64 (((Sort.order2 lt d i j k).1:Nat) : Int),N .i64 (((Sort.order2 lt d i j k).2.1:Nat) : Int)]) M')→c [sv b d.size 5,N .i64 (i:Int),N .i64 (j:Int),.ptr s 0,fv] M Q
theorem Pv {T TI:Nat} {fv:AV} {lt:aF→aF→Bool} {cv:FuncId→aj} (hl:oF aB lt (bT cv fv)) : QB T TI fv lt fun args M Q=>∃ a0 a1 a2 a3 a4,args=[a0,a1,a2,a3,a4]∧oV cv a0 a1 a2 a3 a4 M Q:=by
 intro M b s k i j d Q ⟨hat,hh,hlt⟩ hsb hi hj hk hQ
 refine⟨_,_,_,_,_,rfl, ?_⟩
 unfold oV
 rw[hat.rd (z:=5) rfl rfl (by omega),hat.rd (z:=5) rfl rfl (by omega)]
 refine hl.use fun M1 k1=>?_
 have h1:=hat.keep k1
 have hh1:=k1.aP hh hlt (by simp)
 have n1:=k1.next
 unfold Sort.order2 at hQ
 refine aG (fun h=>?_) (fun h=>?_)
 ·rw[if_pos h] at hQ
  rw[aM,az hh1 rfl,add1 (by omega),aM,fG hh1 (by simp) rfl rfl]
  have kk:ag [s] M1 (M1.put s (.row ([N .i64 (k:Int)].set 0 (N .i64 ((k + 1:Nat) : Int))) false TI 0)):=(ag.refl _ _).put _ (.inr (by simp))
  refine hQ _ ⟨h1.keep' kk (by simp; omega),aR _,by rw[lX]; omega⟩ ((k1.mono (by simp)).trans kk)
 ·rw[if_neg (by rw[h]; decide)] at hQ
  exact hQ M1 ⟨h1,hh1,by omega⟩ (k1.mono (by simp))
def IQ (T TI:Nat) (fv:AV) (lt:aF→aF→Bool) (c:aj) : Prop:=∀ {M:RM} {b s k i j h:Nat} {d:Array aF} {Q:ak},Nn T TI b s d k M→s≠b→i<d.size→j<d.size→h<d.size→k≤900 →
 (∀ M',Nn T TI b s d (Sort.median lt d i j h k).2 M'→ag [s] M M'→Q (N .i64 (((Sort.median lt d i j h k).1:Nat) : Int)) M')→c [sv b d.size 5,N .i64 (i:Int),N .i64 (j:Int),N .i64 (h:Int),.ptr s 0,fv] M Q
theorem Jj {T TI:Nat} {fv:AV} {lt:aF→aF→Bool} {c2:aj} (h2:QB T TI fv lt c2) : IQ T TI fv lt fun args M Q=>∃ a0 a1 a2 a3 a4 a5,args=[a0,a1,a2,a3,a4,a5]∧oL c2 a0 a1 a2 a3 a4 a5 M Q:=by
 intro M b s k i j h d Q hsw hsb hi hj hh hk hQ
 refine⟨_,_,_,_,_,_,rfl, ?_⟩
 unfold oL
 unfold Sort.median at hQ
 have o1:=uL lt d i j k
 refine h2 hsw hsb hi hj (by omega) fun M1 s1 k1=>?_
 rw[lM,lH]
 dsimp only at hQ
 generalize Sort.order2 lt d i j k=r1 at *
 have o2:=uL lt d r1.2.1 h r1.2.2
 refine h2 s1 hsb (by omega) hh (by omega) fun M2 s2 k2=>?_
 rw[lM,lH]
 generalize Sort.order2 lt d r1.2.1 h r1.2.2=r2 at *
 refine h2 s2 hsb (by omega) (by omega) (by omega) fun M3 s3 k3=>?_
 rw[lM,lH]
 exact hQ M3 s3 ((k1.trans k2).trans k3)
def QA (T TI:Nat) (fv:AV) (lt:aF→aF→Bool) (c:aj) : Prop:=∀ {M:RM} {b s k i:Nat} {d:Array aF} {Q:ak},Nn T TI b s d k M→s≠b→d.size≤60000→1≤i→i + 1<d.size→k≤900 →
 (∀ M',Nn T TI b s d (Sort.medianAdjacent lt d i k).2 M'→ag [s] M M'→Q (N .i64 (((Sort.medianAdjacent lt d i k).1:Nat) : Int)) M')→c [sv b d.size 5,N .i64 (i:Int),.ptr s 0,fv] M Q
theorem Qi {T TI:Nat} {fv:AV} {lt:aF→aF→Bool} {cm:aj} (hm:IQ T TI fv lt cm) : QA T TI fv lt fun args M Q=>∃ a0 a1 a2 a3,args=[a0,a1,a2,a3]∧jD cm a0 a1 a2 a3 M Q:=by
 intro M b s k i d Q hsw hsb hsz h1 h2 hk hQ
 refine⟨_,_,_,_,rfl, ?_⟩
 unfold jD
 rw[bu (by omega) (by omega),add1 (by omega)]
 exact hm hsw hsb (by omega) (by omega) (by omega) hk fun M1 s1 k1=>hQ M1 s1 k1
def EN (lt:aF→aF→Bool) (d:Array aF) (a e:Nat) : Nat × Nat :=
 if e - a ≥ 8 then(if e - a ≥ 50 then Sort.median lt d (Sort.medianAdjacent lt d (a + (e - a) / 4 * 1) 0).1 (Sort.medianAdjacent lt d (a + (e - a) / 4 * 2) (Sort.medianAdjacent lt d (a + (e - a) / 4 * 1) 0).2).1 (Sort.medianAdjacent lt d (a + (e - a) / 4 * 3) (Sort.medianAdjacent lt d (a + (e - a) / 4 * 2) (Sort.medianAdjacent lt d (a + (e - a) / 4 * 1) 0).2).2).1 (Sort.medianAdjacent lt d (a + (e - a) / 4 * 3) (Sort.medianAdjacent lt d (a + (e - a) / 4 * 2) (Sort.medianAdjacent lt d (a + (e - a) / 4 * 1) 0).2).2).2
  else Sort.median lt d (a + (e - a) / 4 * 1) (a + (e - a) / 4 * 2) (a + (e - a) / 4 * 3) 0) else(a + (e - a) / 4 * 2,0)
theorem aei (lt:aF→aF→Bool) (d:Array aF) (a e:Nat) : Sort.choosePivot lt d a e=((EN lt d a e).1,if (EN lt d a e).2=0 then .increasing else if (EN lt d a e).2=12 then .decreasing else .unknown):=rfl
def QQ (T:Nat) (fv:AV) (lt:aF→aF→Bool) (c:aj) : Prop:=∀ {M:RM} {b a e:Nat} {d:Array aF} {Q:ak},At aB T b d M→d.size≤60000→a<e→e≤d.size →
 (∀ M',At aB T b d M'→ag [] M M'→Q (.tup [N .i64 (((Sort.choosePivot lt d a e).1:Nat) : Int),N .i64 (mr (Sort.choosePivot lt d a e).2)]) M')→c [sv b d.size 5,N .i64 (a:Int),N .i64 (e:Int),fv] M Q
theorem Pw {T TI:Nat} {fv:AV} {lt:aF→aF→Bool} {ca cm:aj} (ha:QA T TI fv lt ca) (hm:IQ T TI fv lt cm) : QQ T fv lt fun args M Q=>∃ a0 a1 a2 a3,args=[a0,a1,a2,a3]∧lg TI ca cm a0 a1 a2 a3 M Q:=by
 intro M b a e d Q hat hsz hae he hQ
 refine⟨_,_,_,_,rfl, ?_⟩
 unfold lg
 simp only[bR]
 rw[dM (by omega) (by omega),bB]
 have kk:ag [] M (M.push (.row [N .i64 0] false TI 0)):=(ag.refl _ _).push _
 have sw0:Nn T TI b M.next d 0 (M.push (.row [N .i64 0] false TI 0)):=⟨hat.keep kk,RM.aS _,by simp[RM.push]⟩
 have hsb:M.next≠b:=by have:=hat.lt; omega
 have back:∀ M',ag [M.next] (M.push (.row [N .i64 0] false TI 0)) M'→ag [] M M':=fun M' k=>kk.dK k fun c hc=>.inl (by simp at hc; omega)
 generalize M.push (.row [N .i64 0] false TI 0)=M1 at *
 generalize M.next=s at *
 have hq:∀ (k:Nat) (c:Int),c=(k:Int)→k≤3→∀ (K:AV→Prop),(ae .quo (N .i64 ((e - a:Nat) : Int)) (N .i64 4) fun t18=>ae .mul t18 (N .i64 c) fun t19=>ae .add (N .i64 (a:Int)) t19 K)=K (N .i64 ((a + (e - a) / 4 * k:Nat) : Int)):=fun k c hc hk K=>by
  subst hc
  have hb:(e - a) / 4 * k≤(e - a) * 3:=Nat.mul_le_mul (Nat.div_le_self _ _) hk
  rw[lc,show(4:Int)=((4:Nat) : Int) from rfl,oU,aW (by omega) (by omega),uO,← Int.natCast_mul,aW (by omega) (by omega),addN (by omega)]
  exact propext ⟨fun h=>h.2,fun h=>⟨by decide,h⟩⟩
 rw[hq 1 1 rfl (by omega),hq 2 2 rfl (by omega),hq 3 3 rfl (by omega)]
 rw[aei] at hQ
 have hr:EN lt d a e=EN lt d a e:=rfl
 conv at hr=>rhs; unfold EN
 generalize EN lt d a e=r at *
 refine aY (fun zs M'=>zs=[N .i64 ((r.1:Nat) : Int)]∧Nn T TI b s d r.2 M'∧ag [s] M1 M') ?_ ?_
 ·rintro zs M' ⟨rfl,⟨h3,hh,_⟩,k3⟩
  dsimp only[aa]
  have:=hQ M' h3 (back M' k3)
  rw[az hh rfl,bU]
  by_cases h0:r.2=0
  ·rw[show((r.2:Int) == 0)=true by rw[h0]; rfl,dD]
   rw[if_pos h0] at this
   exact this
  ·rw[show((r.2:Int) == 0)=false by rw[beq_eq_false_iff_ne]; omega,bD,bU]
   rw[if_neg h0] at this
   by_cases h12:r.2=12
   ·rw[show((r.2:Int) == 12)=true by rw[h12]; rfl,dD]
    rw[if_pos h12] at this
    exact this
   ·rw[show((r.2:Int) == 12)=false by rw[beq_eq_false_iff_ne]; omega,bD]
    rw[if_neg h12] at this
    exact this
 intro J hJ
 rw[show(8:Int)=((8:Nat) : Int) from rfl,ja]
 refine aG (fun h8=>?_) (fun h8=>?_)
 ·have h8:e - a ≥ 8:=of_decide_eq_true h8
  rw[if_pos h8] at hr
  refine aY (fun zs M'=>∃ x y z k:Nat,zs=[N .i64 (x:Int),N .i64 (y:Int),N .i64 (z:Int)]∧Nn T TI b s d k M'∧ag [s] M1 M'∧x<d.size∧y<d.size∧z<d.size∧k≤900∧r=Sort.median lt d x y z k) ?_ ?_
  ·rintro zs M' ⟨x,y,z,k,rfl,s3,k3,hx,hy,hz,hk,rfl⟩
   dsimp only[aa]
   exact hm s3 hsb hx hy hz hk fun M4 s4 k4=>hJ _ _ ⟨rfl,s4,k3.trans k4⟩
  intro J0 hJ0
  rw[show(50:Int)=((50:Nat) : Int) from rfl,ja]
  refine aG (fun h50=>?_) (fun h50=>?_)
  ·have h50:e - a ≥ 50:=of_decide_eq_true h50
   rw[if_pos h50] at hr
   have m1:=xw lt d (i:=a + (e - a) / 4 * 1 - 1) (j:=a + (e - a) / 4 * 1) (h:=a + (e - a) / 4 * 1 + 1) (k:=0) (n:=d.size) (by omega) (by omega) (by omega)
   have r1:(Sort.medianAdjacent lt d (a + (e - a) / 4 * 1) 0).1<d.size∧(Sort.medianAdjacent lt d (a + (e - a) / 4 * 1) 0).2≤0 + 3:=m1
   refine ha sw0 hsb hsz (by omega) (by omega) (by omega) fun M2 s2 k2=>?_
   generalize Sort.medianAdjacent lt d (a + (e - a) / 4 * 1) 0=q1 at *
   have m2:=xw lt d (i:=a + (e - a) / 4 * 2 - 1) (j:=a + (e - a) / 4 * 2) (h:=a + (e - a) / 4 * 2 + 1) (k:=q1.2) (n:=d.size) (by omega) (by omega) (by omega)
   have r2:(Sort.medianAdjacent lt d (a + (e - a) / 4 * 2) q1.2).1<d.size∧(Sort.medianAdjacent lt d (a + (e - a) / 4 * 2) q1.2).2≤q1.2 + 3:=m2
   refine ha s2 hsb hsz (by omega) (by omega) (by omega) fun M3 s3 k3=>?_
   generalize Sort.medianAdjacent lt d (a + (e - a) / 4 * 2) q1.2=q2 at *
   have m3:=xw lt d (i:=a + (e - a) / 4 * 3 - 1) (j:=a + (e - a) / 4 * 3) (h:=a + (e - a) / 4 * 3 + 1) (k:=q2.2) (n:=d.size) (by omega) (by omega) (by omega)
   have r3:(Sort.medianAdjacent lt d (a + (e - a) / 4 * 3) q2.2).1<d.size∧(Sort.medianAdjacent lt d (a + (e - a) / 4 * 3) q2.2).2≤q2.2 + 3:=m3
   refine ha s3 hsb hsz (by omega) (by omega) (by omega) fun M4 s4 k4=>?_
   generalize Sort.medianAdjacent lt d (a + (e - a) / 4 * 3) q2.2=q3 at *
   exact hJ0 _ _ ⟨q1.1,q2.1,q3.1,q3.2,rfl,s4,(k2.trans k3).trans k4,r1.1,r2.1,r3.1,by omega,hr⟩
  ·have h50:¬ e - a ≥ 50:=of_decide_eq_false h50
   rw[if_neg h50] at hr
   exact hJ0 _ _ ⟨_,_,_,0,rfl,sw0,ag.refl _ _,by omega,by omega,by omega,by omega,hr⟩
 ·have h8:¬ e - a ≥ 8:=of_decide_eq_false h8
  rw[if_neg h8] at hr
  subst hr
  exact hJ _ _ ⟨rfl,sw0,ag.refl _ _⟩
def KF (T:Nat) (fv:AV) (lt:aF→aF→Bool) (c:aj) : Prop:=∀ {M:RM} {b a e:Nat} {d:Array aF} {Q:ak},At aB T b d M→d.size≤60000→a<e→e≤d.size→(∀ M',At aB T b (Sort.partialInsertionSort lt d a e).1 M'→ag [b] M M'→Q (Bo (Sort.partialInsertionSort lt d a e).2) M') →
 c [sv b d.size 5,N .i64 (a:Int),N .i64 (e:Int),fv] M Q
theorem Mg {T:Nat} {fv:AV} {lt:aF→aF→Bool} {cv:FuncId→aj} (hl:oF aB lt (bT cv fv)) : KF T fv lt fun args M Q=>∃ a0 a1 a2 a3,args=[a0,a1,a2,a3]∧gV cv a0 a1 a2 a3 M Q:=by
 intro M b a e d Q hat hsz hae he hQ
 refine⟨_,_,_,_,rfl, ?_⟩
 unfold gV
 simp only[fB,dY,eP,bR]
 rw[add1 (by omega)]
 unfold Sort.partialInsertionSort at hQ
 obtain⟨R,hR⟩ : ∃ R,R=Sort.partialIns lt a e 5 (a + 1) d:=⟨_,rfl⟩
 rw[← hR] at hQ
 refine aI (fun m ys M3=>∃ (i s:Nat) (d3:Array aF),m=s∧s≤5∧ys=[N .i64 (i:Int),N .i64 ((5 - s:Nat) : Int)]∧a + 1≤i∧i≤e∧At aB T b d3 M3∧ag [b] M M3∧d3.size=d.size∧R=Sort.partialIns lt a e s i d3) _ ⟨a + 1,5,d,rfl,by omega,rfl,by omega,by omega,hat,ag.refl _ _,rfl,hR⟩ ?_
 rintro next m ys M3 hnext ⟨i,s,d3,hms,hs5,rfl,hai,hie,h3,k3,hs3,hm⟩
 dsimp only[aa]
 rw[show(5:Int)=((5:Nat) : Int) from rfl,ed]
 refine aG (fun hg=>?_) (fun hg=>?_)
 ·have hg:5 - s<5:=of_decide_eq_true hg
  obtain⟨s',rfl⟩ : ∃ s',s=s' + 1:=⟨s - 1,by omega⟩
  rw[vU] at hm
  refine aY (fun zs M'=>∃ (i' : Nat) (d4:Array aF),zs=[N .i64 (i' : Int)]∧a + 1≤i'∧i'≤e∧At aB T b d4 M'∧ag [b] M M'∧d4.size=d.size∧R=Sort.partialIns lt a e s' i' d4) ?_ ?_
  ·rintro zs M' ⟨i',d4,rfl,h1,h2,h4,k4,h5,h6⟩
   dsimp only[aa]
   rw[add1 (by omega)]
   exact hnext _ _ _ (by omega) ⟨i',s',d4,rfl,by omega,by congr 4; omega,h1,h2,h4,k4,h5,h6⟩
  intro J hJ
  obtain⟨R5,hR5⟩ : ∃ R5,R5=Sort.scanSorted lt d3 e i:=⟨_,rfl⟩
  rw[← hR5] at hm
  refine aI (fun m ys M5=>∃ (j:Nat),m=e - j∧ys=[N .i64 (j:Int)]∧i≤j∧j≤e∧At aB T b d3 M5∧ag [b] M M5∧R5=Sort.scanSorted lt d3 e j) _ ⟨i,rfl,rfl,Nat.le_refl _,hie,h3,k3,hR5⟩ ?_
  rintro gT m ys M5 dH ⟨j,rfl,rfl,hij,hje,h5,k5,hm5⟩
  dsimp only[aa]
  rw[Sort.scanSorted] at hm5
  rw[ed]
  refine pR (P:=fun M'=>At aB T b d3 M'∧ag [b] M M') (p:=!lt d3[j]! d3[j - 1]!) ⟨h5,k5⟩ (fun hc k hk=>?_) fun M6 ⟨h6,k6⟩=>?_
  ·have hc:j<e:=of_decide_eq_true hc
   rw[h5.rd (z:=5) rfl hs3.symm (by omega),bu (by omega) (by omega),h5.rd (z:=5) rfl hs3.symm (by omega)]
   refine hl.use fun M7 k7=>?_
   rw[bH]
   exact hk M7 ⟨h5.keep k7,k5.trans (k7.mono (cs:=[b]) (by simp))⟩
  refine aG (fun h=>?_) (fun h=>?_)
  ·have hc:j<e:=by
    rw[Bool.and_eq_true] at h
    exact of_decide_eq_true h.1
   rw[if_pos h] at hm5
   rw[add1 (by omega)]
   exact dH _ _ _ (by omega) ⟨j + 1,rfl,rfl,by omega,by omega,h6,k6,hm5⟩
  rw[if_neg (by rw[h]; decide)] at hm5
  subst hm5
  rw[Qv]
  refine aG (fun qZ=>?_) (fun qZ=>?_)
  ·rw[if_pos (of_decide_eq_true qZ)] at hm
   rw[hm] at hQ
   exact hQ M6 h6 k6
  have qZ:¬ R5=e:=of_decide_eq_false qZ
  rw[if_neg qZ] at hm
  rw[dM (by omega) (by omega),show(50:Int)=((50:Nat) : Int) from rfl,ed]
  refine aG (fun h50=>?_) (fun h50=>?_)
  ·rw[if_pos (of_decide_eq_true h50)] at hm
   rw[hm] at hQ
   exact hQ M6 h6 k6
  rw[if_neg (of_decide_eq_false h50)] at hm
  rw[bu (by omega) (by omega),bu (by omega) (by omega),h6.rd (z:=5) rfl hs3.symm (by omega),h6.rd (z:=5) rfl hs3.symm (by omega)]
  refine h6.swap (z:=5) rfl hs3.symm (by omega) (by omega) fun M7 h7 k7'=>?_
  have k7:=k6.trans k7'
  have hs6:(Sort.swp d3 R5 (R5 - 1)).size=d.size:=by rw[bP,hs3]
  generalize Sort.swp d3 R5 (R5 - 1)=d6 at *
  refine aY (fun zs M'=>zs=[]∧At aB T b (if R5 - a ≥ 2 then Sort.shiftDown lt (R5 - 1) d6 else d6) M'∧ag [b] M M') ?_ ?_
  ·rintro zs M8 ⟨rfl,h8,k8⟩
   have hs7:(if R5 - a ≥ 2 then Sort.shiftDown lt (R5 - 1) d6 else d6).size=d.size:=by
    split
    ·rw[xX,hs6]
    ·exact hs6
   generalize (if R5 - a ≥ 2 then Sort.shiftDown lt (R5 - 1) d6 else d6)=d7 at *
   rw[dM (by omega) (by omega),show(2:Int)=((2:Nat) : Int) from rfl,ja]
   refine aG (fun h2=>?_) (fun h2=>?_)
   ·rw[if_pos (of_decide_eq_true h2)] at hm
    rw[add1 (by omega)]
    obtain⟨R8,hR8⟩ : ∃ R8,R8=Sort.shiftUp lt e (R5 + 1) d7:=⟨_,rfl⟩
    rw[← hR8] at hm
    refine aI (fun m ys M8=>∃ (j:Nat) (d8:Array aF),m=e - j∧ys=[N .i64 (j:Int)]∧R5 + 1≤j∧j≤e∧At aB T b d8 M8∧ag [b] M M8∧d8.size=d.size∧R8=Sort.shiftUp lt e j d8) _ ⟨R5 + 1,d7,rfl,rfl,Nat.le_refl _,by omega,h8,k8,hs7,hR8⟩ ?_
    rintro qp m ys M9 rG ⟨j,d8,rfl,rfl,hj1,hj2,h9,k9,dZ,hm8⟩
    dsimp only[aa]
    rw[Sort.shiftUp] at hm8
    rw[ed]
    refine aG (fun hl1=>?_) (fun hl1=>?_)
    ·have hl1:j<e:=of_decide_eq_true hl1
     rw[if_pos hl1] at hm8
     rw[h9.rd (z:=5) rfl dZ.symm (by omega),bu (by omega) (by omega),h9.rd (z:=5) rfl dZ.symm (by omega)]
     refine hl.use fun M10 ru=>?_
     have h10:=h9.keep ru
     have k10:=k9.trans (ru.mono (cs:=[b]) (by simp))
     rw[bH]
     refine aG (fun hn=>?_) (fun hn=>?_)
     ·rw[if_pos hn] at hm8
      subst hm8
      exact hJ _ _ ⟨R5,R8,rfl,by omega,by omega,h10,k10,dZ,hm⟩
     ·rw[if_neg (by rw[hn]; decide)] at hm8
      rw[bu (by omega) (by omega),bu (by omega) (by omega),h10.rd (z:=5) rfl dZ.symm (by omega),h10.rd (z:=5) rfl dZ.symm (by omega)]
      refine h10.swap (z:=5) rfl dZ.symm (by omega) (by omega) fun M11 h11 k11=>?_
      rw[add1 (by omega)]
      exact rG _ _ _ (by omega) ⟨j + 1,_,rfl,rfl,by omega,by omega,h11,k10.trans k11,by rw[bP,dZ],hm8⟩
    ·rw[if_neg (of_decide_eq_false hl1)] at hm8
     subst hm8
     exact hJ _ _ ⟨R5,R8,rfl,by omega,by omega,h9,k9,dZ,hm⟩
   ·rw[if_neg (of_decide_eq_false h2)] at hm
    exact hJ _ _ ⟨R5,d7,rfl,by omega,by omega,h8,k8,hs7,hm⟩
  intro J2 hJ2
  rw[dM (by omega) (by omega),show(2:Int)=((2:Nat) : Int) from rfl,ja]
  refine aG (fun h2=>?_) (fun h2=>?_)
  ·rw[if_pos (of_decide_eq_true h2)] at hJ2
   rw[bu (by omega) (by omega)]
   obtain⟨R8,hR8⟩ : ∃ R8,R8=Sort.shiftDown lt (R5 - 1) d6:=⟨_,rfl⟩
   rw[← hR8] at hJ2
   refine aI (fun m ys M8=>∃ (j:Nat) (d8:Array aF),m=j + 1∧ys=[N .i64 (j:Int)]∧j<R5∧At aB T b d8 M8∧ag [b] M M8∧d8.size=d.size∧R8=Sort.shiftDown lt j d8) _ ⟨R5 - 1,d6,rfl,rfl,by omega,h7,k7,hs6,hR8⟩ ?_
   rintro qp m ys M8 rG ⟨j,d8,rfl,rfl,hj1,h8,k8,dZ,hm8⟩
   dsimp only[aa]
   rw[show(1:Int)=((1:Nat) : Int) from rfl,ja]
   refine aG (fun hl1=>?_) (fun hl1=>?_)
   ·have hl1:j ≥ 1:=of_decide_eq_true hl1
    obtain⟨j',rfl⟩ : ∃ j',j=j' + 1:=⟨j - 1,by omega⟩
    rw[Sort.shiftDown] at hm8
    rw[h8.rd (z:=5) rfl dZ.symm (by omega),dM (by omega) (by omega),Nat.add_sub_cancel,h8.rd (z:=5) rfl dZ.symm (by omega)]
    refine hl.use fun M10 ru=>?_
    have h10:=h8.keep ru
    have k10:=k8.trans (ru.mono (cs:=[b]) (by simp))
    rw[bH]
    refine aG (fun hn=>?_) (fun hn=>?_)
    ·rw[if_pos hn] at hm8
     subst hm8
     exact hJ2 _ _ ⟨rfl,h10,k10⟩
    ·rw[if_neg (by rw[hn]; decide)] at hm8
     rw[dM (by omega) (by omega),dM (by omega) (by omega),Nat.add_sub_cancel,h10.rd (z:=5) rfl dZ.symm (by omega),h10.rd (z:=5) rfl dZ.symm (by omega)]
     refine h10.swap (z:=5) rfl dZ.symm (by omega) (by omega) fun M11 h11 k11=>?_
     rw[dM (by omega) (by omega),Nat.add_sub_cancel]
     exact rG _ _ _ (by omega) ⟨j',_,rfl,rfl,by omega,h11,k10.trans k11,by rw[bP,dZ],hm8⟩
   ·have hl1:¬ j ≥ 1:=of_decide_eq_false hl1
    have h0:j=0:=by omega
    subst h0
    rw[Sort.shiftDown] at hm8
    subst hm8
    exact hJ2 _ _ ⟨rfl,h8,k8⟩
  ·rw[if_neg (of_decide_eq_false h2)] at hJ2
   exact hJ2 _ _ ⟨rfl,h7,k7⟩
 ·have hg:¬ 5 - s<5:=of_decide_eq_false hg
  have h0:s=0:=by omega
  subst h0
  rw[Sort.partialIns] at hm
  rw[hm] at hQ
  exact hQ M3 h3 k3
theorem Vg {T TX:Nat} {fv:AV} {cp cx:aj} (hp:Un cp) (hx:abA TX cx) : SortG aB T 5 fv Sort.breakPatterns (fun _ _ _=>True) fun args M Q=>∃ a0 a1 a2 a3,args=[a0,a1,a2,a3]∧jL TX cp cx a0 a1 a2 a3 M Q:=by
 intro M b a e d Q hat hsz hae he _ hQ
 refine⟨_,_,_,_,rfl, ?_⟩
 unfold jL
 simp only[bR]
 rw[dM hae (by omega),show(8:Int)=((8:Nat) : Int) from rfl,ja]
 unfold Sort.breakPatterns at hQ
 refine aG (fun h8=>?_) (fun h8=>?_)
 ·have h8:e - a ≥ 8:=of_decide_eq_true h8
  rw[if_pos h8] at hQ
  have hbl:=xg (x:=e - a) (by omega) (by omega)
  rw[nJ,je (by omega) (by omega),bB]
  have kk:ag [] M (M.push (.row [(N .u64 0)] false TX 0)):=(ag.refl _ _).push _
  have hsb:M.next≠b:=by have:=hat.lt; omega
  have hh0:(M.push (.row [(N .u64 0)] false TX 0)).heap M.next=some (.row [N .u64 0] false TX 0):=RM.aS _
  have Xg:(UInt64.ofNat (e - a)).toNat=e - a:=by rw[UInt64.toNat_ofNat']; omega
  have hn0:M.next<(M.push (.row [(N .u64 0)] false TX 0)).next:=by simp[RM.push]
  rw[fG hh0 (by simp) rfl rfl]
  have kS:ag [] M ((M.push (.row [(N .u64 0)] false TX 0)).put M.next (.row (([N .u64 0] : List AV).set 0 (N .u64 ((e - a:Nat) : Int))) false TX 0)):=kk.new _ (Nat.le_refl _)
  have hs1:((M.push (.row [(N .u64 0)] false TX 0)).put M.next (.row (([N .u64 0] : List AV).set 0 (N .u64 ((e - a:Nat) : Int))) false TX 0)).heap M.next=some (.row [N .u64 ((UInt64.ofNat (e - a)).toNat:Int)] false TX 0):=by
   rw[aR,Xg]; rfl
  have hn1:M.next<((M.push (.row [(N .u64 0)] false TX 0)).put M.next (.row (([N .u64 0] : List AV).set 0 (N .u64 ((e - a:Nat) : Int))) false TX 0)).next:=hn0
  generalize (M.push (.row [(N .u64 0)] false TX 0)).put M.next (.row (([N .u64 0] : List AV).set 0 (N .u64 ((e - a:Nat) : Int))) false TX 0)=M1 at *
  have aew:=hat.keep kS
  have back:∀ M',ag [b,M.next] M1 M'→ag [b] M M':=fun M' k=>(kS.mono (cs:=[b]) (by simp)).dK k fun c hc=>by simp at hc; rcases hc with h | h <;> simp[h]
  generalize M.next=s at *
  refine hp (by omega) (by omega) ?_
  have hq:∀ (c:Int),c=((2:Nat) : Int)→∀ (K:AV→Prop),(ae .quo (N .i64 ((e - a:Nat) : Int)) (N .i64 4) fun t18=>ae .mul t18 (N .i64 c) fun t19=>ae .add (N .i64 (a:Int)) t19 K)=K (N .i64 ((a + (e - a) / 4 * 2:Nat) : Int)):=fun c hc K=>by
   subst hc
   rw[lc,show(4:Int)=((4:Nat) : Int) from rfl,oU,aW (by omega) (by omega),uO,← Int.natCast_mul,aW (by omega) (by omega),addN (by omega)]
   exact propext ⟨fun h=>h.2,fun h=>⟨by decide,h⟩⟩
  rw[hq 2 rfl,bu (by omega) (by omega)]
  have UR:(Sort.breakStep a (e - a) (1 <<< Sort.bitsLen (e - a)) (Sort.breakStep a (e - a) (1 <<< Sort.bitsLen (e - a)) (Sort.breakStep a (e - a) (1 <<< Sort.bitsLen (e - a)) (UInt64.ofNat (e - a),d) (a + (e - a) / 4 * 2 - 1)) (a + (e - a) / 4 * 2 - 1 + 1)) (a + (e - a) / 4 * 2 - 1 + 2)).2=(tQ a (e - a) (2 ^ Sort.bitsLen (e - a)) (a + (e - a) / 4 * 2 - 1) d 3).2:=by
   rw[Nat.shiftLeft_eq,Nat.one_mul]; rfl
  have hQ:∀ M',At aB T b (tQ a (e - a) (2 ^ Sort.bitsLen (e - a)) (a + (e - a) / 4 * 2 - 1) d 3).2 M'→ag [b] M M'→Q (.tup []) M':=fun M' h k=>hQ M' (by rw[UR]; exact h) k
  generalize hmd:2 ^ Sort.bitsLen (e - a)=md at *
  generalize hi0:a + (e - a) / 4 * 2 - 1=i0 at *
  refine aI (fun m ys M3=>∃ (k:Nat),m=3 - k∧k≤3∧ys=[N .i64 ((i0 + k:Nat) : Int)]∧At aB T b (tQ a (e - a) md i0 d k).2 M3∧M3.heap s=some (.row [N .u64 ((tQ a (e - a) md i0 d k).1.toNat:Int)] false TX 0)∧s<M3.next∧ag [b,s] M1 M3) _ ⟨0,rfl,by omega,rfl,aew,hs1,hn1,ag.refl _ _⟩ ?_
  rintro next m ys M3 hnext ⟨k,rfl,hk,rfl,h3,hh3,hn3,k3⟩
  dsimp only[aa]
  have hsk:=Vo a (e - a) md i0 d k
  have Xd:tQ a (e - a) md i0 d (k + 1)=Sort.breakStep a (e - a) md (tQ a (e - a) md i0 d k) (i0 + k):=rfl
  generalize WI:tQ a (e - a) md i0 d k=st at *
  rw[hq 2 rfl,add1 (by omega),jR]
  refine aG (fun hg=>?_) (fun hg=>?_)
  ·have hg:i0 + k≤a + (e - a) / 4 * 2 + 1:=of_decide_eq_true hg
   refine aY (fun zs M'=>At aB T b (tQ a (e - a) md i0 d (k + 1)).2 M'∧M'.heap s=some (.row [N .u64 ((tQ a (e - a) md i0 d (k + 1)).1.toNat:Int)] false TX 0)∧s<M'.next∧ag [b,s] M1 M') ?_ ?_
   ·rintro zs M' ⟨c1,c2,c3,c4⟩
    rw[add1 (by omega)]
    exact hnext _ _ _ (by omega) ⟨k + 1,rfl,by omega,rfl,c1,c2,c3,c4⟩
   intro J hJ
   refine hx hh3 hn3 fun M4 hh4 k4 n4=>?_
   have h4:=h3.keep' k4 (by simp; omega)
   rw[Xd] at hJ
   unfold Sort.breakStep at hJ
   dsimp only at hJ
   generalize Sort.xorNext st.1=r at *
   rw[ig,je (by omega) (by omega),show(md:Int) - 1=((md - 1:Nat) : Int) by omega,LW,Li rfl]
   have hlt:r.toNat &&& (md - 1)<md:=by
    rw[← hmd,Nat.and_two_pow_sub_one_eq_mod]
    exact Nat.mod_lt _ (by rw[hmd]; omega)
   rw[Nat.mod_eq_of_lt (show r.toNat &&& (md - 1)<2 ^ zx .u64 by show _<2 ^ 64; omega)]
   generalize r.toNat &&& (md - 1)=o at *
   rw[nJ,aW (by omega) (by omega)]
   refine aY (fun zs M'=>zs=[N .i64 (((if o ≥ e - a then o - (e - a) else o) : Nat) : Int)]∧M'=M4) ?_ ?_
   ·rintro zs M' ⟨rfl,rfl⟩
    dsimp only[aa]
    have ho:(if o ≥ e - a then o - (e - a) else o)<e - a:=by split <;> omega
    generalize (if o ≥ e - a then o - (e - a) else o)=o2 at *
    rw[addN (by omega),addN (by omega),h4.rd (z:=5) rfl hsk.symm (by omega),h4.rd (z:=5) rfl hsk.symm (by omega)]
    refine h4.swap (z:=5) rfl hsk.symm (by omega) (by omega) fun M5 h5 k5=>?_
    exact hJ _ _ ⟨h5,k5.aP hh4 (by omega) (by simp; omega),by have:=k5.next; omega,(k3.trans (k4.mono (cs:=[b,s]) (by simp))).trans (k5.mono (cs:=[b,s]) (by simp))⟩
   intro J4 hJ4
   rw[ja]
   refine aG (fun hg2=>?_) (fun hg2=>?_)
   ·have hg2:o ≥ e - a:=of_decide_eq_true hg2
    rw[dM (by omega) (by omega)]
    exact hJ4 _ _ ⟨by rw[if_pos hg2],rfl⟩
   ·exact hJ4 _ _ ⟨by rw[if_neg (of_decide_eq_false hg2)],rfl⟩
  ·have hg:¬ i0 + k≤a + (e - a) / 4 * 2 + 1:=of_decide_eq_false hg
   have hk3:k=3:=by omega
   subst hk3
   rw[WI] at hQ
   exact hQ M3 h3 (back M3 k3)
 ·rw[if_neg (of_decide_eq_false h8)] at hQ
  exact hQ M hat (ag.refl _ _)
def ZG (T m:Nat) (fv:AV) (lt:aF→aF→Bool) (c:aj) : Prop:=∀ {M:RM} {b a e limit:Nat} {d:Array aF} {Q:ak},At aB T b d M→d.size≤60000→a≤e→e≤d.size→e - a<m→limit≤1000000→(∀ M',At aB T b (Sort.pdq lt d a e limit true true) M'→ag [b] M M'→Q (.tup []) M') →
 c [sv b d.size 5,N .i64 (a:Int),N .i64 (e:Int),N .i64 (limit:Int),fv] M Q
theorem ZR {T m:Nat} {fv:AV} {lt:aF→aF→Bool} {cv:FuncId→aj} {ci ch cb cc cr cp ce ct cq:aj} (hlt:Sort.SWO lt) (hi:SortG aB T 5 fv (Sort.insertionSort lt) (fun _ _ _=>True) ci) (hh:SortG aB T 5 fv (Sort.heapSort lt) (fun _ a e=>a<e) ch) (hb:SortG aB T 5 fv Sort.breakPatterns (fun _ _ _=>True) cb) (hc:QQ T fv lt cc) (hr:SortG aB T 5 fv Sort.reverseRange (fun _ a e=>a<e) cr)
  (hp:KF T fv lt cp) (hl:oF aB lt (bT cv fv)) (he:QH T fv lt ce) (ht:abw T fv lt ct) (hq:ZG T m fv lt cq) : ZG T (m + 1) fv lt fun args M Q=>∃ a0 a1 a2 a3 a4,args=[a0,a1,a2,a3,a4]∧iD ci ch cb cc cr cp cv ce ct cq a0 a1 a2 a3 a4 M Q:=by
 intro M b a e limit d Q hat hsz hae hed hm hlim hQ
 refine⟨_,_,_,_,_,rfl, ?_⟩
 unfold iD
 simp only[fB,dY,eP,bR]
 obtain⟨R,hR⟩ : ∃ R,R=Sort.pdq lt d a e limit true true:=⟨_,rfl⟩
 rw[← hR] at hQ
 refine aI (fun m' ys M3=>∃ (a e limit:Nat) (wb wp:Bool) (d3:Array aF),m'=e - a∧ys=[N .i64 (a:Int),N .i64 (e:Int),N .i64 (limit:Int),Bo wb,Bo wp]∧a≤e∧e≤d.size∧e - a<m + 1∧limit≤1000000∧At aB T b d3 M3∧ag [b] M M3∧d3.size=d.size∧R=Sort.pdq lt d3 a e limit wb wp) _
  ⟨a,e,limit,true,true,d,rfl,rfl,hae,hed,hm,hlim,hat,ag.refl _ _,rfl,hR⟩ ?_
 clear hR hae hed hm hlim
 rintro next m' ys M4 hnext ⟨a,e,limit,wb,wp,d3,rfl,rfl,hae,hed,hm,hlim,h4,k4,hs3,hR⟩
 dsimp only[aa]
 rw[Be] at hR
 rw[dM hae (by omega),show(12:Int)=((12:Nat) : Int) from rfl,jR]
 refine aG (fun hg=>?_) (fun hg=>?_)
 ·rw[if_pos (of_decide_eq_true hg)] at hR
  rw[← hs3]
  refine hi h4 (by omega) hae (by omega) trivial fun M5 h5 k5=>?_
  rw[← hR] at h5
  exact hQ M5 h5 (k4.trans k5)
 have hg:¬ e - a≤12:=of_decide_eq_false hg
 rw[if_neg hg] at hR
 rw[show(0:Int)=((0:Nat) : Int) from rfl,Qv]
 refine aG (fun hg0=>?_) (fun hg0=>?_)
 ·rw[if_pos (of_decide_eq_true hg0)] at hR
  rw[← hs3]
  refine hh h4 (by omega) hae (by omega) (by omega) fun M5 h5 k5=>?_
  rw[← hR] at h5
  exact hQ M5 h5 (k4.trans k5)
 have hg0:¬ limit=0:=of_decide_eq_false hg0
 rw[if_neg hg0] at hR
 refine aY (fun zs M'=>zs=[N .i64 (((if !wb then limit - 1 else limit) : Nat) : Int)]∧At aB T b (if !wb then Sort.breakPatterns d3 a e else d3) M'∧ag [b] M M') ?_ ?_
 ·rintro zs M5 ⟨rfl,h5,k5⟩
  dsimp only[aa]
  have hs5:(if !wb then Sort.breakPatterns d3 a e else d3).size=d.size:=by
   split
   ·rw[PX,hs3]
   ·exact hs3
  have hl5:(if !wb then limit - 1 else limit)≤1000000:=by split <;> omega
  generalize (if !wb then Sort.breakPatterns d3 a e else d3)=d5 at *
  generalize (if !wb then limit - 1 else limit)=lim at *
  rw[← hs5]
  refine hc h5 (by omega) (by omega) (by omega) fun M6 h6 k6=>?_
  rw[hs5]
  have hcr:=Sort.choosePivot_holds lt d5 a e (by omega)
  unfold gA at hR
  generalize Sort.choosePivot lt d5 a e=cpv at *
  have k6':=k5.trans (k6.mono (cs:=[b]) (by simp))
  rw[lM,lH]
  refine aY (fun zs M'=>zs=[N .i64 (((if cpv.2=.decreasing then(e - 1) - (cpv.1 - a) else cpv.1) : Nat) : Int),N .i64 (mr (if cpv.2=.decreasing then .increasing else cpv.2))]∧At aB T b (if cpv.2=.decreasing then Sort.reverseRange d5 a e else d5) M'∧ag [b] M M') ?_ ?_
  ·rintro zs M7 ⟨rfl,h7,k7⟩
   dsimp only[aa]
   have hs7:(if cpv.2=.decreasing then Sort.reverseRange d5 a e else d5).size=d.size:=by
    split
    ·rw[abx,hs5]
    ·exact hs5
   have hpv:a≤(if cpv.2=.decreasing then(e - 1) - (cpv.1 - a) else cpv.1)∧(if cpv.2=.decreasing then(e - 1) - (cpv.1 - a) else cpv.1)<e:=by
    split <;> omega
   generalize (if cpv.2=.decreasing then Sort.reverseRange d5 a e else d5)=d7 at *
   generalize (if cpv.2=.decreasing then(e - 1) - (cpv.1 - a) else cpv.1)=pv at *
   generalize (if cpv.2=.decreasing then Sort.Hint.increasing else cpv.2)=hint at *
   unfold gB gP at hR
   refine aY (fun zs M'=>∃ d8:Array aF,At aB T b d8 M'∧ag [b] M M'∧d8.size=d.size∧R=gC lt d8 a e pv lim wb wp) ?_ ?_
   ·rintro zs M8 ⟨d8,h8,k8,hs8,hR8⟩
    unfold gC at hR8
    rw[pG]
    refine pR (P:=fun M'=>At aB T b d8 M'∧ag [b] M M') (p:=!lt d8[a - 1]! d8[pv]!) ⟨h8,k8⟩ (fun hc k hk=>?_) fun M9 ⟨h9,k9⟩=>?_
    ·have hc:a > 0:=of_decide_eq_true hc
     rw[bu (by omega) (by omega),h8.rd (z:=5) rfl hs8.symm (by omega),h8.rd (z:=5) rfl hs8.symm (by omega)]
     refine hl.use fun M10 k10=>?_
     rw[bH]
     exact hk M10 ⟨h8.keep k10,k8.trans (k10.mono (cs:=[b]) (by simp))⟩
    refine aG (fun h=>?_) (fun h=>?_)
    ·rw[if_pos h] at hR8
     rw[← hs8]
     have hE:=Qc lt d8 a e pv (by omega)
     refine he h9 (by omega) hpv.1 hpv.2 (by omega) fun M10 h10 k10=>?_
     generalize Sort.partitionEqual lt d8 a e pv=pe at *
     dsimp only at hR8
     rw[dif_pos ⟨hE.2.1,hE.2.2⟩] at hR8
     exact hnext _ _ _ (by omega) ⟨pe.1,e,lim,wb,wp,pe.2,rfl,rfl,hE.2.2,hed,by omega,hl5,h10,k9.trans k10,by rw[hE.1,hs8],hR8⟩
    ·rw[if_neg (by rw[h]; decide)] at hR8
     rw[← hs8]
     have hT:=Sort.partition_holds lt hlt d8 a e pv hpv.1 hpv.2 (by omega)
     have hTs:=SV lt d8 a e pv
     refine ht h9 (by omega) hpv.1 hpv.2 (by omega) fun M10 h10 k10=>?_
     have ru:=k9.trans k10
     generalize Sort.partition lt d8 a e pv=pp at *
     obtain⟨mid,ap,d9⟩:=pp
     dsimp only at hR8 hT hTs h10 ⊢
     rw[dif_pos ⟨hT.1,hT.2.1⟩] at hR8
     have hT1:=hT.1
     have hT2:=hT.2.1
     rw[lM,lH,dM hT1 (by omega),dM (by omega) (by omega),lc]
     refine⟨by decide, ?_⟩
     rw[show(8:Int)=((8:Nat) : Int) from rfl,oU,aW (by omega) (by omega),ed]
     refine aG (fun hc1=>?_) (fun hc1=>?_)
     ·have hc1:mid - a<e - mid:=of_decide_eq_true hc1
      rw[if_pos hc1] at hR8
      rw[ja,← hTs]
      refine hq h10 (by omega) hT1 (by omega) (by omega) hl5 fun M11 h11 k11=>?_
      rw[add1 (by omega)]
      exact hnext _ _ _ (by omega) ⟨mid + 1,e,lim,_,ap,_,rfl,rfl,by omega,hed,by omega,hl5,h11,ru.trans k11,by rw[zL lt _ _ _ _ _ _ _ (Nat.le_refl _),hTs,hs8],hR8⟩
     ·have hc1:¬ mid - a<e - mid:=of_decide_eq_false hc1
      rw[if_neg hc1] at hR8
      rw[ja,add1 (by omega),← hTs]
      refine hq h10 (by omega) (by omega) (by omega) (by omega) hl5 fun M11 h11 k11=>?_
      exact hnext _ _ _ (by omega) ⟨a,mid,lim,_,ap,_,rfl,rfl,hT1,by omega,by omega,hl5,h11,ru.trans k11,by rw[zL lt _ _ _ _ _ _ _ (Nat.le_refl _),hTs,hs8],hR8⟩
   intro J10 Iu
   have no:¬ (wb && wp && decide (hint=.increasing))=true→J10 [] M7:=fun hn=>by
    have hpi:(if (wb && wp && decide (hint=.increasing))=true then Sort.partialInsertionSort lt d7 a e else(d7,false))=(d7,false):=if_neg hn
    rw[hpi] at hR
    exact Iu _ _ ⟨d7,h7,k7,hs7,hR⟩
   cases wb with
   | false =>
     rw[bS]
     dsimp only
     rw[df,bS]
     dsimp only
     rw[bS]
     dsimp only
     rw[df,bD]
     exact no (by simp)
   | true =>
     rw[dx]
     dsimp only
     rw[eT]
     cases wp with
     | false =>
       rw[bS]
       dsimp only
       rw[bS]
       dsimp only
       rw[df,bD]
       exact no (by simp)
     | true =>
       rw[dx]
       dsimp only
       rw[dx]
       dsimp only
       rw[bU,eT]
       by_cases hin:hint=.increasing
       ·rw[show(mr hint == 1)=true by rw[hin]; rfl,dD]
        have hpi:(if (true && true && decide (hint=.increasing))=true then Sort.partialInsertionSort lt d7 a e else(d7,false))=Sort.partialInsertionSort lt d7 a e:=if_pos (by simp[hin])
        rw[hpi] at hR
        rw[← hs7]
        have hs8:(Sort.partialInsertionSort lt d7 a e).1.size=d.size:=by
         rw[Sort.partialInsertionSort,BH,hs7]
        refine hp h7 (by omega) (by omega) (by omega) fun M8 h8 k8=>?_
        generalize Sort.partialInsertionSort lt d7 a e=pi at *
        refine aG (fun h=>?_) (fun h=>?_)
        ·rw[if_pos h] at hR
         rw[← hR] at h8
         exact hQ M8 h8 (k7.trans k8)
        ·rw[if_neg (by rw[h]; decide)] at hR
         exact Iu _ _ ⟨pi.1,h8,k7.trans k8,hs8,hR⟩
       ·rw[show(mr hint == 1)=false by cases hint <;> first | rfl | exact absurd rfl hin,bD]
        exact no (by simp[hin])
  intro J6 hJ6
  rw[bU]
  by_cases hdec:cpv.2=.decreasing
  ·rw[show(mr cpv.2 == 2)=true by rw[hdec]; rfl,dD,← hs5]
   refine hr h6 (by omega) hae (by omega) (by omega) fun M7 h7 k7=>?_
   rw[bu (by omega) (by omega),dM (by omega) (by omega),dM (by omega) (by omega)]
   exact hJ6 _ _ ⟨by rw[if_pos hdec,if_pos hdec]; rfl,by rw[if_pos hdec]; exact h7,k6'.trans k7⟩
  ·rw[show(mr cpv.2 == 2)=false by cases h:cpv.2 <;> first | rfl | exact absurd h hdec,bD]
   exact hJ6 _ _ ⟨by rw[if_neg hdec,if_neg hdec],by rw[if_neg hdec]; exact h6,k6'⟩
 intro J hJ
 rw[bH]
 cases wb with
 | true =>
   rw[Bool.not_true,bD]
   exact hJ _ _ ⟨rfl,h4,k4⟩
 | false =>
   rw[Bool.not_false,dD,← hs3]
   refine hb h4 (by omega) hae (by omega) trivial fun M5 h5 k5=>?_
   rw[bu (by omega) (by omega)]
   exact hJ _ _ ⟨rfl,h5,k4.trans k5⟩
def QN (c:aj) : Prop:=∀ {M:RM} {v fv:AV} {Q:ak},Q (.tup []) M→c [v,N .i64 0,N .i64 ((0:Nat) : Int),fv] M Q
theorem QE {cv:FuncId→aj} : QN fun args M Q=>∃ a0 a1 a2 a3,args=[a0,a1,a2,a3]∧fw cv a0 a1 a2 a3 M Q:=by
 intro M v fv Q hQ
 refine⟨_,_,_,_,rfl, ?_⟩
 unfold fw
 rw[cZ,show IntKind.i64.wrap ((0:Int) + 1)=1 from rfl]
 refine aI (fun m ys M3=>m=0∧ys=[N .i64 1]∧M3=M) 0 ⟨rfl,rfl,rfl⟩ ?_
 rintro next m ys M3 hnext ⟨rfl,rfl,rfl⟩
 dsimp only[aa]
 rw[dB,show decide ((1:Int)<((0:Nat) : Int))=false from rfl,bD]
 exact hQ
def Qr (c:aj) : Prop:=∀ {M:RM} {v fv:AV} {Q:ak},Q (.tup []) M→c [v,N .i64 0,N .i64 ((0:Nat) : Int),N .i64 ((0:Nat) : Int),fv] M Q
theorem QI {cv:FuncId→aj} {ci c2 c3 cc c4 cp c6 c7 c8:aj} (hi:QN ci) : Qr fun args M Q=>∃ a0 a1 a2 a3 a4,args=[a0,a1,a2,a3,a4]∧iD ci c2 c3 cc c4 cp cv c6 c7 c8 a0 a1 a2 a3 a4 M Q:=by
 intro M v fv Q hQ
 refine⟨_,_,_,_,_,rfl, ?_⟩
 unfold iD
 refine aI (fun m ys M3=>m=0∧ys=[N .i64 0,N .i64 ((0:Nat) : Int),N .i64 ((0:Nat) : Int),Bo true,Bo true]∧M3=M) 0 ⟨rfl,rfl,rfl⟩ ?_
 rintro next m ys M3 hnext ⟨rfl,rfl,rfl⟩
 dsimp only[aa]
 rw[ig,show IntKind.i64.wrap (((0:Nat) : Int) - 0)=0 from rfl,lV,show decide ((0:Int)≤12)=true from rfl,dD]
 exact hi hQ
def r9 (lt:aF→aF→Bool) (xs:List aF) : List aF:=(Sort.sort lt xs.toArray).toList
theorem ac6 (lt:aF→aF→Bool) : r9 lt []=[]:=by
 unfold r9 Sort.sort
 rw[Be,if_pos (by simp),Sort.insertionSort,Sort.insOuter,if_neg (by simp)]
theorem rV {lt:aF→aF→Bool} (hlt:Sort.SWO lt) (xs:List aF) : (r9 lt xs).Perm xs:=by
 have h:=(Sort.sort_sorts lt hlt xs.toArray).1
 have h2:=h.2.2
 rw[Array.extract_eq_self_of_le (by rw[h.1]; exact Nat.le_refl _),Array.extract_eq_self_of_le (Nat.le_refl _)] at h2
 exact h2
theorem ad2 {lt:aF→aF→Bool} (hlt:Sort.SWO lt) (xs:List aF) : (r9 lt xs).Pairwise fun x y=>lt y x=false:=by
 rw[List.pairwise_iff_getElem]
 intro i j hi hj hij
 have h:=(Sort.sort_sorts lt hlt xs.toArray)
 have hs:(Sort.sort lt xs.toArray).size=xs.toArray.size:=h.1.1
 unfold r9 at hi hj ⊢
 rw[Array.length_toList] at hi hj
 have:=h.2 i j (Nat.zero_le _) hij (by omega)
 rw[P7 hj,P7 hi] at this
 rw[Array.getElem_toList,Array.getElem_toList]
 exact this
def O9 (fv:AV) (lt:aF→aF→Bool) (T:Nat) (c:aj) : Prop:=∀ {M:RM} {base:Nat} {v:AV} {xs:List aF} {Q:ak},Ow aB M base T v xs→xs.length≤60000→(∀ M',Ow aB M' base T v (r9 lt xs)→ag (aH v) M M'→Q (.tup []) M')→c [v,fv] M Q
theorem ahd {T:Nat} {fv:AV} {lt:aF→aF→Bool} {cl cp:aj} (hlt:Sort.SWO lt) (hl:EE cl) (hp:∀ m,ZG T m fv lt cp) (h0:Qr cp) : O9 fv lt T fun args M Q=>∃ a0 a1,args=[a0,a1]∧uK cl cp a0 a1 M Q:=by
 intro M base v xs Q ho hx hQ
 have hs:Sl aB M v xs:=ho.jq
 refine⟨_,_,rfl, ?_⟩
 unfold uK
 rw[aL.len hs,nJ,je (by omega) (by omega)]
 refine hl (by omega) ?_
 rcases Nat.eq_zero_or_pos xs.length with hn | hn
 ·rw[hn,show Sort.bitsLen 0=0 from rfl]
  refine h0 ?_
  have:=List.length_eq_zero_iff.1 hn
  subst this
  exact hQ M (by rw[ac6]; exact ho) (ag.refl _ _)
 ·obtain⟨b,rfl,h1,h2,h3,h4⟩:=Own.yJ ho hn
  have hb:=xg hn (by omega)
  have hsz:xs.toArray.size=xs.length:=by simp
  have hat:At aB T b xs.toArray M:=⟨by rw[h3],h2⟩
  have hsl:(r9 lt xs).length=xs.length:=(rV hlt xs).length_eq
  have:=hp (xs.length + 1) (M:=M) (b:=b) (a:=0) (e:=xs.toArray.size) (limit:=Sort.bitsLen xs.length) (d:=xs.toArray) (Q:=fun bW M_0=>Q (.tup []) M_0) hat (by omega) (by omega) (Nat.le_refl _) (by omega) (by omega) fun M' h' k'=>?_
  ·have e5:aB.size=5:=rfl
   rw[e5]
   simpa using this
  ·have e:(Sort.pdq lt xs.toArray 0 xs.toArray.size (Sort.bitsLen xs.length) true true)=Sort.sort lt xs.toArray:=by rw[Sort.sort]; simp
   rw[e] at h'
   refine hQ _ ?_ (by simpa [aH] using k')
   have hlast:Own M' base T 5 (.slc b 0 xs.length (.op 5)) (aB.row (r9 lt xs)) xs.length:=.op _ _ _ h1 h'.lt h'.heap (by rw[Enc.eY,hsl]; rfl)
   show Own M' base T 5 (.slc b 0 xs.length (.op 5)) (aB.row (r9 lt xs)) (r9 lt xs).length
   rw[hsl]; exact hlast
def aop (lt:Go.Ab.aD.aD→Go.Ab.aD.aD→Bool) (xs:List Go.Ab.aD.aD) : List Go.Ab.aD.aD:=(Sort.sort lt xs.toArray).toList
end Go.Ab.Crw
namespace Go.Ab.aD
open Go Go.Ab
theorem anI {ps qs:List Pt} (h1:ps.length=16) (h2:qs.length=16) (h:∀ j,j<16→ps.getD j (0,[])=qs.getD j (0,[])) : ps=qs:=by
 refine List.ext_getElem (by omega) fun j hj hj'=>?_
 have:=h j (by omega)
 rw[List.getD_eq_getElem?_getD,List.getD_eq_getElem?_getD,List.getElem?_eq_getElem hj,List.getElem?_eq_getElem hj'] at this
 exact this
theorem YK:∀ {xs ys:List Nat},Asc xs→Asc ys→(∀ x,x∈xs↔x∈ys)→xs=ys
 | [],[],_,_,_=>rfl
 | [],y :: ys,_,_,h=>by have:=(h y).2 (by simp); simp at this
 | x :: xs,[],_,_,h=>by have:=(h x).1 (by simp); simp at this
 | x :: xs,y :: ys,h1,h2,h=>by
   have a1:=List.pairwise_cons.1 h1
   have a2:=List.pairwise_cons.1 h2
   have hxy:x=y:=by
    rcases List.mem_cons.1 ((h x).1 (by simp)) with e | e
    ·exact e
    ·rcases List.mem_cons.1 ((h y).2 (by simp)) with e' | e'
     ·exact e'.symm
     ·have:=a2.1 x e; have:=a1.1 y e'; omega
   subst hxy
   refine congrArg (x :: ·) (YK a1.2 a2.2 fun z=>⟨fun hz=>?_,fun hz=>?_⟩)
   ·rcases List.mem_cons.1 ((h z).1 (by simp[hz])) with e | e
    ·subst e; have:=a1.1 z hz; omega
    ·exact e
   ·rcases List.mem_cons.1 ((h z).2 (by simp[hz])) with e | e
    ·subst e; have:=a2.1 z hz; omega
    ·exact e
theorem Yb {u:Nat} {xs:List Nat} (h:∀ y∈xs,u + 1<y) : settle u xs=(u,xs):=by
 cases xs with
 | nil=>rfl
 | cons x xs =>
   have:=h x (by simp)
   unfold settle
   rw[dP,if_neg (by omega)]; rfl
theorem getD_set_ne {u:List Pt} {i j:Nat} {p:Pt} (h:i≠j) : (u.set i p).getD j (0,[])=u.getD j (0,[]):=by
 rw[List.getD_eq_getElem?_getD,List.getD_eq_getElem?_getD,List.getElem?_set_ne h]
theorem FV (j:Nat) : jG.getD j (0,[])=(0,[]):=by
 rw[List.getD_eq_getElem?_getD]
 unfold jG
 by_cases h:j<16
 ·rw[List.getElem?_replicate,if_pos h]; rfl
 ·rw[List.getElem?_replicate,if_neg h]; rfl
theorem Zl {M:RM} {b o:Nat} {x:AV} {K:AV→Prop} (h:M.cell b o=some x) : au M (.ptr b o) K=K x:=by
 rw[gL,h]; simp
theorem and_false {c:Bool} {f:KR→Prop} {M:RM} {Z:AV→RM→Prop} (hf:c=true→∀ k:KR,k (Bo false) M none→f k) (hZ:Z (Bo false) M) :
  af (Bo c) true f (fun k=>k .undef M none) (fun t M' b=>aK (Bo c) t (Bo false) fun t'=>Z t' M'):=by
 cases c with
 | false=>rw[pq]; dsimp only; rw[df]; exact hZ
 | true=>rw[o8]; exact hf rfl _ (by rw[eT]; exact hZ)
end Go.Ab.aD
namespace Go.Ab.Crw
open Go Go.Ab Go.Ab.aD
theorem ou:∀ (x y:List UInt8),Op.bytesLess x y=decide (x<y)
 | [],[]=>by simp[Op.bytesLess]
 | _ :: _,[]=>by simp[Op.bytesLess]
 | [],_ :: _=>by simp[Op.bytesLess]
 | a :: x,b :: y=>by
   rw[Op.bytesLess,ou x y]
   simp only[List.cons_lt_cons_iff]
   by_cases h1:a<b <;> by_cases h2:a=b <;> by_cases h3:x<y <;> simp[h1,h2,h3]
structure LO {β:Type} (lt:β→β→Bool) : Prop where
 irrefl:∀ x,lt x x=false
 trans:∀ x y z,lt x y=true→lt y z=true→lt x z=true
 tri:∀ x y,lt x y=false→lt y x=false→x=y
def lex {α β:Type} [DecidableEq β] (k:α→β) (lt1:β→β→Bool) (lt2:α→α→Bool) (x y:α) : Bool:=lt1 (k x) (k y) || (decide (k x=k y) && lt2 x y)
theorem zR {α β:Type} [DecidableEq β] {k:α→β} {lt1:β→β→Bool} {lt2:α→α→Bool} (h1:LO lt1) (h2:Sort.SWO lt2) : Sort.SWO (lex k lt1 lt2) where
 irrefl x:=by simp[lex,h1.irrefl,h2.irrefl]
 trans x y z a b:=by
  simp only[lex,Bool.or_eq_true,Bool.and_eq_true,decide_eq_true_eq] at *
  rcases a with a | ⟨a,a'⟩ <;> rcases b with b | ⟨b,b'⟩
  ·exact .inl (h1.trans _ _ _ a b)
  ·exact .inl (by rw[← b]; exact a)
  ·exact .inl (by rw[a]; exact b)
  ·exact .inr ⟨a.trans b,h2.trans _ _ _ a' b'⟩
 ntrans x y z a b:=by
  simp only[lex,Bool.or_eq_false_iff,Bool.and_eq_false_iff,decide_eq_false_iff_not] at *
  obtain⟨a1,a2⟩:=a
  obtain⟨b1,b2⟩:=b
  have c1:lt1 (k x) (k z)=false:=by
   cases h:lt1 (k x) (k z) with
   | false=>rfl
   | true =>
     by_cases e:k x=k y
     ·rw[e,b1] at h; cases h
     ·have:lt1 (k y) (k x)=true:=by
       cases h' : lt1 (k y) (k x) with
       | true=>rfl
       | false=>exact absurd (h1.tri _ _ a1 h') e
      have:=h1.trans _ _ _ this h
      rw[b1] at this; cases this
  refine⟨c1, ?_⟩
  by_cases e:k x=k z
  ·right
   by_cases e2:k x=k y
   ·have e3:k y=k z:=e2.symm.trans e
    rcases a2 with a2 | a2
    ·exact absurd e2 a2
    ·rcases b2 with b2 | b2
     ·exact absurd e3 b2
     ·exact h2.ntrans _ _ _ a2 b2
   ·have h3:lt1 (k y) (k x)=false:=by rw[e]; exact b1
    exact absurd (h1.tri _ _ a1 h3) e2
  ·exact .inl e
theorem VZ:LO (fun x y:Nat=>decide (x<y)):=⟨by simp,by simp; omega,by simp; omega⟩
theorem Vb:LO (fun x y:Int=>decide (x<y)):=⟨by simp,by simp; omega,by simp; omega⟩
theorem qK:LO (fun x y:List UInt8=>decide (x<y)) where
 irrefl x:=by simp[List.lt_irrefl]
 trans x y z h1 h2:=by simp only[decide_eq_true_eq] at *; exact List.lt_trans h1 h2
 tri x y h1 h2:=by
  simp only[decide_eq_false_iff_not,List.not_lt] at *
  exact List.le_antisymm h2 h1
theorem Xo {α:Type} : Sort.SWO (fun _ _:α=>false):=⟨fun _=>rfl,(fun _ _ _ h _=>by cases h),(fun _ _ _ _ _=>rfl)⟩
def ltD:aD→aD→Bool:=lex (fun d:aD=>d.2) (fun x y:Nat=>decide (x<y)) (lex (fun d:aD=>d.1) (fun x y:Int=>decide (x<y)) fun _ _=>false)
def gp:aF→aF→Bool:=lex (fun x:aF=>x.2.1) (fun x y=>decide (x<y)) (lex (fun x:aF=>x.2.2.1) (fun x y=>decide (x<y)) (lex (fun x:aF=>x.1.2) (fun x y:Nat=>decide (x<y)) (lex (fun x:aF=>x.1.1) (fun x y:Int=>decide (x<y)) fun _ _=>false)))
theorem iY:Sort.SWO gp:=zR qK (zR qK (zR VZ (zR Vb Xo)))
def c3 {β:Type} (lt:β→β→Bool) (x y:β) : Int:=if lt x y then -1 else if lt y x then 1 else 0
theorem aea {β:Type} {lt:β→β→Bool} (h:LO lt) (x y:β) : (c3 lt x y=-1∧lt x y=true∧x≠y)∨(c3 lt x y=1∧lt x y=false∧x≠y)∨(c3 lt x y=0∧lt x y=false∧x=y):=by
 unfold c3
 cases h1:lt x y with
 | true=>exact .inl ⟨rfl,rfl,fun e=>by rw[e,h.irrefl] at h1; cases h1⟩
 | false =>
   cases h2:lt y x with
   | true=>exact .inr (.inl ⟨rfl,rfl,fun e=>by rw[e,h.irrefl] at h2; cases h2⟩)
   | false=>exact .inr (.inr ⟨rfl,rfl,h.tri _ _ h1 h2⟩)
def Gl (a b:Int) : Int:=if a≠0 then a else b
def Is3 {α:Type} (lt:α→α→Bool) (f:α→α→Int) : Prop:=∀ x y,decide (f x y<0)=lt x y
theorem zV {α β:Type} [DecidableEq β] {k:α→β} {lt1:β→β→Bool} {lt2:α→α→Bool} {f:α→α→Int} (h1:LO lt1) (h2:Is3 lt2 f) : Is3 (lex k lt1 lt2) (fun x y=>Gl (c3 lt1 (k x) (k y)) (f x y)):=by
 intro x y
 unfold lex
 show decide (Gl (c3 lt1 (k x) (k y)) (f x y)<0)=_
 unfold Gl
 rcases aea h1 (k x) (k y) with⟨a,b,c⟩ | ⟨a,b,c⟩ | ⟨a,b,c⟩
 ·rw[a,b]; rfl
 ·rw[a,b,decide_eq_false c]; rfl
 ·rw[a,b,decide_eq_true c,if_neg (by simp),h2 x y]; rfl
theorem VB {α:Type} : Is3 (fun _ _:α=>false) (fun _ _=>0):=fun _ _=>rfl
def yc {α:Type} (mk:α→AV) (lt:α→α→Bool) (c:aj) : Prop:=∀ {M:RM} {x y:α} {Q:ak},Q (N .i64 (c3 lt x y)) M→c [mk x,mk y] M Q
def ET {α:Type} (mk:α→AV) (c:aj) : Prop:=∀ {M:RM} {x:α} {Q:ak},Q (Bo false) M→c [mk x] M Q
theorem acJ:ET (α:=List UInt8) (fun s=>St s) fun args M Q=>∃ a0,args=[a0]∧xS a0 M Q:=by
 intro M x Q hQ
 refine⟨_,rfl, ?_⟩
 unfold xS
 rw[qE,show(x != x)=false by simp]
 exact hQ
theorem ab7:ET (α:=Nat) (fun n=>N .u64 (n:Int)) fun args M Q=>∃ a0,args=[a0]∧aD.rH a0 M Q:=by
 intro M x Q hQ
 exact⟨_,rfl,Nb hQ⟩
theorem ac9:ET (α:=Int) (fun n=>N .i64 n) fun args M Q=>∃ a0,args=[a0]∧Dj a0 M Q:=by
 intro M x Q hQ
 refine⟨_,rfl, ?_⟩
 unfold Dj
 rw[ll,show(x != x)=false by simp]
 exact hQ
theorem abY {cn:aj} (hn:ET (α:=List UInt8) (fun s=>St s) cn) : yc (α:=List UInt8) (fun s=>St s) (fun x y=>decide (x<y)) fun args M Q=>∃ a0 a1,args=[a0,a1]∧uQ cn a0 a1 M Q:=by
 intro M x y Q hQ
 refine⟨_,_,rfl, ?_⟩
 unfold uQ
 refine hn (hn ?_)
 rw[bD,bD,Le,ou]
 unfold c3 at hQ
 by_cases h1:x<y
 ·rw[decide_eq_true h1,dD]
  rw[if_pos (by simpa using h1)] at hQ; exact hQ
 ·rw[decide_eq_false h1,bD,adm,ou,decide_eq_false h1,Bool.false_or]
  rw[if_neg (by simpa using h1)] at hQ
  by_cases h2:y<x
  ·have hne:x≠y:=fun e=>by subst e; exact List.lt_irrefl _ h2
   rw[show(x == y)=false by simpa using hne,Bool.not_false,dD]
   rw[if_pos (by simpa using h2)] at hQ; exact hQ
  ·have he:x=y:=qK.tri x y (by simpa using h1) (by simpa using h2)
   rw[show(x == y)=true by simpa using he,Bool.not_true,bD]
   rw[if_neg (by simpa using h2)] at hQ; exact hQ
theorem ab8 {cn:aj} (hn:ET (α:=Nat) (fun n=>N .u64 (n:Int)) cn) : yc (α:=Nat) (fun n=>N .u64 (n:Int)) (fun x y=>decide (x<y)) fun args M Q=>∃ a0 a1,args=[a0,a1]∧ul cn a0 a1 M Q:=by
 intro M x y Q hQ
 refine⟨_,_,rfl, ?_⟩
 unfold ul
 refine hn (hn ?_)
 rw[bD,bD,dB]
 unfold c3 at hQ
 by_cases h1:x<y
 ·rw[show decide ((x:Int)<(y:Int))=true by simpa using h1,dD]
  rw[if_pos (by simpa using h1)] at hQ; exact hQ
 ·rw[show decide ((x:Int)<(y:Int))=false by simpa using h1,bD,jS]
  rw[if_neg (by simpa using h1)] at hQ
  by_cases h2:y<x
  ·rw[show decide ((x:Int) > (y:Int))=true by simpa using h2,dD]
   rw[if_pos (by simpa using h2)] at hQ; exact hQ
  ·rw[show decide ((x:Int) > (y:Int))=false by simpa using h2,bD]
   rw[if_neg (by simpa using h2)] at hQ; exact hQ
theorem acZ {cn:aj} (hn:ET (α:=Int) (fun n=>N .i64 n) cn) : yc (α:=Int) (fun n=>N .i64 n) (fun x y=>decide (x<y)) fun args M Q=>∃ a0 a1,args=[a0,a1]∧zg cn a0 a1 M Q:=by
 intro M x y Q hQ
 refine⟨_,_,rfl, ?_⟩
 unfold zg
 refine hn (hn ?_)
 rw[bD,bD,dB]
 unfold c3 at hQ
 by_cases h1:x<y
 ·rw[show decide (x<y)=true by simpa using h1,dD]
  rw[if_pos (by simpa using h1)] at hQ; exact hQ
 ·rw[show decide (x<y)=false by simpa using h1,bD,jS]
  rw[if_neg (by simpa using h1)] at hQ
  by_cases h2:y<x
  ·rw[show decide (x > y)=true by simpa using h2,dD]
   rw[if_pos (by simpa using h2)] at hQ; exact hQ
  ·rw[show decide (x > y)=false by simpa using h2,bD]
   rw[if_neg (by simpa using h2)] at hQ; exact hQ
def INT:Enc Int:=⟨1,fun n=>[N .i64 n],fun _=>rfl,fun _=>rfl⟩
def Me:List Int→Int
 | []=>0
 | x :: xs=>Gl x (Me xs)
def OrC (c:aj) : Prop:=∀ {M:RM} {v:AV} {xs:List Int} {Q:ak},Sl INT M v xs→xs.length≤100→Q (N .i64 (Me xs)) M→c [v] M Q
theorem ahZ:OrC fun args M Q=>∃ a0,args=[a0]∧KD a0 M Q:=by
 intro M v xs Q hs hl hQ
 refine⟨_,rfl, ?_⟩
 unfold KD
 rw[aL.len hs]
 refine aI (fun m ys M3=>∃ i:Nat,m=xs.length - i∧ys=[N .i64 (i:Int)]∧i≤xs.length∧M3=M∧Me xs=Me (xs.drop i)) _ ⟨0,rfl,rfl,Nat.zero_le _,rfl,rfl⟩ ?_
 rintro next m ys M3 hnext ⟨i,rfl,rfl,hi,rfl,hm⟩
 dsimp only[aa]
 rw[dB]
 refine aG (fun hlt=>?_) (fun hge=>?_)
 ·have hlt:i<xs.length:=by simpa using hlt
  obtain⟨b1,o1,_,_,aof,hc1⟩:=Sl.Hu (E:=INT) hs (i:Int) hlt
  rw[aof,Zl (hc1 _ rfl),ll]
  rw[List.drop_eq_getElem_cons hlt,Me,Gl] at hm
  by_cases h0:xs[i]=0
  ·rw[show(xs[i] != 0)=false by simp[h0],bD,cZ,iN (by omega)]
   rw[if_neg (by simp[h0])] at hm
   exact hnext _ _ _ (by omega) ⟨i + 1,rfl,rfl,hlt,rfl,hm⟩
  ·rw[show(xs[i] != 0)=true by simp[h0],dD]
   rw[if_pos (by simp[h0])] at hm
   rw[hm] at hQ
   exact hQ
 ·have he:i=xs.length:=by simp at hge; omega
  subst he
  rw[List.drop_length] at hm
  rw[hm] at hQ
  exact hQ
theorem agB {T:Nat} {M:RM} {x y:Int} {K:RB→(Nat→AV)→Prop} : fV T 2 [(N .i64 0)] [(0,1,N .i64 x),(1,1,N .i64 y)] K=K (.row [N .i64 x,N .i64 y] false T 0) (fun b=>.slc b 0 2 (.ex 2)):=by
 apply propext; unfold fV
 constructor
 ·rintro⟨l,h,hk⟩; cases h; exact hk
 ·intro hk; exact⟨_,rfl,hk⟩
theorem am8 {T:Nat} {M:RM} {x y z:Int} {K:RB→(Nat→AV)→Prop} : fV T 3 [(N .i64 0)] [(0,1,N .i64 x),(1,1,N .i64 y),(2,1,N .i64 z)] K=K (.row [N .i64 x,N .i64 y,N .i64 z] false T 0) (fun b=>.slc b 0 3 (.ex 3)):=by
 apply propext; unfold fV
 constructor
 ·rintro⟨l,h,hk⟩; cases h; exact hk
 ·intro hk; exact⟨_,rfl,hk⟩
def f3D (x y:aD) : Int:=Gl (c3 (fun x y:Nat=>decide (x<y)) x.2 y.2) (Gl (c3 (fun x y:Int=>decide (x<y)) x.1 y.1) 0)
def f3E (x y:aF) : Int:=Gl (c3 (fun x y:List UInt8=>decide (x<y)) x.2.1 y.2.1) (Gl (c3 (fun x y:List UInt8=>decide (x<y)) x.2.2.1 y.2.2.1) (f3D x.1 y.1))
theorem apU:Is3 gp f3E:=zV (k:=fun x:aF=>x.2.1) qK (zV (k:=fun x:aF=>x.2.2.1) qK (zV (k:=fun x:aF=>x.1.2) VZ (zV (k:=fun x:aF=>x.1.1) Vb VB)))
def Uv (c:aj) : Prop:=∀ {M:RM} {x y:aD} {Q:ak},(∀ M',ag [] M M'→Q (N .i64 (f3D x y)) M')→c [.agg (aT x),.agg (aT y)] M Q
theorem aaY {TD TI:Nat} {cu ci co:aj} (hu:yc (α:=Nat) (fun n=>N .u64 (n:Int)) (fun x y=>decide (x<y)) cu) (hi:yc (α:=Int) (fun n=>N .i64 n) (fun x y=>decide (x<y)) ci) (ho:OrC co) :
  Uv fun args M Q=>∃ a0 a1,args=[a0,a1]∧PZ TD cu ci TI co a0 a1 M Q:=by
 intro M x y Q hQ
 refine⟨_,_,rfl, ?_⟩
 unfold PZ
 rw[dS rfl (by simp),bB,dS rfl (by simp),bB]
 have k1:ag [] M (M.push (.row (aT x) false TD 0)):=(ag.refl _ _).push _
 have k2:ag [] M ((M.push (.row (aT x) false TD 0)).push (.row (aT y) false TD 0)):=k1.push _
 have h2:((M.push (.row (aT x) false TD 0)).push (.row (aT y) false TD 0)).heap (M.push (.row (aT x) false TD 0)).next=some (.row (aT y) false TD 0):=RM.aS _
 have h1:((M.push (.row (aT x) false TD 0)).push (.row (aT y) false TD 0)).heap M.next=some (.row (aT x) false TD 0):=lZ (RM.aS _) (by simp[RM.push])
 generalize (M.push (.row (aT x) false TD 0)).push (.row (aT y) false TD 0)=M2 at *
 generalize (M.push (.row (aT x) false TD 0)).next=s at *
 rw[bG,az h1 rfl,bG,az h2 rfl,bG,az h1 rfl,bG,az h2 rfl]
 refine hu ?_
 rw[az h1 rfl]
 refine⟨rfl, ?_⟩
 rw[az h2 rfl]
 refine⟨rfl, ?_⟩
 refine hi ?_
 rw[agB (M:=M2),rU]
 refine ho (xs:=[_,_]) ?_ (by simp) (hQ _ (k2.push _))
 exact Sl.new (E:=INT) [_,_]
def KC (c:aj) : Prop:=∀ {M:RM} {x y:aF} {Q:ak},(∀ M',ag [] M M'→Q (N .i64 (f3E x y)) M')→c [.agg (aB.cells x),.agg (aB.cells y)] M Q
theorem XJ {TE TI:Nat} {cs cd co:aj} (hs:yc (α:=List UInt8) (fun s=>St s) (fun x y=>decide (x<y)) cs) (hd:Uv cd) (ho:OrC co) :
  KC fun args M Q=>∃ a0 a1,args=[a0,a1]∧H5 TE cs cd TI co a0 a1 M Q:=by
 intro M x y Q hQ
 refine⟨_,_,rfl, ?_⟩
 unfold H5
 rw[dS rfl (by rw[aB.len]; decide),bB,dS rfl (by rw[aB.len]; decide),bB]
 have k1:ag [] M (M.push (.row (aB.cells x) false TE 0)):=(ag.refl _ _).push _
 have k2:ag [] M ((M.push (.row (aB.cells x) false TE 0)).push (.row (aB.cells y) false TE 0)):=k1.push _
 have h2:((M.push (.row (aB.cells x) false TE 0)).push (.row (aB.cells y) false TE 0)).heap (M.push (.row (aB.cells x) false TE 0)).next=some (.row (aB.cells y) false TE 0):=RM.aS _
 have h1:((M.push (.row (aB.cells x) false TE 0)).push (.row (aB.cells y) false TE 0)).heap M.next=some (.row (aB.cells x) false TE 0):=lZ (RM.aS _) (by simp[RM.push])
 have n1:M.next<((M.push (.row (aB.cells x) false TE 0)).push (.row (aB.cells y) false TE 0)).next:=by simp[RM.push]; omega
 have n2:(M.push (.row (aB.cells x) false TE 0)).next<((M.push (.row (aB.cells x) false TE 0)).push (.row (aB.cells y) false TE 0)).next:=by simp[RM.push]
 generalize (M.push (.row (aB.cells x) false TE 0)).push (.row (aB.cells y) false TE 0)=M2 at *
 generalize (M.push (.row (aB.cells x) false TE 0)).next=s at *
 have ld:∀ {M' : RM} {b:Nat} {z:aF},M'.heap b=some (.row (aB.cells z) false TE 0)→∀ K:AV→Prop,aA M' (.ptr b 0) 2 K=K (.agg (aT z.1)):=fun {M' b z} h K=>by
  rw[gK,RM.dw h (by show 0 + 2≤5; decide)]
  simp[aB]
 rw[bG,az h1 rfl,bG,az h2 rfl,bG,az h1 rfl,bG,az h2 rfl,bG,ld h1,bG,ld h2]
 refine hs ?_
 rw[az h1 rfl]
 refine⟨rfl, ?_⟩
 rw[az h2 rfl]
 refine⟨rfl, ?_⟩
 rw[ld h1]
 refine⟨rfl, ?_⟩
 rw[ld h2]
 refine⟨rfl, ?_⟩
 refine hs ?_
 rw[ld h1]
 refine⟨rfl, ?_⟩
 rw[ld h2]
 refine⟨rfl, ?_⟩
 refine hd fun M3 k3=>?_
 rw[am8 (M:=M3),rU]
 refine ho (xs:=[_,_,_]) (Sl.new (E:=INT) [_,_,_]) (by simp) ?_
 have e:Me [c3 (fun x y:List UInt8=>decide (x<y)) x.2.1 y.2.1,c3 (fun x y:List UInt8=>decide (x<y)) x.2.2.1 y.2.2.1,f3D x.1 y.1]=f3E x y:=by
  simp only[Me,f3E]
  congr 2
  unfold Gl; split <;> simp_all
 rw[e]
 exact hQ _ ((k2.trans k3).push _)
theorem agQ {cv:FuncId→aj} {n:Nat} (h:KC (cv n)) : oF aB gp (bT cv (.fn (.func n) [] [])):=by
 intro M x y Q hQ
 exact⟨n,[],[],rfl,h fun M' k=>hQ _ _ (apU x y) k⟩
abbrev oK:=aD × (Int × (List UInt8 × (List UInt8 × List UInt8)))
def EvE:Enc oK:=⟨6,fun e=>aT e.1++[N .i64 e.2.1,St e.2.2.1,St e.2.2.2.1,St e.2.2.2.2],fun _=>rfl,fun _=>rfl⟩
abbrev gF (e:oK) (kv:AV) : List AV:=EvE.cells e++[kv]
theorem YE {M:RM} {c p:Bool} {f:KR→Prop} {P:RM→Prop} {G:AV→RM→Prop} (h0:P M) (hf:c=false→∀ k:KR,(∀ M',P M'→k (Bo p) M' none)→f k) (hG:∀ M',P M'→G (Bo (c || p)) M') :
  af (Bo c) false f (fun k=>k .undef M none) (fun t M' b=>aK (Bo c) (Bo true) t fun u=>G u M'):=by
 cases c with
 | true=>rw[Iz]; dsimp only; rw[eT]; exact hG M h0
 | false=>rw[qV]; exact hf rfl _ fun M' h=>by rw[df]; exact hG M' h
theorem Ih {M:RM} {c p:Bool} {f:ak→Prop} {G:AV→RM→Prop} (hf:c=false→∀ k:ak,k (Bo p) M→f k) (hG:G (Bo (c || p)) M) :
  ah (Bo c) false f (fun k=>k .undef M) (fun t M'=>aK (Bo c) (Bo true) t fun u=>G u M'):=by
 cases c with
 | true=>rw[pz]; dsimp only; rw[eT]; exact hG
 | false=>rw[iq]; exact hf rfl _ (by rw[df]; exact hG)
theorem agq {M:RM} {c q r:Bool} {f0:KR→Prop} {f:RM→KR→Prop} {P:RM→Prop} {G:AV→RM→Prop} (h0:P M) (hf0:c=false→∀ k:KR,k (Bo q) M none→f0 k) (hf:c=false→q=true→∀ k:KR,(∀ M',P M'→k (Bo r) M' none)→f M k) (hG:∀ M',P M'→G (Bo (c || (q && r))) M') :
  af (Bo c) false f0 (fun k=>k .undef M none) fun t45 M1 b1=>af t45 true (f M1) (fun k=>k .undef M1 none) fun t54 M2 b2=>af (Bo c) false (fun k3=>aK t45 t54 (Bo false) fun t55=>k3 t55 M2 none) (fun k=>k .undef M2 none) fun t55 M3 b3=>aK (Bo c) (Bo true) t55 fun t56=>G t56 M3:=by
 cases c with
 | true=>rw[Iz]; dsimp only; rw[ad7]; dsimp only; rw[Iz]; dsimp only; rw[eT]; exact hG M h0
 | false =>
   rw[qV]
   refine hf0 rfl _ ?_
   cases q with
   | false=>rw[pq]; dsimp only; rw[qV]; dsimp only; rw[df,df]; exact hG M h0
   | true =>
     rw[o8]
     refine hf rfl rfl _ fun M' h=>?_
     rw[qV]; dsimp only; rw[eT,df]; exact hG M' h
theorem SE {M:RM} {c q r:Bool} {f0:ak→Prop} {f:RM→ak→Prop} {G:AV→RM→Prop} (hf0:c=false→∀ k:ak,k (Bo q) M→f0 k) (hf:c=false→q=true→∀ k:ak,k (Bo r) M→f M k) (hG:G (Bo (c || (q && r))) M) :
  ah (Bo c) false f0 (fun k=>k .undef M) fun t45 M1=>ah t45 true (f M1) (fun k=>k .undef M1) fun t54 M2=>ah (Bo c) false (fun k3=>aK t45 t54 (Bo false) fun t55=>k3 t55 M2) (fun k=>k .undef M2) fun t55 M3=>aK (Bo c) (Bo true) t55 fun t56=>G t56 M3:=by
 cases c with
 | true=>rw[pz]; dsimp only; rw[Em]; dsimp only; rw[pz]; dsimp only; rw[eT]; exact hG
 | false =>
   rw[iq]
   refine hf0 rfl _ ?_
   cases q with
   | false=>rw[bS]; dsimp only; rw[iq]; dsimp only; rw[df,df]; exact hG
   | true =>
     rw[dx]
     refine hf rfl rfl _ ?_
     rw[iq]; dsimp only; rw[eT,df]; exact hG
def qz (a b:aD) : Bool:=decide (a.2<b.2) || (decide (a.2=b.2) && decide (a.1<b.1))
def yF (c:aj) : Prop:=∀ {M:RM} {a b:aD} {Q:ak},(∀ M',ag [] M M'→Q (Bo (qz a b)) M')→c [.agg (aT a),.agg (aT b)] M Q
theorem Ry {M1:RM} {T m1 m2:Nat} {a b:aD} {K:AV→RM→Prop} (h1:M1.heap m1=some (.row (aT a) false T 0)) (h2:M1.heap m2=some (.row (aT b) false T 0)) (hK:K (Bo (qz a b)) M1) :
  aJ (.ptr m1 0) 1 fun t5=>au M1 t5 fun t6=>aJ (.ptr m2 0) 1 fun t7=>au M1 t7 fun t8=>ae .lss t6 t8 fun t9 =>
  ah t9 false (fun k'=>aJ (.ptr m1 0) 1 fun bQ=>au M1 bQ fun t12=>aJ (.ptr m2 0) 1 fun t13=>au M1 t13 fun t14=>ae .eql t12 t14 fun t15=>k' t15 M1) (fun k=>k .undef M1) fun t16 eX =>
  ah t16 true (fun k'=>aJ (.ptr m1 0) 0 fun t17=>au eX t17 fun t18=>aJ (.ptr m2 0) 0 fun t19=>au eX t19 fun t20=>ae .lss t18 t20 fun t21=>k' t21 eX) (fun k=>k .undef eX) fun G5 gq =>
  ah t9 false (fun Av=>aK t16 G5 (Bo false) fun t22=>Av t22 gq) (fun k=>k .undef gq) fun H6 jb =>
  aK t9 (Bo true) H6 fun t23=>K t23 jb:=by
 rw[bG,az h1 rfl,bG,az h2 rfl,dB,show decide ((a.2:Int)<(b.2:Int))=decide (a.2<b.2) by simp]
 refine SE (q:=decide (a.2=b.2)) (r:=decide (a.1<b.1)) (fun _ k hk=>?_) (fun _ _ k hk=>?_) hK
 ·rw[bG,az h1 rfl,bG,az h2 rfl,bU,show((a.2:Int) == (b.2:Int))=decide (a.2=b.2) by by_cases h:a.2=b.2 <;> simp[h]; omega]
  exact hk
 ·rw[bG,az h1 rfl,bG,az h2 rfl,dB]
  exact hk
theorem ZY {T:Nat} : yF fun args M Q=>∃ a0 a1,args=[a0,a1]∧Wp T a0 a1 M Q:=by
 intro M a b Q hQ
 refine⟨_,_,rfl, ?_⟩
 unfold Wp
 simp only[j6]
 rw[dS rfl (by simp),bB,dS rfl (by simp),bB]
 exact Ry (lZ (RM.aS _) (by simp[RM.push])) (RM.aS _) (hQ _ (((ag.refl _ _).push _).push _))
theorem XA {T:Nat} : yF fun args M Q=>∃ a0 a1,args=[a0,a1]∧LU T a0 a1 M Q:=by
 intro M a b Q hQ
 refine⟨_,_,rfl, ?_⟩
 unfold LU
 simp only[j6]
 rw[dS rfl (by simp),bB,dS rfl (by simp),bB]
 exact Ry (lZ (RM.aS _) (by simp[RM.push])) (RM.aS _) (hQ _ (((ag.refl _ _).push _).push _))
def names (c f v:List UInt8) : Bool:=decide (1≤c.length) && decide (c.length≤64) && decide (f.length≤64) && decide (v.length≤512)
def ak8:Option aD→aD→Bool
 | none,_=>true
 | some q,k=>qz q k
def iw (d:aD) (p:Option aD) : List aD→Bool
 | []=>true
 | k :: ks=>good k && !decide (k=d) && ak8 p k && iw d (some k) ks
def Cw (e:oK) : Bool:=(decide (e.2.1=1) && decide (e.2.2.2.1≠[])) || (decide (e.2.1=2) && decide (e.2.2.2.2=[]))
def dO (e:oK) (ks:List aD) : Bool:=good e.1 && names e.2.2.1 e.2.2.2.1 e.2.2.2.2 && decide (ks.length≤64) && iw e.1 none ks && Cw e
def Wl (c:aj) : Prop:=∀ {M:RM} {x y z:List UInt8} {Q:ak},Q (Bo (names x y z)) M→c [St x,St y,St z] M Q
theorem aa1:Wl fun args M Q=>∃ a0 a1 a2,args=[a0,a1,a2]∧Dc a0 a1 a2 M Q:=by
 intro M x y z Q hQ
 refine⟨_,_,_,rfl, ?_⟩
 unfold Dc
 simp only[j6]
 rw[pE,iK]
 refine andM (p:=decide (x.length≤64)) (fun _ k hk=>?_) ?_
 ·rw[pE,lV,show decide ((x.length:Int)≤64)=decide (x.length≤64) by simp; omega]; exact hk
 refine andM (p:=decide (y.length≤64)) (fun _ k hk=>?_) ?_
 ·rw[pE,lV,show decide ((y.length:Int)≤64)=decide (y.length≤64) by simp; omega]; exact hk
 refine andM (p:=decide (z.length≤512)) (fun _ k hk=>?_) ?_
 ·rw[pE,lV,show decide ((z.length:Int)≤512)=decide (z.length≤512) by simp; omega]; exact hk
 rw[show decide ((x.length:Int) ≥ 1)=decide (1≤x.length) by simp; omega]
 exact hQ
def zS (c:aj) : Prop:=∀ {M:RM} {e:oK} {kv:AV} {ks:List aD} {Q:ak},Sl eQ M kv ks→(∀ M',ag [] M M'→Q (Bo (dO e ks)) M')→c [.agg (gF e kv)] M Q
theorem BM {M:RM} {b T:Nat} {e:oK} {kv:AV} (h:M.heap b=some (.row (gF e kv) false T 0)) {K:AV→Prop} : aA M (.ptr b 0) 2 K=K (.agg (aT e.1)):=by
 have e2:((gF e kv).drop 0).take 2=aT e.1:=rfl
 rw[gK,RM.dw h (by show 0 + 2≤7; decide),e2]
 simp
theorem N7 {M:RM} {e:oK} {kv:AV} {ks:List aD} (h:Sl eQ M kv ks) : (gF e kv).all oneCell=true:=by
 rw[List.all_append,EvE.one,List.all_cons,aL.one h]; rfl
theorem vk {M:RM} {kv:AV} {ks:List aD} (h:Sl eQ M kv ks) {i:Nat} (hi:i<ks.length) {kd:IntKind} {K:AV→Prop} : (ai kv (N kd (i:Int)) 2 fun p=>aA M p 2 K)=K (.agg (aT ks[i])):=by
 obtain⟨b,o,_,_,hidx,hld⟩:=Sl.at (E:=eQ) (i:=i) h 2 (i:Int) hi rfl rfl
 rw[hidx,gK,hld]
 simp[eQ]
def BS (ks:List aD) (i:Nat) : Option aD:=if i=0 then none else ks[i - 1]?
theorem HV {d:aD} {ks:List aD} {i:Nat} (hi:i<ks.length) : iw d (BS ks i) (ks.drop i) =
  (good ks[i] && !decide (ks[i]=d) && (if h:0<i then qz (ks[i - 1]'(by omega)) ks[i] else true) && iw d (BS ks (i + 1)) (ks.drop (i + 1))):=by
 rw[List.drop_eq_getElem_cons hi,iw]
 have e2:BS ks (i + 1)=some ks[i]:=by rw[BS,if_neg (by omega),Nat.add_sub_cancel,List.getElem?_eq_getElem hi]
 rw[e2]
 by_cases h0:i=0
 ·subst h0; rfl
 ·have e1:BS ks i=some (ks[i - 1]'(by omega)):=by rw[BS,if_neg h0,List.getElem?_eq_getElem (by omega)]
  rw[e1,dif_pos (by omega)]; rfl
theorem X0 {TE TD:Nat} {cg cn cl:aj} (hg:BF cg) (hn:Wl cn) (hl:yF cl) : zS fun args M Q=>∃ a0,args=[a0]∧Ue TE cg cn TD cl a0 M Q:=by
 intro M0 e kv ks Q hs0 hQ
 refine⟨_,rfl, ?_⟩
 unfold Ue
 simp only[j6,fB,dY,eP]
 rw[dS (N7 hs0) (by simp),bB]
 have k0:ag [] M0 (M0.push (.row (gF e kv) false TE 0)):=(ag.refl _ _).push _
 have h0:(M0.push (.row (gF e kv) false TE 0)).heap M0.next=some (.row (gF e kv) false TE 0):=RM.aS _
 have hlt:M0.next<(M0.push (.row (gF e kv) false TE 0)).next:=by simp[RM.push]
 have hs:=aL.keep hs0 k0 (by simp)
 generalize M0.push (.row (gF e kv) false TE 0)=M at *
 generalize M0.next=b at *
 have hs:Sl eQ M kv ks:=hs
 rw[bG,BM h0]
 refine hg fun M1 k1=>?_
 have h1:=k1.aP h0 hlt (by simp)
 have s1:Sl eQ M1 kv ks:=aL.keep hs k1 (by simp)
 rw[bH]
 refine Ih (p:=!names e.2.2.1 e.2.2.2.1 e.2.2.2.2) (fun _ k hk=>?_) ?_
 ·rw[bG,az h1 rfl,bG,az h1 rfl,bG,az h1 rfl]
  refine hn ?_
  rw[bH]
  exact hk
 refine Ih (p:=decide (ks.length > 64)) (fun _ k hk=>?_) ?_
 ·rw[bG,az h1 rfl,aL.len s1,jS,show decide ((ks.length:Int) > 64)=decide (ks.length > 64) by simp; omega]
  exact hk
 refine aG (fun hc=>?_) (fun hc=>?_)
 ·have:dO e ks=false:=by
   unfold dO
   simp only[Bool.or_eq_true,Bool.not_eq_true',decide_eq_true_eq] at hc
   rcases hc with(hc | hc) | hc
   ·rw[hc]; rfl
   ·rw[hc,Bool.and_false]; rfl
   ·rw[decide_eq_false (show ¬ (ks.length≤64) by omega),Bool.and_false]; rfl
  rw[this] at hQ
  exact hQ M1 (k0.trans k1)
 simp only[Bool.or_eq_false_iff,Bool.not_eq_false',decide_eq_false_iff_not] at hc
 obtain⟨⟨hc1,hc2⟩,hc3⟩:=hc
 have qy:dO e ks=(iw e.1 none ks && Cw e):=by
  unfold dO
  rw[hc1,hc2,decide_eq_true (show(ks.length≤64) by omega)]; simp
 rw[bG,az h1 rfl,aL.len s1]
 refine aI (fun m ys M3=>∃ i:Nat,m=ks.length - i∧ys=[N .i64 (i:Int)]∧i≤ks.length∧ag [] M1 M3∧iw e.1 none ks=iw e.1 (BS ks i) (ks.drop i)) _ ⟨0,rfl,rfl,Nat.zero_le _,ag.refl _ _,rfl⟩ ?_
 rintro next m ys M3 hnext ⟨i,rfl,rfl,hi,k3,hm⟩
 dsimp only[aa]
 have n1:=k1.next
 have h3:=k3.aP h1 (by omega) (by simp)
 have s3:Sl eQ M3 kv ks:=aL.keep s1 k3 (by simp)
 have kk3:=(k0.trans k1).trans k3
 rw[ed]
 refine aG (fun hlt2=>?_) (fun hge=>?_)
 ·have hlt2:i<ks.length:=of_decide_eq_true hlt2
  rw[HV hlt2] at hm
  rw[vk s3 hlt2,bB,gz (n:=2) (x:=.agg (aT ks[i])) (l:=[N .i64 0,N .u64 0]) (RM.aS _) rfl rfl rfl]
  have k4:ag [] M3 ((M3.push (.row [N .i64 0,N .u64 0] false TD 0)).put M3.next (.row (AV.agg (aT ks[i])).cells false TD 0)):=((ag.refl _ _).push _).new _ (Nat.le_refl _)
  have hk4:((M3.push (.row [N .i64 0,N .u64 0] false TD 0)).put M3.next (.row (AV.agg (aT ks[i])).cells false TD 0)).heap M3.next=some (.row (aT ks[i]) false TD 0):=aR _
  have hn4:M3.next<((M3.push (.row [N .i64 0,N .u64 0] false TD 0)).put M3.next (.row (AV.agg (aT ks[i])).cells false TD 0)).next:=by simp[RM.push,RM.put]
  generalize (M3.push (.row [N .i64 0,N .u64 0] false TD 0)).put M3.next (.row (AV.agg (aT ks[i])).cells false TD 0)=M4 at *
  generalize M3.next=s at *
  rw[fA (n:=2) hk4 rfl]
  refine hg fun M5 k5=>?_
  have hk5:=k5.aP hk4 hn4 (by simp)
  have h5:=(k4.trans k5).aP h3 (by have:=k3.next; omega) (by simp)
  have s5:Sl eQ M5 kv ks:=aL.keep s3 (k4.trans k5) (by simp)
  have kk5:=(k3.trans k4).trans k5
  rw[bH]
  refine YE (P:=fun M'=>M'=M5) (p:=decide (ks[i]=e.1)) rfl (fun _ k hk=>?_) fun M' hM'=>?_
  ·rw[fA (n:=2) hk5 rfl,bG,BM h5,yz rfl rfl (MZ _ _),Bool.bne_false]
   exact hk M5 rfl
  subst hM'
  refine agq (P:=fun M6=>ag [] M1 M6) (q:=decide (i > 0)) (r:=!(if h:0<i then qz (ks[i - 1]'(by omega)) ks[i] else true)) kk5 (fun _ k hk=>?_) (fun _ hq k hk=>?_) fun M6 k6=>?_
  ·rw[show(0:Int)=((0:Nat) : Int) from rfl,pG]
   exact hk
  ·have hq:0<i:=of_decide_eq_true hq
   rw[bG,az h5 rfl,bu (by omega) (by omega),vk s5 (by omega),fA (n:=2) hk5 rfl]
   refine hl fun M7 k7=>?_
   rw[bH,← dif_pos (c:=0<i) (t:=fun h=>qz (ks[i - 1]'(by omega)) ks[i]) (e:=fun _=>true) hq]
   exact hk M7 (kk5.trans k7)
  refine aG (fun hb=>?_) (fun hb=>?_)
  ·have:iw e.1 none ks=false:=by
    rw[hm]
    simp only[Bool.or_eq_true,Bool.and_eq_true,Bool.not_eq_true',decide_eq_true_eq] at hb
    rcases hb with(hb | hb) | ⟨_,hb⟩
    ·rw[hb]; rfl
    ·rw[show decide (ks[i]=e.1)=true by simpa using hb]; simp
    ·rw[hb]; simp
   rw[qy,this] at hQ
   exact hQ M6 ((k0.trans k1).trans k6)
  ·rw[add1 (by omega)]
   refine hnext _ _ _ (by omega) ⟨i + 1,rfl,rfl,by omega,k6, ?_⟩
   simp only[Bool.or_eq_false_iff,Bool.and_eq_false_iff,Bool.not_eq_false',decide_eq_false_iff_not] at hb
   obtain⟨⟨hb1,hb2⟩,hb3⟩:=hb
   rw[hm,hb1,show decide (ks[i]=e.1)=false by simpa using hb2]
   rcases hb3 with hb3 | hb3
   ·rw[dif_neg hb3]; simp
   ·rw[hb3]; simp
 ·have he:i=ks.length:=by
   have:¬ i<ks.length:=of_decide_eq_false hge
   omega
  subst he
  rw[List.drop_length,iw] at hm
  rw[qy,hm,Bool.true_and] at hQ
  have op1:∀ n:Int,((e.2.1:Int) == n)=decide (e.2.1=n):=fun n=>by by_cases h:e.2.1=n <;> simp[h]
  rw[bG,az h3 rfl,bU,op1]
  refine andM (p:=decide (e.2.2.2.1≠[])) (fun _ k hk=>?_) ?_
  ·rw[bG,az h3 rfl,qE,show(e.2.2.2.1 != [])=decide (e.2.2.2.1≠[]) by by_cases h:e.2.2.2.1=[] <;> simp[h]]
   exact hk
  refine SE (q:=decide (e.2.1=2)) (r:=decide (e.2.2.2.2=[])) (fun _ k hk=>?_) (fun _ _ k hk=>?_) (hQ M3 kk3)
  ·rw[bG,az h3 rfl,bU,op1]
   exact hk
  ·rw[bG,az h3 rfl,FD,show(e.2.2.2.2 == [])=decide (e.2.2.2.2=[]) by by_cases h:e.2.2.2.2=[] <;> simp[h]]
   exact hk
theorem Qa {TE:Nat} {cg cl:aj} (hg:BF cg) (hl:yF cl) : zS fun args M Q=>∃ a0,args=[a0]∧Cr TE cg cl a0 M Q:=by
 intro M0 e kv ks Q hs0 hQ
 refine⟨_,rfl, ?_⟩
 unfold Cr
 simp only[j6,fB,dY,eP]
 rw[dS (N7 hs0) (by simp),bB]
 have k0:ag [] M0 (M0.push (.row (gF e kv) false TE 0)):=(ag.refl _ _).push _
 have h0:(M0.push (.row (gF e kv) false TE 0)).heap M0.next=some (.row (gF e kv) false TE 0):=RM.aS _
 have hlt:M0.next<(M0.push (.row (gF e kv) false TE 0)).next:=by simp[RM.push]
 have hs:=aL.keep hs0 k0 (by simp)
 generalize M0.push (.row (gF e kv) false TE 0)=M at *
 generalize M0.next=b at *
 have hs:Sl eQ M kv ks:=hs
 rw[bG,BM h0]
 refine hg fun M1 k1=>?_
 have h1:=k1.aP h0 hlt (by simp)
 have s1:Sl eQ M1 kv ks:=aL.keep hs k1 (by simp)
 have op1:∀ n:Int,((e.2.1:Int) == n)=decide (e.2.1=n):=fun n=>by by_cases h:e.2.1=n <;> simp[h]
 have op2:∀ n:Int,((e.2.1:Int) != n)=decide (e.2.1≠n):=fun n=>by by_cases h:e.2.1=n <;> simp[h]
 rw[bH]
 refine SE (q:=decide (e.2.1≠1)) (r:=decide (e.2.1≠2)) (fun _ k hk=>?_) (fun _ _ k hk=>?_) ?_
 ·rw[bG,az h1 rfl,ll,op2]; exact hk
 ·rw[bG,az h1 rfl,ll,op2]; exact hk
 refine Ih (p:=decide (e.2.2.1.length<1)) (fun _ k hk=>?_) ?_
 ·rw[bG,az h1 rfl,pE,dB,show decide ((e.2.2.1.length:Int)<1)=decide (e.2.2.1.length<1) from decide_eq_decide.2 (by omega)]; exact hk
 refine Ih (p:=decide (e.2.2.1.length > 64)) (fun _ k hk=>?_) ?_
 ·rw[bG,az h1 rfl,pE,jS,show decide ((e.2.2.1.length:Int) > 64)=decide (e.2.2.1.length > 64) by simp; omega]; exact hk
 refine Ih (p:=decide (e.2.2.2.1.length > 64)) (fun _ k hk=>?_) ?_
 ·rw[bG,az h1 rfl,pE,jS,show decide ((e.2.2.2.1.length:Int) > 64)=decide (e.2.2.2.1.length > 64) by simp; omega]; exact hk
 refine Ih (p:=decide (e.2.2.2.2.length > 512)) (fun _ k hk=>?_) ?_
 ·rw[bG,az h1 rfl,pE,jS,show decide ((e.2.2.2.2.length:Int) > 512)=decide (e.2.2.2.2.length > 512) by simp; omega]; exact hk
 refine Ih (p:=decide (ks.length > 64)) (fun _ k hk=>?_) ?_
 ·rw[bG,az h1 rfl,aL.len s1,jS,show decide ((ks.length:Int) > 64)=decide (ks.length > 64) by simp; omega]; exact hk
 have kk1:=k0.trans k1
 refine aG (fun hc=>?_) (fun hc=>?_)
 ·have:dO e ks=false:=by
   simp only[Bool.or_eq_true,Bool.and_eq_true,Bool.not_eq_true',decide_eq_true_eq] at hc
   simp only[dO,names,Cw]
   rcases hc with(((((hc | ⟨hc1,hc2⟩) | hc) | hc) | hc) | hc) | hc
   ·rw[hc]; rfl
   ·simp[hc1,hc2]
   ·rw[decide_eq_false (show ¬ (1≤e.2.2.1.length) by omega)]; simp
   ·rw[decide_eq_false (show ¬ (e.2.2.1.length≤64) by omega)]; simp
   ·rw[decide_eq_false (show ¬ (e.2.2.2.1.length≤64) by omega)]; simp
   ·rw[decide_eq_false (show ¬ (e.2.2.2.2.length≤512) by omega)]; simp
   ·rw[decide_eq_false (show ¬ (ks.length≤64) by omega)]; simp
  rw[this] at hQ
  exact hQ M1 kk1
 simp only[Bool.or_eq_false_iff,Bool.and_eq_false_iff,Bool.not_eq_false',decide_eq_false_iff_not,Decidable.not_not] at hc
 obtain⟨⟨⟨⟨⟨⟨hc1,hop⟩,hc2⟩,hc3⟩,hc4⟩,hc5⟩,hc6⟩:=hc
 have qy:dO e ks=(iw e.1 none ks && Cw e):=by
  simp only[dO,names]
  rw[hc1,decide_eq_true (show(1≤e.2.2.1.length) by omega),decide_eq_true (show(e.2.2.1.length≤64) by omega),decide_eq_true (show(e.2.2.2.1.length≤64) by omega),decide_eq_true (show(e.2.2.2.2.length≤512) by omega),decide_eq_true (show(ks.length≤64) by omega)]
  simp
 rw[qy] at hQ
 rw[bG,az h1 rfl,bU,op1]
 refine andM (p:=decide (e.2.2.2.1=[])) (fun _ k hk=>?_) ?_
 ·rw[bG,az h1 rfl,FD,show(e.2.2.2.1 == [])=decide (e.2.2.2.1=[]) by by_cases h:e.2.2.2.1=[] <;> simp[h]]
  exact hk
 refine SE (q:=decide (e.2.1=2)) (r:=decide (e.2.2.2.2≠[])) (fun _ k hk=>?_) (fun _ _ k hk=>?_) ?_
 ·rw[bG,az h1 rfl,bU,op1]
  exact hk
 ·rw[bG,az h1 rfl,qE,show(e.2.2.2.2 != [])=decide (e.2.2.2.2≠[]) by by_cases h:e.2.2.2.2=[] <;> simp[h]]
  exact hk
 have aqU:((decide (e.2.1=1) && decide (e.2.2.2.1=[])) || (decide (e.2.1=2) && decide (e.2.2.2.2≠[])))=!Cw e:=by
  unfold Cw
  rcases hop with hop | hop
  ·simp[hop]
  ·simp[hop]
 rw[aqU]
 refine aG (fun hb=>?_) (fun hb=>?_)
 ·rw[show Cw e=false by simpa using hb,Bool.and_false] at hQ
  exact hQ M1 kk1
 rw[show Cw e=true by simpa using hb,Bool.and_true] at hQ
 refine aI (fun m ys M3=>∃ i:Nat,m=ks.length - i∧ys=[N .i64 (i:Int)]∧i≤ks.length∧ag [] M1 M3∧iw e.1 none ks=iw e.1 (BS ks i) (ks.drop i)) _ ⟨0,rfl,rfl,Nat.zero_le _,ag.refl _ _,rfl⟩ ?_
 rintro next m ys M3 hnext ⟨i,rfl,rfl,hi,k3,hm⟩
 dsimp only[aa]
 have n1:=k1.next
 have h3:=k3.aP h1 (by omega) (by simp)
 have s3:Sl eQ M3 kv ks:=aL.keep s1 k3 (by simp)
 rw[bG,az h3 rfl,aL.len s3,ed]
 refine aG (fun hlt2=>?_) (fun hge=>?_)
 ·have hlt2:i<ks.length:=of_decide_eq_true hlt2
  rw[HV hlt2] at hm
  rw[bG,az h3 rfl,vk s3 hlt2]
  refine hg fun M5 k5=>?_
  have h5:=k5.aP h3 (by have:=k3.next; omega) (by simp)
  have s5:Sl eQ M5 kv ks:=aL.keep s3 k5 (by simp)
  have kk5:=k3.trans k5
  rw[bH]
  refine YE (P:=fun M'=>M'=M5) (p:=decide (ks[i]=e.1)) rfl (fun _ k hk=>?_) fun M' hM'=>?_
  ·rw[bG,az h5 rfl,vk s5 hlt2,bG,BM h5,yz rfl rfl (MZ _ _),Bool.bne_false]
   exact hk M5 rfl
  subst hM'
  refine agq (P:=fun M6=>ag [] M1 M6) (q:=decide (i > 0)) (r:=!(if h:0<i then qz (ks[i - 1]'(by omega)) ks[i] else true)) kk5 (fun _ k hk=>?_) (fun _ hq k hk=>?_) fun M6 k6=>?_
  ·rw[show(0:Int)=((0:Nat) : Int) from rfl,pG]
   exact hk
  ·have hq:0<i:=of_decide_eq_true hq
   rw[bG,az h5 rfl,bu (by omega) (by omega),vk s5 (by omega),bG,az h5 rfl,vk s5 hlt2]
   refine hl fun M7 k7=>?_
   rw[bH,← dif_pos (c:=0<i) (t:=fun h=>qz (ks[i - 1]'(by omega)) ks[i]) (e:=fun _=>true) hq]
   exact hk M7 (kk5.trans k7)
  refine aG (fun hb=>?_) (fun hb=>?_)
  ·have:iw e.1 none ks=false:=by
    rw[hm]
    simp only[Bool.or_eq_true,Bool.and_eq_true,Bool.not_eq_true',decide_eq_true_eq] at hb
    rcases hb with(hb | hb) | ⟨_,hb⟩
    ·rw[hb]; rfl
    ·rw[show decide (ks[i]=e.1)=true by simpa using hb]; simp
    ·rw[hb]; simp
   rw[this] at hQ
   exact hQ M6 (kk1.trans k6)
  ·rw[add1 (by omega)]
   refine hnext _ _ _ (by omega) ⟨i + 1,rfl,rfl,by omega,k6, ?_⟩
   simp only[Bool.or_eq_false_iff,Bool.and_eq_false_iff,Bool.not_eq_false',decide_eq_false_iff_not] at hb
   obtain⟨⟨hb1,hb2⟩,hb3⟩:=hb
   rw[hm,hb1,show decide (ks[i]=e.1)=false by simpa using hb2]
   rcases hb3 with hb3 | hb3
   ·rw[dif_neg hb3]; simp
   ·rw[hb3]; simp
 ·have he:i=ks.length:=by
   have:¬ i<ks.length:=of_decide_eq_false hge
   omega
  subst he
  rw[List.drop_length,iw] at hm
  rw[hm] at hQ
  exact hQ M3 (kk1.trans k3)
def Jk (T:Nat) (c:aj) : Prop:=∀ {M:RM} {v:AV} {xs:List aF} {Q:ak},Sl aB M v xs→xs.length≤1000000→(∀ v' M',Ow aB M' M.next T v' xs→ag [] M M'→Q v' M')→c [v] M Q
theorem Yg {T:Nat} : Jk T fun args M Q=>∃ a0,args=[a0]∧yX T a0 M Q:=by
 intro M v xs Q hs hl hQ
 refine⟨_,rfl, ?_⟩
 unfold yX
 have h5:aL M 5 v (aB.row xs) xs.length:=hs
 exact Ra (size:=5) (bytes:=64) h5 (Enc.ve _ _) (by decide) (by omega) (by omega) fun v' M' ho k=>hQ v' M' ho k
def PN (c:aj) : Prop:=∀ {M:RM} {v:AV} {l:List aD} {d:aD} {Q:ak},Sl eQ M v l→l.length≤1000000→(∀ (n:Int) M',(decide (n ≥ 0)=decide (d∈l))→ag [] M M'→Q (N .i64 n) M')→c [v,.agg (aT d)] M Q
theorem XQ {T:Nat} : PN fun args M Q=>∃ a0 a1,args=[a0,a1]∧CF T a0 a1 M Q:=by
 intro M0 v l d Q hs0 hl hQ
 refine⟨_,_,rfl, ?_⟩
 unfold CF
 rw[dS rfl (by simp),bB]
 have k0:ag [] M0 (M0.push (.row (aT d) false T 0)):=(ag.refl _ _).push _
 have h0:(M0.push (.row (aT d) false T 0)).heap M0.next=some (.row (aT d) false T 0):=RM.aS _
 have hs:Sl eQ (M0.push (.row (aT d) false T 0)) v l:=aL.keep hs0 k0 (by simp)
 generalize M0.push (.row (aT d) false T 0)=M at *
 generalize M0.next=b at *
 rw[aL.len hs]
 refine aI (fun m ys M3=>∃ i:Nat,m=l.length - i∧ys=[N .i64 (i:Int)]∧i≤l.length∧M3=M∧(d∈l↔d∈l.drop i)) _ ⟨0,rfl,rfl,Nat.zero_le _,rfl,Iff.rfl⟩ ?_
 rintro next m ys M3 hnext ⟨i,rfl,rfl,hi,rfl,hm⟩
 dsimp only[aa]
 rw[ed]
 refine aG (fun hlt=>?_) (fun hge=>?_)
 ·have hlt:i<l.length:=of_decide_eq_true hlt
  rw[List.drop_eq_getElem_cons hlt,List.mem_cons] at hm
  rw[fA (n:=2) h0 rfl,vk hs hlt,yz rfl rfl (MZ _ _),Bool.bne_false]
  refine aG (fun he=>?_) (fun he=>?_)
  ·have he:d=l[i]:=of_decide_eq_true he
   refine hQ _ _ ?_ k0
   rw[decide_eq_true (show(i:Int) ≥ 0 by omega),decide_eq_true (hm.2 (.inl he))]
  ·have he:¬ d=l[i]:=of_decide_eq_false he
   rw[add1 (by omega)]
   exact hnext _ _ _ (by omega) ⟨i + 1,rfl,rfl,by omega,rfl,hm.trans ⟨fun h=>h.resolve_left he,.inr⟩⟩
 ·have he:i=l.length:=by
   have:¬ i<l.length:=of_decide_eq_false hge
   omega
  subst he
  rw[List.drop_length] at hm
  refine hQ _ _ ?_ k0
  rw[decide_eq_false (show ¬ (-1:Int) ≥ 0 by decide),decide_eq_false (fun h=>by simpa using hm.1 h)]
def EG (c:aj) : Prop:=∀ {M:RM} {v:AV} {l:List aD} {d:aD} {Q:ak},Sl eQ M v l→l.length≤1000000→(∀ M',ag [] M M'→Q (Bo (decide (d∈l))) M')→c [v,.agg (aT d)] M Q
theorem PU {T:Nat} {ci:aj} (hi:PN ci) : EG fun args M Q=>∃ a0 a1,args=[a0,a1]∧wV T ci a0 a1 M Q:=by
 intro M0 v l d Q hs0 hl hQ
 refine⟨_,_,rfl, ?_⟩
 unfold wV
 rw[dS rfl (by simp),bB]
 have k0:ag [] M0 (M0.push (.row (aT d) false T 0)):=(ag.refl _ _).push _
 rw[fA (n:=2) (RM.aS _) rfl]
 refine hi (aL.keep hs0 k0 (by simp)) hl fun n M' hn k=>?_
 rw[iK,hn]
 exact hQ M' (k0.trans k)
def SA (P:RM→Prop) (p:aF→Bool) (c:List AV→RM→ak→Prop) : Prop:=∀ {M:RM} {x:aF} {Q:ak},P M→(∀ M',ag [] M M'→Q (Bo (p x)) M')→c [.agg (aB.cells x)] M Q
theorem vN {M:RM} {v:AV} {xs:List aF} (h:Sl aB M v xs) {i:Nat} (hi:i<xs.length) {kd:IntKind} {K:AV→Prop} : (ai v (N kd (i:Int)) 5 fun p=>aA M p 5 K)=K (.agg (aB.cells xs[i])):=by
 obtain⟨b,o,_,_,hidx,hld⟩:=Sl.at (E:=aB) (i:=i) h 5 (i:Int) hi rfl rfl
 rw[hidx,gK,hld]
 simp
def O3 (P:RM→Prop) (p:aF→Bool) (fv:AV) (c:aj) : Prop:=∀ {M:RM} {v:AV} {xs:List aF} {Q:ak},P M→(∀ M M',P M→ag [] M M'→P M')→Sl aB M v xs→xs.length≤1000000 →
 (xs.any p=false→∀ M',ag [] M M'→Q (N .i64 (-1)) M')→(∀ (i:Nat) (hi:i<xs.length),p xs[i]=true→(∀ x∈xs.take i,p x=false)→∀ M',ag [] M M'→Q (N .i64 (i:Int)) M')→c [v,fv] M Q
theorem XX {P:RM→Prop} {p:aF→Bool} {fv:AV} {cv:FuncId→aj} (hp:SA P p (bT cv fv)) : O3 P p fv fun args M Q=>∃ a0 a1,args=[a0,a1]∧sM cv a0 a1 M Q:=by
 intro M v xs Q hP hPk hs hl h0 h1
 refine⟨_,_,rfl, ?_⟩
 unfold sM
 rw[aL.len hs]
 refine aI (fun m ys M3=>∃ i:Nat,m=xs.length - i∧ys=[N .i64 (i:Int)]∧i≤xs.length∧ag [] M M3∧∀ x∈xs.take i,p x=false) _ ⟨0,rfl,rfl,Nat.zero_le _,ag.refl _ _,by simp⟩ ?_
 rintro next m ys M3 hnext ⟨i,rfl,rfl,hi,k3,hm⟩
 dsimp only[aa]
 rw[ed]
 refine aG (fun hlt=>?_) (fun hge=>?_)
 ·have hlt:i<xs.length:=of_decide_eq_true hlt
  rw[vN (aL.keep hs k3 (by simp)) hlt]
  refine hp (hPk _ _ hP k3) fun M4 k4=>?_
  refine aG (fun he=>h1 i hlt he hm M4 (k3.trans k4)) (fun he=>?_)
  rw[add1 (by omega)]
  refine hnext _ _ _ (by omega) ⟨i + 1,rfl,rfl,by omega,k3.trans k4,fun x hx=>?_⟩
  rw[List.take_succ_eq_append_getElem hlt,List.mem_append] at hx
  rcases hx with hx | hx
  ·exact hm x hx
  ·simp at hx; subst hx; exact he
 ·have he:i=xs.length:=by
   have:¬ i<xs.length:=of_decide_eq_false hge
   omega
  subst he
  rw[List.take_length] at hm
  exact h0 (by simpa using hm) M3 k3
theorem ac0 {b o n k z:Nat} (h:k≤n) (h0:0<n) : cO z (.slc b o n (.op z)) none (some (N .i64 (k:Int))) none=some (.slc b o k (.op z)):=by
 simp only[cO,bnd]
 simp[h]
 omega
theorem WN (zs:List AV) : ∀ k,(bM zs k).length=k * zs.length
 | 0=>by simp[bM]
 | k + 1=>by rw[bM,List.length_append,WN zs k,Nat.succ_mul,Nat.add_comm]
theorem Xf {zs:List AV} (h:zs.all oneCell=true) : ∀ k,(bM zs k).all oneCell=true
 | 0=>by simp[bM]
 | k + 1=>by rw[bM,List.all_append,h,Xf h k]; rfl
def Ko (T:Nat) (P:RM→Prop) (p:aF→Bool) (fv:AV) (c:aj) : Prop:=∀ {M:RM} {base:Nat} {v:AV} {xs:List aF} {Q:ak},P M→(∀ M M' ks,P M→ag ks M M'→(∀ d∈ks,d∈aH v)→P M')→Ow aB M base T v xs→xs.length≤60000 →
 (∀ v' M',Sl aB M' v' (xs.filter fun x=>!p x)→(∀ d∈aH v',d∈aH v)→ag (aH v) M M'→Q v' M')→c [v,fv] M Q
theorem Vn {T TE:Nat} {P:RM→Prop} {p:aF→Bool} {fv:AV} {cv:FuncId→aj} {ci:aj} (hi:O3 P p fv ci) (hp:SA P p (bT cv fv)) : Ko T P p fv fun args M Q=>∃ a0 a1,args=[a0,a1]∧qW ci TE cv a0 a1 M Q:=by
 intro M base v xs Q hP hPk ho hl hQ
 refine⟨_,_,rfl, ?_⟩
 unfold qW
 simp only[bR]
 have hs:Sl aB M v xs:=ho.jq
 refine hi hP (fun M M' h k=>hPk M M' [] h k (by simp)) hs (by omega) (fun hn M1 k1=>?_) (fun i hlt hpi hm M1 k1=>?_)
 ·rw[bU,show((-1:Int) == -1)=true from rfl,dD]
  have e:(xs.filter fun x=>!p x)=xs:=List.filter_eq_self.2 fun x hx=>by
   have:=List.any_eq_false.1 hn x hx
   simpa using this
  exact hQ v M1 (by rw[e]; exact aL.keep hs k1 (by simp)) (fun d hd=>hd) (k1.mono (by simp))
 rw[bU,show((i:Int) == -1)=false by rw[beq_eq_false_iff_ne]; omega,bD,add1 (by omega)]
 obtain⟨b,rfl,h1,h2,h3,h4⟩:=Own.yJ ho (by omega)
 have hsz:xs.toArray.size=xs.length:=by simp
 have hat:At aB T b xs.toArray M:=⟨by rw[h3],h2⟩
 have hel:∀ j (h:j<xs.length),xs.toArray[j]! = xs[j]:=fun j h=>by rw[P7 (by simpa using h)]; simp
 have hpre0:xs.toArray.toList.take i=(xs.take (i + 1)).filter fun x=>!p x:=by
  rw[List.take_succ_eq_append_getElem hlt,List.filter_append,List.filter_eq_self.2 fun x hx=>by simpa using hm x hx]
  simp[hpi]
 refine aI (fun m ys M3=>∃ (k j:Nat) (d:Array aF),m=xs.length - j∧ys=[N .i64 (k:Int),N .i64 (j:Int)]∧j≤xs.length∧k<j∧At aB T b d M3∧ag [b] M M3∧d.size=xs.length∧d.toList.take k=(xs.take j).filter (fun x=>!p x)∧∀ q (h:q<xs.length),j≤q→d[q]! = xs[q]) _
  ⟨i,i + 1,xs.toArray,rfl,rfl,by omega,by omega,hat.keep k1,k1.mono (by simp),hsz,hpre0,fun q h _=>hel q h⟩ ?_
 rintro next m ys M3 hnext ⟨k,j,d,rfl,rfl,hj,hkj,h3',k3,hds,hpre,hold⟩
 dsimp only[aa]
 have aec:∀ K:AV→Prop,bL (AV.slc b 0 xs.length (.op aB.size)) K=K (N .i64 (xs.length:Int)):=fun K=>by simp[nX]
 rw[aec,ed]
 have e5:aB.size=5:=rfl
 rw[e5] at *
 refine aG (fun hlt2=>?_) (fun sP=>?_)
 ·have hlt2:j<xs.length:=of_decide_eq_true hlt2
  refine aY (fun zs M'=>∃ (k' : Nat) (d' : Array aF),zs=[N .i64 (k' : Int)]∧k'<j + 1∧At aB T b d' M'∧ag [b] M M'∧d'.size=xs.length∧d'.toList.take k'=(xs.take (j + 1)).filter (fun x=>!p x)∧∀ q (h:q<xs.length),j + 1≤q→d'[q]! = xs[q]) ?_ ?_
  ·rintro zs M' ⟨k',d',rfl,c1,c2,c3,c4,c5,c6⟩
   dsimp only[aa]
   rw[add1 (by omega)]
   exact hnext _ _ _ (by omega) ⟨k',j + 1,d',rfl,rfl,by omega,c1,c2,c3,c4,c5,c6⟩
  intro J hJ
  rw[h3'.rd (z:=5) rfl hds.symm (by omega),hold j hlt2 (Nat.le_refl _),bB,gz (n:=5) (x:=.agg (aB.cells xs[j])) (l:=[(N .i64 0),(N .u64 0),(St []),(St []),(St [])]) (RM.aS _) rfl rfl rfl]
  have k4:ag [] M3 ((M3.push (.row [(N .i64 0),(N .u64 0),(St []),(St []),(St [])] false TE 0)).put M3.next (.row (AV.agg (aB.cells xs[j])).cells false TE 0)):=((ag.refl _ _).push _).new _ (Nat.le_refl _)
  have hk4:((M3.push (.row [(N .i64 0),(N .u64 0),(St []),(St []),(St [])] false TE 0)).put M3.next (.row (AV.agg (aB.cells xs[j])).cells false TE 0)).heap M3.next=some (.row (aB.cells xs[j]) false TE 0):=aR _
  have hn4:M3.next<((M3.push (.row [(N .i64 0),(N .u64 0),(St []),(St []),(St [])] false TE 0)).put M3.next (.row (AV.agg (aB.cells xs[j])).cells false TE 0)).next:=by simp[RM.push,RM.put]
  generalize (M3.push (.row [(N .i64 0),(N .u64 0),(St []),(St []),(St [])] false TE 0)).put M3.next (.row (AV.agg (aB.cells xs[j])).cells false TE 0)=M4 at *
  generalize M3.next=s at *
  rw[fA (n:=5) hk4 rfl]
  have kk4:ag [b] M M4:=k3.trans (k4.mono (cs:=[b]) (by simp))
  have hP4:P M4:=hPk M M4 [b] hP kk4 (by simp[aH])
  refine hp hP4 fun M5 k5=>?_
  have kk5:ag [b] M M5:=kk4.trans (k5.mono (cs:=[b]) (by simp))
  have aka:=h3'.keep (k4.trans k5)
  have akk:(xs.take (j + 1)).filter (fun x=>!p x)=if p xs[j] then(xs.take j).filter (fun x=>!p x) else(xs.take j).filter (fun x=>!p x)++[xs[j]]:=by
   rw[List.take_succ_eq_append_getElem hlt2,List.filter_append]
   by_cases hpj:p xs[j]=true <;> simp[hpj]
  rw[bH]
  refine aG (fun hn=>?_) (fun hn=>?_)
  ·have hpj:p xs[j]=false:=by simpa using hn
   rw[fA (n:=5) (k5.aP hk4 hn4 (by simp)) rfl,At.idx (by omega)]
   refine aka.st (z:=5) rfl (by omega) fun M6 h6 k6 _=>?_
   rw[add1 (by omega)]
   refine hJ _ _ ⟨k + 1,_,rfl,by omega,h6,kk5.trans k6,by simpa using hds, ?_,fun q h hq=>?_⟩
   ·have hkl:k<d.toList.length:=by rw[Array.length_toList]; omega
    rw[akk,hpj,← hpre,Array.toList_setIfInBounds,List.take_succ_eq_append_getElem (by rw[List.length_set]; exact hkl),List.getElem_set_self,List.take_set_of_le (Nat.le_refl _)]
    rfl
   ·rw[← hold q h (by omega),P7 (by rw[Array.size_setIfInBounds]; omega),P7 (by omega),Array.getElem_setIfInBounds_ne (by omega) (by omega)]
  ·have hpj:p xs[j]=true:=by simpa using hn
   exact hJ _ _ ⟨k,d,rfl,by omega,aka,kk5,hds,by rw[akk,hpj]; exact hpre,fun q h hq=>hold q h (by omega)⟩
 ·have hj2:j=xs.length:=by
   have:¬ j<xs.length:=of_decide_eq_false sP
   omega
  subst hj2
  rw[List.take_length] at hpre
  have hrl:(aB.row d.toList).length=xs.length * 5:=by rw[Enc.eY,Array.length_toList,hds]; rfl
  have hst:M3.stores b (0 + k * 5) (bM [(N .i64 0),(N .u64 0),(St []),(St []),(St [])] (xs.length - k))=some (M3.put b (.row ((aB.row d.toList).take (0 + k * 5)++bM [(N .i64 0),(N .u64 0),(St []),(St []),(St [])] (xs.length - k)++(aB.row d.toList).drop (0 + k * 5 + (bM [(N .i64 0),(N .u64 0),(St []),(St []),(St [])] (xs.length - k)).length)) true T 0)):=by
   refine RM.EA h3'.heap ?_ (Nat.zero_le _) (Xf rfl _)
   rw[WN,hrl]
   show 0 + k * 5 + (xs.length - k) * 5≤xs.length * 5
   omega
  rw[qG (by omega),eH]
  refine .inl ⟨_,_,_,_,_,rfl,hst, ?_⟩
  dsimp only
  rw[ac0 (by omega) (by omega),eH]
  have hlk:(xs.filter fun x=>!p x).length=k:=by rw[← hpre,List.length_take,Array.length_toList]; omega
  refine hQ _ _ ?_ (fun e he=>by simpa [aH] using he) ?_
  ·have hrow:((aB.row d.toList).take (0 + k * 5))=aB.row (xs.filter fun x=>!p x):=by
    rw[← hpre,show 0 + k * 5=k * aB.size by show 0 + k * 5=k * 5; omega,Enc.wQ]
   show aL _ 5 (.slc b 0 k (.op 5)) (aB.row (xs.filter fun x=>!p x)) (xs.filter fun x=>!p x).length
   rw[hlk]
   refine .slc _ _ _ _ _ h3'.lt ?_
   have hl:(aB.row (xs.filter fun x=>!p x)).length=k * 5:=by rw[Enc.eY,hlk]; rfl
   rw[RM.dw (aR _) (by rw[hrow]; simp[hl]),List.drop_zero,hrow,List.append_assoc,List.take_left' hl]
  ·have:ag [b] M3 (M3.put b (.row ((aB.row d.toList).take (0 + k * 5)++bM [(N .i64 0),(N .u64 0),(St []),(St []),(St [])] (xs.length - k)++(aB.row d.toList).drop (0 + k * 5 + (bM [(N .i64 0),(N .u64 0),(St []),(St []),(St [])] (xs.length - k)).length)) true T 0)):=(ag.refl _ _).put _ (.inr (by simp))
   simpa [aH] using k3.trans this
def H8 (TE:Nat) (b:Nat) (e:oK) (kv:AV) (ks:List aD) (M:RM) : Prop:=b<M.next∧M.heap b=some (.row (gF e kv) false TE 0)∧Sl eQ M kv ks
theorem H8.keep {TE b:Nat} {e:oK} {kv:AV} {ks:List aD} {M M' : RM} {bs:List Nat} (h:H8 TE b e kv ks M) (k:ag bs M M') (hb:b ∉ bs) (hk:∀ d∈aH kv,d ∉ bs) : H8 TE b e kv ks M':=by
 obtain⟨h1,h2,h3⟩:=h
 exact⟨Nat.lt_of_lt_of_le h1 k.next,k.aP h2 h1 hb,aL.keep h3 k hk⟩
theorem X9 {TE T b:Nat} {e:oK} {kv:AV} {ks:List aD} {cc:aj} (hc:EG cc) (hl:ks.length≤1000000) {M:RM} {x:aF} {Q:ak} (hP:H8 TE b e kv ks M) (hQ:∀ M',ag [] M M'→Q (Bo (decide (x.1∈ks))) M') :
  ∃ a0 a1,[AV.agg (aB.cells x),.ptr b 0]=[a0,a1]∧wE T cc a0 a1 M Q:=by
 obtain⟨h1,h2,h3⟩:=hP
 refine⟨_,_,rfl, ?_⟩
 unfold wE
 rw[dS rfl (by rw[aB.len]; decide),bB]
 have k0:ag [] M (M.push (.row (aB.cells x) false T 0)):=(ag.refl _ _).push _
 have hx:(M.push (.row (aB.cells x) false T 0)).heap M.next=some (.row (aB.cells x) false T 0):=RM.aS _
 have h2':=k0.aP h2 h1 (by simp)
 have h3' : Sl eQ (M.push (.row (aB.cells x) false T 0)) kv ks:=aL.keep h3 k0 (by simp)
 generalize M.push (.row (aB.cells x) false T 0)=M1 at *
 generalize M.next=s at *
 have e2:((aB.cells x).drop 0).take 2=aT x.1:=rfl
 have ld:∀ K:AV→Prop,aA M1 (.ptr s 0) 2 K=K (.agg (aT x.1)):=fun K=>by
  rw[gK,RM.dw hx (by rw[aB.len]; decide),e2]
  simp
 rw[bG,az h2' rfl,bG,ld]
 exact hc h3' hl fun M' k=>hQ M' (k0.trans k)
theorem ajO (a b:aF) : dG [1,1,2,2,2] (aB.cells a) (aB.cells b)=some (decide (a=b)):=by
 obtain⟨⟨d,n⟩,x,y,z⟩:=a
 obtain⟨⟨d',n'⟩,x',y',z'⟩:=b
 show dG [1,1,2,2,2] [N .i64 d,N .u64 (n:Int),St x,St y,St z] [N .i64 d',N .u64 (n' : Int),St x',St y',St z']=_
 simp only[MC,MR,EC]
 by_cases h1:d=d' <;> by_cases h2:n=n' <;> by_cases h3:x=x' <;> by_cases h4:y=y' <;> by_cases h5:z=z' <;> simp[h1,h2,h3,h4,h5]
 all_goals omega
def Qk (c:aj) : Prop:=∀ {M:RM} {v w:AV} {xs ys:List aF} {Q:ak},Sl aB M v xs→Sl aB M w ys→xs.length≤1000000→Q (Bo (decide (xs=ys))) M→c [v,w] M Q
theorem Yy:Qk fun args M Q=>∃ a0 a1,args=[a0,a1]∧yY a0 a1 M Q:=by
 intro M v w xs ys Q h1 h2 hl hQ
 refine⟨_,_,rfl, ?_⟩
 unfold yY
 rw[aL.len h1,aL.len h2,ll,aL.len h1]
 refine aG (fun hn=>?_) (fun hn=>?_)
 ·have:¬ xs=ys:=fun e=>by subst e; simp at hn
  rw[decide_eq_false this] at hQ
  exact hQ
 have hn:xs.length=ys.length:=by
  simp only[bne_eq_false_iff_eq] at hn
  omega
 refine aI (fun m zs M3=>∃ i:Nat,m=xs.length - i∧zs=[N .i64 (i:Int)]∧i≤xs.length∧M3=M∧(xs=ys↔xs.drop i=ys.drop i)) _ ⟨0,rfl,rfl,Nat.zero_le _,rfl,Iff.rfl⟩ ?_
 rintro next m zs M3 hnext ⟨i,rfl,rfl,hi,rfl,hm⟩
 dsimp only[aa]
 rw[ed]
 refine aG (fun hlt=>?_) (fun hge=>?_)
 ·have hlt:i<xs.length:=of_decide_eq_true hlt
  rw[List.drop_eq_getElem_cons hlt,List.drop_eq_getElem_cons (show i<ys.length by omega),List.cons.injEq] at hm
  rw[vN h1 hlt,vN h2 (by omega),yz rfl rfl (ajO _ _)]
  refine aG (fun he=>?_) (fun he=>?_)
  ·have he:¬ xs[i]=ys[i]'(by omega):=by simpa using he
   rw[decide_eq_false (fun e=>he (hm.1 e).1)] at hQ
   exact hQ
  ·have he:xs[i]=ys[i]'(by omega):=by simpa using he
   rw[add1 (by omega)]
   exact hnext _ _ _ (by omega) ⟨i + 1,rfl,rfl,by omega,rfl,hm.trans ⟨fun h=>h.2,fun h=>⟨he,h⟩⟩⟩
 ·have he:i=xs.length:=by
   have:¬ i<xs.length:=of_decide_eq_false hge
   omega
  subst he
  rw[List.drop_length,hn,List.drop_length] at hm
  rw[decide_eq_true (hm.2 rfl)] at hQ
  exact hQ
end Go.Ab.Crw
namespace Go.Ab.aD
open Go Go.Ab
theorem U7:∀ (a b:Nat),bM [N .u64 0] (a + b)=bM [N .u64 0] a++bM [N .u64 0] b
 | 0,b=>by simp[bM]
 | a + 1,b=>by rw[show a + 1 + b=(a + b) + 1 by omega,bM,bM,U7 a b]; simp
theorem Ug {M:RM} {b T k:Nat} {ps ys:List Nat} {u:AV} {zs:List AV} {K:ak} (hb:M.heap b=some (.row (aX.row ps++bM [N .u64 0] k) true T 0)) (hu:Sl aX M u ys) (hk:ys.length≤k) (hl:ys.length≤1000000)
  (hK:∀ M',M'.heap b=some (.row (aX.row (ps++ys)++bM [N .u64 0] (k - ys.length)) true T 0)→ag [b] M M'→M'.next=M.next→K (.slc b 0 (ps++ys).length (.op 1)) M') :
  appW T 1 8 zs false (.slc b 0 ps.length (.op 1)) u M K:=by
 have hn:=aL.oW hu zs
 have hrl:(aX.row ys).length=ys.length:=by rw[Enc.eY]; simp[aX]
 have hpl:(aX.row ps).length=ps.length:=by rw[Enc.eY]; simp[aX]
 refine⟨ys.length,aX.row ys,hn,by omega,by omega, ?_⟩
 by_cases h0:ys.length=0
 ·have:ys=[]:=List.length_eq_zero_iff.1 h0
  subst this
  refine⟨.slc b 0 ps.length (.op 1),M,by simp[uJ], ?_⟩
  have:=hK M (by simpa using hb) (ag.refl _ _) rfl
  simpa using this
 ·have hfit:0 + (ps.length + ys.length) * 1≤(aX.row ps++bM [N .u64 0] k).length:=by
   rw[List.length_append,hpl,(qO k).1]; omega
  refine⟨.slc b 0 (ps.length + ys.length) (.op 1),M.put b (.row (aX.row (ps++ys)++bM [N .u64 0] (k - ys.length)) true T 0), ?_, ?_⟩
  ·simp only[uJ,if_neg h0,hb]
   rw[if_pos (by simp),if_pos hfit,RM.yw hb,rF (by rw[hrl,List.length_append,hpl,(qO k).1]; omega) (by omega) (aX.ve ys)]
   simp only[Option.map_some]
   congr 4
   rw[Enc.vP]
   have e1:(aX.row ps++bM [N .u64 0] k).take (0 + ps.length * 1)=aX.row ps:=by rw[List.take_left' (by omega)]
   have e2:(aX.row ps++bM [N .u64 0] k).drop (0 + ps.length * 1 + (aX.row ys).length)=bM [N .u64 0] (k - ys.length):=by
    have:k=ys.length + (k - ys.length):=by omega
    rw[show bM [N .u64 0] k=bM [N .u64 0] ys.length++bM [N .u64 0] (k - ys.length) by rw[← U7]; congr 1,← List.append_assoc,List.drop_left' (by rw[List.length_append,hpl,(qO _).1,hrl]; omega)]
   rw[e1,e2]
  ·have:=hK _ (aR _) ((ag.refl _ _).put _ (.inr (by simp))) rfl
   rw[List.length_append] at this
   exact this
def OY (T:Nat) (c:aj) : Prop:=∀ {M:RM} {bb TS:Nat} {v w:AV} {xs ys:List Nat} {Q:ak},M.heap bb=some (.row [v,w] false TS 0)→bb<M.next→Sl aX M v xs→Sl aX M w ys→xs.length≤1000000→ys.length≤1000000 →
 (∀ r M',Ow aX M' M.next T r (xs++ys)→ag [] M M'→Q r M')→c [.slc bb 0 2 (.ex 2)] M Q
theorem Yp {TS T:Nat} {cg:aj} (hg:ZX T cg) : OY T fun args M Q=>∃ a0,args=[a0]∧wy TS cg T a0 M Q:=by
 intro M bb TB v w xs ys Q hb hbl hv hw hx hy hQ
 refine⟨_,rfl, ?_⟩
 unfold wy
 simp only[xJ]
 have at0:∀ K:AV→Prop,ai (.slc bb 0 2 (.ex 2)) (N .i64 ((0:Nat) : Int)) 1 K=K (.ptr bb 0):=fun K=>by
  rw[pW]; exact propext ⟨fun h=>h.2.2,fun h=>⟨by decide,by decide,h⟩⟩
 have Hu:∀ K:AV→Prop,ai (.slc bb 0 2 (.ex 2)) (N .i64 ((1:Nat) : Int)) 1 K=K (.ptr bb 1):=fun K=>by
  rw[pW]; exact propext ⟨fun h=>h.2.2,fun h=>⟨by decide,by decide,h⟩⟩
 rw[nX]
 have len3:∀ (p0:Nat),p0=0∨p0=xs.length∨p0=xs.length + ys.length→True:=fun _ _=>trivial
 refine aI (fun m zs M3=>∃ i:Nat,m=2 - i∧i≤2∧zs=[N .i64 ((if i=0 then 0 else if i=1 then xs.length else xs.length + ys.length:Nat) : Int),N .i64 (i:Int)]∧M3=M) _ ⟨0,rfl,by omega,rfl,rfl⟩ ?_
 rintro next m zs M3 hnext ⟨i,rfl,hi,rfl,rfl⟩
 dsimp only[aa]
 rw[dB]
 obtain rfl | rfl | rfl:i=0∨i=1∨i=2:=by omega
 ·rw[show decide (((0:Nat) : Int)<((2:Nat) : Int))=true from rfl,dD,at0,az hb rfl,aL.len hv]
  simp only[if_true]
  rw[cZ,show((0:Nat) : Int) + (xs.length:Int)=(xs.length:Int) by omega,aW (by omega) (by omega),dB,show decide ((xs.length:Int)<0)=false by simp,bD,cZ,iN (by omega)]
  exact hnext _ _ _ (by omega) ⟨1,rfl,by omega,rfl,rfl⟩
 ·rw[show decide (((1:Nat) : Int)<((2:Nat) : Int))=true from rfl,dD,Hu,az hb rfl,aL.len hw]
  simp only[if_true,show ¬ (1:Nat)=0 by omega,if_false]
  rw[cZ,show(xs.length:Int) + (ys.length:Int)=((xs.length + ys.length:Nat) : Int) by omega,aW (by omega) (by omega),dB,show decide (((xs.length + ys.length:Nat) : Int)<0)=false by simp; omega,bD,cZ,iN (by omega)]
  exact hnext _ _ _ (by omega) ⟨2,rfl,by omega,rfl,rfl⟩
 ·rw[show decide (((2:Nat) : Int)<((2:Nat) : Int))=false from rfl,bD]
  simp only[show ¬ (2:Nat)=0 by omega,show ¬ (2:Nat)=1 by omega,if_false]
  refine hg (by omega) (fun h0=>?_) (fun hpos b M4 hb0 hb1 hrow k4=>?_)
  ·
   have e1:xs=[]:=List.length_eq_zero_iff.1 (by omega)
   have e2:ys=[]:=List.length_eq_zero_iff.1 (by omega)
   subst e1 e2
   rw[nX]
   refine aI (fun m zs M5=>∃ i:Nat,m=2 - i∧i≤2∧zs=[bZ,N .i64 (i:Int)]∧M5=M3) _ ⟨0,rfl,by omega,rfl,rfl⟩ ?_
   rintro gT m zs M5 dH ⟨i,rfl,hi,rfl,rfl⟩
   dsimp only[aa]
   rw[dB]
   have app:∀ (u:AV) (K:ak),Sl aX M5 u []→K bZ M5→appW T 1 8 [N .u64 0] false bZ u M5 K:=fun u K hu hK=>by
    refine⟨0,[], ?_,by omega,by omega,bZ,M5,by simp[uJ],hK⟩
    exact aL.oW hu _
   obtain rfl | rfl | rfl:i=0∨i=1∨i=2:=by omega
   ·rw[show decide (((0:Nat) : Int)<((2:Nat) : Int))=true from rfl,dD,at0,az hb rfl]
    refine app _ _ hv ?_
    rw[cZ,iN (by omega)]
    exact dH _ _ _ (by omega) ⟨1,rfl,by omega,rfl,rfl⟩
   ·rw[show decide (((1:Nat) : Int)<((2:Nat) : Int))=true from rfl,dD,Hu,az hb rfl]
    refine app _ _ hw ?_
    rw[cZ,iN (by omega)]
    exact dH _ _ _ (by omega) ⟨2,rfl,by omega,rfl,rfl⟩
   ·rw[show decide (((2:Nat) : Int)<((2:Nat) : Int))=false from rfl,bD]
    exact hQ bZ M5 .nil (ag.refl _ _)
  ·rw[nX]
   have hbb:bb≠b:=by omega
   refine aI (fun m zs M5=>∃ i:Nat,m=2 - i∧i≤2∧zs=[.slc b 0 (if i=0 then([] : List Nat) else if i=1 then xs else xs++ys).length (.op 1),N .i64 (i:Int)]∧ag [b] M4 M5∧M5.next=M4.next ∧
     M5.heap b=some (.row (aX.row (if i=0 then[] else if i=1 then xs else xs++ys)++bM [N .u64 0] (xs.length + ys.length - (if i=0 then([] : List Nat) else if i=1 then xs else xs++ys).length)) true T 0)) _
    ⟨0,rfl,by omega,rfl,ag.refl _ _,rfl,by simpa [Enc.row] using hrow⟩ ?_
   rintro gT m zs M5 dH ⟨i,rfl,hi,rfl,k5,n5,I4⟩
   dsimp only[aa]
   rw[dB]
   have hb4:=k4.aP hb hbl (by simp)
   have hb5:=k5.aP hb4 (by omega) (by simp; exact hbb)
   have hv5:Sl aX M5 v xs:=aL.keep (aL.keep hv k4 (by simp)) k5 (fun d hd hm=>by have:=aL.lt hv d hd; simp at hm; omega)
   have hw5:Sl aX M5 w ys:=aL.keep (aL.keep hw k4 (by simp)) k5 (fun d hd hm=>by have:=aL.lt hw d hd; simp at hm; omega)
   obtain rfl | rfl | rfl:i=0∨i=1∨i=2:=by omega
   ·rw[show decide (((0:Nat) : Int)<((2:Nat) : Int))=true from rfl,dD,at0,az hb5 rfl]
    simp only[if_true] at I4 ⊢
    refine Ug I4 hv5 (by simp) hx fun M6 Og k6 n6=>?_
    rw[cZ,iN (by omega)]
    refine dH _ _ _ (by omega) ⟨1,rfl,by omega,by simp,k5.trans k6,n6.trans n5, ?_⟩
    simp at Og ⊢
    exact Og
   ·rw[show decide (((1:Nat) : Int)<((2:Nat) : Int))=true from rfl,dD,Hu,az hb5 rfl]
    simp only[if_true,show ¬ (1:Nat)=0 by omega,if_false] at I4 ⊢
    refine Ug I4 hw5 (by omega) hy fun M6 Og k6 n6=>?_
    rw[cZ,iN (by omega)]
    refine dH _ _ _ (by omega) ⟨2,rfl,by omega,by simp,k5.trans k6,n6.trans n5, ?_⟩
    simp at Og ⊢
    exact Og
   ·rw[show decide (((2:Nat) : Int)<((2:Nat) : Int))=false from rfl,bD]
    simp only[show ¬ (2:Nat)=0 by omega,show ¬ (2:Nat)=1 by omega,if_false,List.length_append,Nat.sub_self,bM,List.append_nil] at I4 ⊢
    refine hQ _ M5 ?_ (k4.dK k5 (by simp; omega))
    rw[Ow,List.length_append]
    exact .op b _ _ (by omega) (by omega) I4 (by rw[Enc.eY,List.length_append])
theorem gN.put {T i u a:Nat} {S S' : Nat→Prop} {M M' : RM} {ps:List Pt} {l:List AV} {v' : AV} {xs:List Nat} {ks:List Nat} (h:gN T S M a ps) (hl:M.heap a=some (.row l false T 0)) (hi:i<16)
  (hb:M'.heap a=some (.row ((l.set (2 * i) (N .u64 (u:Int))).set (2 * i + 1) v') false T 0)) (hk:ag ks M M') (hks:∀ d∈ks,d=a∨¬ S d) (hs:Sl aX M' v' xs) (hc:mh v') (hv:∀ d∈aH v',S' d) (hS:∀ d,S d→S' d) (ha:¬ S' a) : gN T S' M' a (ps.set i (u,xs)):=by
 obtain⟨l0,h1,h2,h3⟩:=h.row
 rw[hl] at h1
 obtain rfl:l=l0:=by simpa using h1
 refine⟨Nat.lt_of_lt_of_le h.lt hk.next,by rw[List.length_set]; exact h.len,⟨_,hb,by simp[h2],fun j hj=>?_⟩,ha⟩
 have hj' : j<ps.length:=by rw[List.length_set] at hj; exact hj
 have aeO:j<16:=by rw[← h.len]; exact hj'
 by_cases hji:j=i
 ·subst hji
  refine⟨v', ?_, ?_, ?_,hc,hv⟩
  ·rw[List.getElem?_set_ne (by omega),List.getElem?_set_self (by omega),List.getElem_set_self]
  ·rw[List.getElem?_set_self (by simp; omega)]
  ·rw[List.getElem_set_self]; exact hs
 ·obtain⟨w,b1,b2,b3,b4,b5⟩:=h3 j hj'
  refine⟨w, ?_, ?_, ?_,b4,fun d hd=>hS d (b5 d hd)⟩
  ·rw[List.getElem?_set_ne (by omega),List.getElem?_set_ne (by omega),List.getElem_set_ne (Ne.symm hji)]; exact b1
  ·rw[List.getElem?_set_ne (by omega),List.getElem?_set_ne (by omega)]; exact b2
  ·rw[List.getElem_set_ne (Ne.symm hji)]
   refine aL.keep b3 hk fun d hd hm=>?_
   rcases hks d hm with rfl | h'
   ·exact h.nb (b5 d hd)
   ·exact h' (b5 d hd)
def tT (f g:List Nat→List Nat) (p q:Pt) : Pt:=settle (max p.1 q.1) (g (f (p.2++q.2)))
def rO (f g:List Nat→List Nat) (ps qs:List Pt) : Nat→List Pt
 | 0=>ps
 | i + 1=>(rO f g ps qs i).set i (tT f g (ps.getD i (0,[])) (qs.getD i (0,[])))
theorem KX {f g:List Nat→List Nat} {ps qs:List Pt} : ∀ {i j:Nat},i≤j→(rO f g ps qs i).getD j (0,[])=ps.getD j (0,[])
 | 0,j,_=>rfl
 | i + 1,j,h=>by rw[rO,getD_set_ne (by omega),KX (by omega)]
def aaC (P:List Nat→Prop) (P2:List Nat→Prop) (f g:List Nat→List Nat) (T:Nat) (c:aj) : Prop:=∀ {M:RM} {a b:Nat} {ps qs:List Pt} {S S' : Nat→Prop} {Q:ak},gN T S M a ps→gN T S' M b qs→(a=b→ps=qs)→¬ S' a →
 (∀ i,i<16→P ((ps.getD i (0,[])).2++(qs.getD i (0,[])).2)∧P2 (f ((ps.getD i (0,[])).2++(qs.getD i (0,[])).2)))→(∀ p∈ps,p.1≤4398046511104∧p.2.length≤100000)→(∀ p∈qs,p.1≤4398046511104∧p.2.length≤100000) →
 (∀ i,i<16→(g (f ((ps.getD i (0,[])).2++(qs.getD i (0,[])).2))).length≤1000000∧∀ x∈g (f ((ps.getD i (0,[])).2++(qs.getD i (0,[])).2)),x≤4398046511104) →
 (∀ M',gN T (fun e=>S e∨M.next≤e) M' a (rO f g ps qs 16)→ag [a] M M'→Q (.tup []) M')→c [.ptr a 0,.ptr b 0] M Q
theorem xK {ps:List Pt} {R:Pt→Prop} (h:∀ p∈ps,R p) (h0:R (0,[])) (i:Nat) : R (ps.getD i (0,[])):=by
 rw[List.getD_eq_getElem?_getD]
 by_cases hj:i<ps.length
 ·rw[List.getElem?_eq_getElem hj]; exact h _ (List.getElem_mem hj)
 ·rw[List.getElem?_eq_none (by omega)]; exact h0
theorem ac4 {TS TP TL TU:Nat} {P P2:List Nat→Prop} {f g:List Nat→List Nat} {cc cs ck ct:aj} (hc:OY TU cc) (hs:aaJ P f TU cs) (hk:KN P2 g TU ck) (ht:EJ ct) :
  aaC P P2 f g TS fun args M Q=>∃ a0 a1,args=[a0,a1]∧ER TP TL cc cs ck ct a0 a1 M Q:=by
 intro M a b ps qs S S' Q hA hB hab hSa hP hbp hbq hres hQ
 refine⟨_,_,rfl, ?_⟩
 unfold ER
 have hal:=hA.lt
 have hbl:=hB.lt
 refine aI (fun m ys M3=>∃ (i:Nat),m=16 - i∧ys=[N .i64 (i:Int)]∧i≤16∧ag [a] M M3∧gN TS (fun e=>S e∨M.next≤e) M3 a (rO f g ps qs i)) _
  ⟨0,rfl,rfl,Nat.zero_le _,ag.refl _ _,hA.mono (fun e h=>.inl h) (fun h=>by rcases h with h | h; exact hA.nb h; omega)⟩ ?_
 rintro next m ys M3 hnext ⟨i,rfl,rfl,hi,k3,hA3⟩
 dsimp only[aa]
 rw[dB]
 refine aG (fun hlt=>?_) (fun hge=>?_)
 ·have hlt:i<16:=by
   have:(i:Int)<16:=of_decide_eq_true hlt
   omega
  have n3:=k3.next
  -- the second set's part
  have hB3:∃ l w,M3.heap b=some (.row l false TS 0)∧l.length=32∧l[2 * i]?=some (N .u64 ((qs.getD i (0,[])).1:Int))∧l[2 * i + 1]?=some w∧Sl aX M3 w (qs.getD i (0,[])).2∧a ∉ aH w:=by
   by_cases e:a=b
   ·subst e
    have e2:=hab rfl
    obtain⟨l,h1,h2,h3⟩:=hA3.row
    have hil:i<(rO f g ps qs i).length:=by rw[hA3.len]; exact hlt
    obtain⟨w,b1,b2,b3,b4,b5⟩:=h3 i hil
    have hD:=KX (f:=f) (g:=g) (ps:=ps) (qs:=qs) (Nat.le_refl i)
    rw[List.getD_eq_getElem?_getD,List.getElem?_eq_getElem hil,Option.getD_some] at hD
    rw[hD,e2] at b1
    rw[hD,e2] at b3
    exact⟨l,w,h1,h2,b1,b2,b3,fun hm=>hA3.nb (b5 a hm)⟩
   ·obtain⟨l,h1,h2,h3⟩:=hB.row
    have hil:i<qs.length:=by rw[hB.len]; exact hlt
    obtain⟨w,b1,b2,b3,b4,b5⟩:=h3 i hil
    have hD:qs.getD i (0,[])=qs[i]:=by rw[List.getD_eq_getElem?_getD,List.getElem?_eq_getElem hil]; rfl
    rw[hD]
    exact⟨l,w,k3.aP h1 hbl (by simp; exact fun h=>e h.symm),h2,b1,b2,aL.keep b3 k3 (fun d hd hm=>by simp at hm; subst hm; exact hSa (b5 d hd)),fun hm=>hSa (b5 a hm)⟩
  obtain⟨lb,qw,hb3,hlb32,q1,q2,q3,q4⟩:=hB3
  obtain⟨la,ha3,hla32,hrow⟩:=hA3.row
  have hil:i<(rO f g ps qs i).length:=by rw[hA3.len]; exact hlt
  obtain⟨pw,p1,p2,p3,p4,p5⟩:=hrow i hil
  have hD:=KX (f:=f) (g:=g) (ps:=ps) (qs:=qs) (Nat.le_refl i)
  rw[List.getD_eq_getElem?_getD,List.getElem?_eq_getElem hil,Option.getD_some] at hD
  rw[hD] at p1 p3
  have bp:=xK hbp ⟨by decide,by decide⟩ i
  have bq:=xK hbq ⟨by decide,by decide⟩ i
  obtain⟨hPi,aqn⟩:=hP i hlt
  obtain⟨hr1,hr2⟩:=hres i hlt
  have aiQ:∀ M',ag [a] M M'→gN TS (fun e=>S e∨M.next≤e) M' a ((rO f g ps qs i).set i (tT f g (ps.getD i (0,[])) (qs.getD i (0,[]))))→next [N .i64 ((i + 1:Nat) : Int)] M':=fun M' k h=>hnext _ _ _ (by omega) ⟨i + 1,rfl,rfl,by omega,k,h⟩
  generalize ps.getD i (0,[])=p at *
  generalize qs.getD i (0,[])=q at *
  obtain⟨pu,px⟩:=p
  obtain⟨qu,qx⟩:=q
  simp only[tT] at *
  rw[aM,bG,AJ]
  refine⟨by omega,by omega, ?_⟩
  rw[aM,bG,AJ]
  refine⟨by omega,by omega, ?_⟩
  rw[Int.toNat_natCast,Nat.zero_add,Nat.mul_comm i 2,gK]
  have hcut:M3.loads b (2 * i) 2=some [N .u64 (qu:Int),qw]:=by
   rw[RM.dw hb3 (by omega)]
   obtain⟨r1,r2⟩:=List.getElem?_eq_some_iff.1 q1
   obtain⟨r3,r4⟩:=List.getElem?_eq_some_iff.1 q2
   rw[List.drop_eq_getElem_cons r1,List.drop_eq_getElem_cons r3,r2,r4]; rfl
  refine⟨_,hcut, ?_⟩
  have hq1:=aL.one q3
  rw[rU,gz (n:=2) (x:=.agg [N .u64 (qu:Int),qw]) (l:=[N .u64 0,.sc (.slice none 0 0)]) (RM.aS _) rfl rfl (by simp[AV.cells,hq1]; rfl)]
  have k4:ag [] M3 ((M3.push (.row [N .u64 0,.sc (.slice none 0 0)] false TP 0)).put M3.next (.row (AV.agg [N .u64 (qu:Int),qw]).cells false TP 0)):=((ag.refl _ _).push _).new _ (Nat.le_refl _)
  have h4:((M3.push (.row [N .u64 0,.sc (.slice none 0 0)] false TP 0)).put M3.next (.row (AV.agg [N .u64 (qu:Int),qw]).cells false TP 0)).heap M3.next=some (.row [N .u64 (qu:Int),qw] false TP 0):=aR _
  have n4:((M3.push (.row [N .u64 0,.sc (.slice none 0 0)] false TP 0)).put M3.next (.row (AV.agg [N .u64 (qu:Int),qw]).cells false TP 0)).next=M3.next + 1:=rfl
  generalize (M3.push (.row [N .u64 0,.sc (.slice none 0 0)] false TP 0)).put M3.next (.row (AV.agg [N .u64 (qu:Int),qw]).cells false TP 0)=M4 at *
  have apK:=hA3.lt
  have ha4:=k4.aP ha3 apK (by simp)
  rw[aM,aU,Nat.add_zero,az ha4 p1,bG,az h4 rfl,acn,if_pos rfl,Tt,aM,aU,Nat.add_zero,fG ha4 (by omega) rfl rfl]
  have k5:ag [a] M4 (M4.put a (.row (la.set (2 * i) (N .u64 ((max pu qu:Nat) : Int))) false TS 0)):=(ag.refl _ _).put _ (.inr (by simp))
  have ha5:(M4.put a (.row (la.set (2 * i) (N .u64 ((max pu qu:Nat) : Int))) false TS 0)).heap a=some (.row (la.set (2 * i) (N .u64 ((max pu qu:Nat) : Int))) false TS 0):=aR _
  have n5:(M4.put a (.row (la.set (2 * i) (N .u64 ((max pu qu:Nat) : Int))) false TS 0)).next=M4.next:=rfl
  generalize M4.put a (.row (la.set (2 * i) (N .u64 ((max pu qu:Nat) : Int))) false TS 0)=M5 at *
  have h5:=k5.aP h4 (by omega) (by simp; omega)
  have p2' : (la.set (2 * i) (N .u64 ((max pu qu:Nat) : Int)))[2 * i + 1]?=some pw:=by rw[List.getElem?_set_ne (by omega)]; exact p2
  rw[aM,aU,az ha5 p2',bG,az h5 rfl]
  have apb:a ∉ aH pw:=fun hm=>hA3.nb (p5 a hm)
  have k35:ag [a] M3 M5:=(k4.mono (by simp)).trans k5
  have sp5:Sl aX M5 pw px:=aL.keep p3 k35 (fun d hd hm=>by simp at hm; subst hm; exact apb hd)
  have sq5:Sl aX M5 qw qx:=aL.keep q3 k35 (fun d hd hm=>by simp at hm; subst hm; exact q4 hd)
  have hw1:=aL.one sp5
  have hwc:=aL.cells sp5
  have hqc:=aL.cells sq5
  refine⟨[pw,qw],by simp[BV,bM,hwc,hqc,hw1,hq1], ?_⟩
  dsimp only
  rw[rU]
  have k6:ag [] M5 (M5.push (.row [pw,qw] false TL 0)):=(ag.refl _ _).push _
  have h6:(M5.push (.row [pw,qw] false TL 0)).heap M5.next=some (.row [pw,qw] false TL 0):=RM.aS _
  have n6:(M5.push (.row [pw,qw] false TL 0)).next=M5.next + 1:=rfl
  generalize M5.push (.row [pw,qw] false TL 0)=M6 at *
  refine hc h6 (by omega) (aL.keep sp5 k6 (by simp)) (aL.keep sq5 k6 (by simp)) (by have:=bp.2; omega) (by have:=bq.2; omega) fun r M7 ho7 k7=>?_
  have n7:=k7.next
  have k57:=k6.trans k7
  have ha7:=k57.aP ha5 (by omega) (by simp)
  rw[aM,aU,fG ha7 (by simp; omega) ho7.cells ho7.one]
  have k8:ag [a] M7 (M7.put a (.row ((la.set (2 * i) (N .u64 ((max pu qu:Nat) : Int))).set (2 * i + 1) r) false TS 0)):=(ag.refl _ _).put _ (.inr (by simp))
  have ha8:(M7.put a (.row ((la.set (2 * i) (N .u64 ((max pu qu:Nat) : Int))).set (2 * i + 1) r) false TS 0)).heap a=some (.row ((la.set (2 * i) (N .u64 ((max pu qu:Nat) : Int))).set (2 * i + 1) r) false TS 0):=aR _
  have n8:(M7.put a (.row ((la.set (2 * i) (N .u64 ((max pu qu:Nat) : Int))).set (2 * i + 1) r) false TS 0)).next=M7.next:=rfl
  generalize M7.put a (.row ((la.set (2 * i) (N .u64 ((max pu qu:Nat) : Int))).set (2 * i + 1) r) false TS 0)=M8 at *
  have har:a ∉ aH r:=fun hm=>by have:=(ho7.blk a hm).1; omega
  have ho8:=ho7.keep k8 (fun d hd hm=>by simp at hm; subst hm; exact har hd)
  have g1:((la.set (2 * i) (N .u64 ((max pu qu:Nat) : Int))).set (2 * i + 1) r)[2 * i + 1]?=some r:=by rw[List.getElem?_set_self (by simp; omega)]
  have g0:((la.set (2 * i) (N .u64 ((max pu qu:Nat) : Int))).set (2 * i + 1) r)[2 * i]?=some (N .u64 ((max pu qu:Nat) : Int)):=by rw[List.getElem?_set_ne (by omega),List.getElem?_set_self (by omega)]
  rw[aM,aU,az ha8 g1]
  refine hs ho8 hPi fun M9 ho9 k9=>?_
  have ha9:=k9.aP ha8 (by omega) har
  have n9:=k9.next
  rw[aM,aU,az ha9 g1]
  refine hk ho9 aqn fun r' M10 s10 c10 b10 k10=>?_
  have n10:=k10.next
  have aqC:=k10.aP ha9 (by omega) har
  have har' : a ∉ aH r':=fun hm=>har (b10 a hm)
  rw[aM,aU,yS ((la.set (2 * i) (N .u64 ((max pu qu:Nat) : Int))).set (2 * i + 1) r') aqC (by simp; omega) (aL.cells s10) (aL.one s10) (by rw[List.set_set])]
  have k11:ag [a] M10 (M10.put a (.row ((la.set (2 * i) (N .u64 ((max pu qu:Nat) : Int))).set (2 * i + 1) r') false TS 0)):=(ag.refl _ _).put _ (.inr (by simp))
  have apw:(M10.put a (.row ((la.set (2 * i) (N .u64 ((max pu qu:Nat) : Int))).set (2 * i + 1) r') false TS 0)).heap a=some (.row ((la.set (2 * i) (N .u64 ((max pu qu:Nat) : Int))).set (2 * i + 1) r') false TS 0):=aR _
  have n11:(M10.put a (.row ((la.set (2 * i) (N .u64 ((max pu qu:Nat) : Int))).set (2 * i + 1) r') false TS 0)).next=M10.next:=rfl
  generalize M10.put a (.row ((la.set (2 * i) (N .u64 ((max pu qu:Nat) : Int))).set (2 * i + 1) r') false TS 0)=M11 at *
  have s11:Sl aX M11 r' (g (f (px++qx))):=aL.keep s10 k11 (fun d hd hm=>by simp at hm; subst hm; exact har' hd)
  have g0' : ((la.set (2 * i) (N .u64 ((max pu qu:Nat) : Int))).set (2 * i + 1) r')[2 * i]?=some (N .u64 ((max pu qu:Nat) : Int)):=by rw[List.getElem?_set_ne (by omega),List.getElem?_set_self (by omega)]
  have g1' : ((la.set (2 * i) (N .u64 ((max pu qu:Nat) : Int))).set (2 * i + 1) r')[2 * i + 1]?=some r':=by rw[List.getElem?_set_self (by simp; omega)]
  refine ht apw g0' g1' s11 har' c10 hr1 (by have:=bp.1; have:=bq.1; omega) hr2 fun v' M12 aqT s12 c12 b12 k12 n12=>?_
  rw[cZ,iN (by omega)]
  have kr:∀ d∈aH r,M.next≤d∧M3.next≤d:=fun d hd=>by have:=(ho7.blk d hd).1; omega
  -- all that was changed: the set's block,and new ones
  have aku:ag [a] M3 M12:=by
   have w7:ag [a] M3 M7:=k35.trans (k57.mono (by simp))
   have w8:=w7.trans k8
   have w9:=w8.dK k9 fun d hd=>.inl (kr d hd).2
   have w10:=w9.dK k10 fun d hd=>.inl (kr d hd).2
   exact(w10.trans k11).trans k12
  refine aiQ M12 (k3.trans aku) (hA3.put ha3 hlt ?_ aku (fun d hd=>.inl (by simpa using hd)) s12 c12 (fun d hd=>.inr (kr d (b10 d (b12 d hd))).1) (fun d h=>h) (fun h=>by rcases h with h | h; exact hA.nb h; omega))
  rw[aqT]
  rw[List.set_comm (i:=2 * i + 1) (j:=2 * i) _ _ (by omega),List.set_set,List.set_set]
  rfl
 ·have he:i=16:=by
   have:¬ (i:Int)<16:=of_decide_eq_false hge
   omega
  subst he
  exact hQ M3 hA3 k3
theorem IE {f g:List Nat→List Nat} {ps qs:List Pt} : ∀ i,(rO f g ps qs i).length=ps.length
 | 0=>rfl
 | i + 1=>by rw[rO,List.length_set,IE i]
theorem Vq {f g:List Nat→List Nat} {ps qs:List Pt} (hl:ps.length=16) : ∀ {i j:Nat},i≤16→j<i→(rO f g ps qs i).getD j (0,[])=tT f g (ps.getD j (0,[])) (qs.getD j (0,[]))
 | i + 1,j,hi,h=>by
   rw[rO]
   by_cases e:i=j
   ·subst e
    rw[Gg (by rw[IE]; omega)]
   ·rw[getD_set_ne e,Vq hl (by omega) (by omega)]
theorem rE {p:Pt} {x:Nat} : ku p x=true↔(1≤x∧x≤p.1)∨x∈p.2:=by
 unfold ku
 simp only[Bool.or_eq_true,Bool.and_eq_true,decide_eq_true_eq]
theorem Fs:∀ (xs:List Nat) (u x:Nat),(∀ y∈xs,1≤y)→(ku (settle u xs) x=true↔(1≤x∧x≤u)∨x∈xs)
 | [],u,x,_=>by rw[rE]; simp[settle,dP]
 | y :: xs,u,x,h=>by
   by_cases hy:y≤u + 1
   ·have e:settle u (y :: xs)=settle (max u y) xs:=by
     unfold settle
     rw[dP,if_pos hy]; rfl
    have h1:=h y (by simp)
    rw[e,Fs xs (max u y) x (fun z hz=>h z (by simp[hz])),List.mem_cons]
    constructor
    ·rintro(⟨a,b⟩ | c)
     ·by_cases hx:x≤u
      ·exact .inl ⟨a,hx⟩
      ·exact .inr (.inl (by omega))
     ·exact .inr (.inr c)
    ·rintro(⟨a,b⟩ | c | c)
     ·exact .inl ⟨a,by omega⟩
     ·exact .inl ⟨by omega,by omega⟩
     ·exact .inr c
   ·have e:settle u (y :: xs)=(u,y :: xs):=by
     unfold settle
     rw[dP,if_neg hy]; rfl
    rw[e,rE]
theorem S9 {k n:Nat} {xs:List Nat} {x:Nat} : x∈fD k n xs↔x=n∨x∈xs:=by
 refine⟨Eo,fun h=>?_⟩
 unfold fD
 rcases h with h | h
 ·simp[h]
 ·rw[← List.take_append_drop k xs,List.mem_append] at h
  rw[List.mem_append,List.mem_cons]
  rcases h with h | h
  ·exact .inl h
  ·exact .inr (.inr h)
theorem aej {p:Pt} {n x:Nat} (hp:om p) (hn:1≤n) (hok:(gG p n).1=true) : ku (gG p n).2 x=true↔ku p x=true∨x=n:=by
 unfold gG at hok ⊢
 by_cases h:n∈p.2∨n≤p.1
 ·rw[if_pos h]
  constructor
  ·exact .inl
  ·rintro(h1 | rfl)
   ·exact h1
   ·rw[rE]
    rcases h with h | h
    ·exact .inr h
    ·exact .inl ⟨hn,h⟩
 ·rw[if_neg h] at hok ⊢
  by_cases h2:(settle p.1 (fD (below n p.2) n p.2)).2.length≤4096
  ·rw[if_pos h2]
   simp only
   rw[Fs _ _ _ (fun y hy=>by rcases S9.1 hy with rfl | hy; exact hn; have:=hp.2.1 y hy; omega),S9,rE]
   constructor
   ·rintro(a | b | c)
    ·exact .inl (.inl a)
    ·exact .inr b
    ·exact .inl (.inr c)
   ·rintro((a | b) | c)
    ·exact .inl a
    ·exact .inr (.inr b)
    ·exact .inr (.inl c)
  ·rw[if_neg h2] at hok; cases hok
theorem aeg {p:Pt} {n:Nat} : (gG p n).2.2.length≤p.2.length + 1:=by
 unfold gG
 split
 ·exact Nat.le_succ _
 ·split
  ·have h1:=EM p.1 (fD (below n p.2) n p.2)
   have h2:=Ed (x:=n) (below_le n p.2)
   simp only; omega
  ·exact Nat.le_succ _
theorem YO {p:Pt} {n:Nat} (h:p.2.length<4096) : (gG p n).1=true:=by
 unfold gG
 split
 ·rfl
 ·have h1:=EM p.1 (fD (below n p.2) n p.2)
  have h2:=Ed (x:=n) (below_le n p.2)
  rw[if_pos (by omega)]
theorem Rx {ps:List Pt} {d:aD} (hl:∀ p∈ps,p.2.length<4096) (hg:good d=true) : lh ps d=(0,ps.set d.1.toNat (gG (ps.getD d.1.toNat (0,[])) d.2).2):=by
 unfold lh
 rw[if_pos hg,YO (xK (R:=fun p=>p.2.length<4096) hl (by decide) _),if_pos rfl]
theorem acO {ps:List Pt} {d:aD} {k:Nat} (hl:∀ p∈ps,p.2.length≤k) : ∀ p∈(lh ps d).2,p.2.length≤k + 1:=by
 unfold lh
 split
 ·split
  ·intro p hp
   rcases List.mem_or_eq_of_mem_set hp with hp | rfl
   ·have:=hl p hp; omega
   ·have h1:=aeg (p:=ps.getD d.1.toNat (0,[])) (n:=d.2)
    have h2:=xK (R:=fun p=>p.2.length≤k) hl (Nat.zero_le _) d.1.toNat
    omega
  ·intro p hp; have:=hl p hp; omega
 ·intro p hp; have:=hl p hp; omega
section
variable {ps:List Pt} {d:aD}
theorem adW (hg:good d=true) : 1≤d.2∧d.2≤1099511627776∧d.1.toNat<16:=by
 simp only[good,Bool.and_eq_true,decide_eq_true_eq] at hg
 omega
theorem aff (h16:ps.length=16) (hw:∀ p∈ps,om p) (hl:∀ p∈ps,p.2.length<4096) (hg:good d=true) (j x:Nat) :
  ku ((lh ps d).2.getD j (0,[])) x=true↔ku (ps.getD j (0,[])) x=true∨(j=d.1.toNat∧x=d.2):=by
 obtain⟨h1,h2,h3⟩:=adW hg
 rw[Rx hl hg]
 simp only
 by_cases e:d.1.toNat=j
 ·subst e
  rw[Gg (by omega),aej (zW hw _) h1 (YO (xK (R:=fun p=>p.2.length<4096) hl (by decide) _))]
  simp
 ·rw[getD_set_ne e]
  simp[Ne.symm e]
end
def OwX (T:Nat) (M:RM) (base:Nat) (v:AV) (L:List UInt8) : Prop :=
 Own M base T 1 v (TR L) L.length∨∃ b,v=.slc b 0 L.length (.ex L.length)∧base≤b∧b<M.next∧M.heap b=some (.row (TR L) false T 0)
theorem OwX.keep {T base:Nat} {M M' : RM} {v:AV} {L:List UInt8} (h:OwX T M base v L) (hk:ag [] M M') : OwX T M' base v L:=by
 rcases h with h | ⟨b,rfl,h1,h2,h3⟩
 ·exact .inl (h.keep hk (by simp))
 ·exact .inr ⟨b,rfl,h1,Nat.lt_of_lt_of_le h2 hk.next,hk.aP h3 h2 (by simp)⟩
structure PO (TP TU base:Nat) (M:RM) (v:AV) (out:List jZ) (cs:List AV) (ws:Nat→AV) : Prop where
 own:Own M base TP 3 v cs out.length
 row:∀ (k:Nat) (hk:k<out.length),cs[3 * k]?=some (N .i64 (out[k].1.1:Int))∧cs[3 * k + 1]?=some (N .u64 (out[k].1.2:Int))∧cs[3 * k + 2]?=some (ws k)∧Ow aX M base TU (ws k) out[k].2
 apart:∀ i j,i<out.length→j<out.length→i≠j→∀ d∈aH (ws i),d ∉ aH (ws j)
 off:∀ i,i<out.length→∀ d∈aH (ws i),d ∉ aH v
section
variable {TP TU base:Nat} {M M' : RM} {v:AV} {out:List jZ} {cs:List AV} {ws:Nat→AV}
theorem PO.empty (h:Own M base TP 3 v [] 0) : PO TP TU base M v [] [] (fun _=>bZ) :=
 ⟨h,fun k hk=>absurd hk (Nat.not_lt_zero _),fun i j hi=>absurd hi (Nat.not_lt_zero _),fun i hi=>absurd hi (Nat.not_lt_zero _)⟩
theorem PO.keep {ks:List Nat} (h:PO TP TU base M v out cs ws) (hk:ag ks M M') (hs:∀ d∈ks,d<base∨M.next≤d) : PO TP TU base M' v out cs ws:=by
 refine⟨h.own.keep hk (fun d hd hm=>by have:=h.own.blk d hd; have:=hs d hm; omega),fun k hk'=>?_,h.apart,h.off⟩
 obtain⟨a1,a2,a3,a4⟩:=h.row k hk'
 exact⟨a1,a2,a3,a4.keep hk fun d hd hm=>by have:=a4.blk d hd; have:=hs d hm; omega⟩
theorem PO.at (h:PO TP TU base M v out cs ws) {i:Nat} (hi:i<out.length) :
  ∃ b,v=.slc b 0 out.length (.op 3)∧base≤b∧b<M.next∧M.heap b=some (.row cs true TP 0)∧cs.length=out.length * 3∧∀ (kd:IntKind) (K:AV→Prop),ai v (N kd (i:Int)) 3 K=K (.ptr b (3 * i)):=by
 obtain⟨b,h1,h2,h3,h4,h5⟩:=Own.yJ h.own (by omega)
 refine⟨b,h1,h2,h3,h4,h5,fun kd K=>?_⟩
 rw[h1,pW]
 simp only[Int.toNat_natCast]
 rw[show 0 + i * 3=3 * i by omega]
 exact propext ⟨fun h=>h.2.2,fun h=>⟨by omega,by omega,h⟩⟩
theorem PO.set (h:PO TP TU base M v out cs ws) {i b u:Nat} {w:AV} {xs:List Nat} {M1 M2:RM} {ks:List Nat} (hi:i<out.length) (hv:v=.slc b 0 out.length (.op 3)) (k1:ag ks M M1) (hks:∀ d∈ks,d∈aH (ws i))
  (hw:Ow aX M1 base TU w xs) (hw2:w=ws i∨∀ d∈aH w,M.next≤d) (hb:M2=M1.put b (.row ((cs.set (3 * i + 1) (N .u64 (u:Int))).set (3 * i + 2) w) true TP 0)) :
  PO TP TU base M2 v (out.set i ((out[i].1.1,u),xs)) ((cs.set (3 * i + 1) (N .u64 (u:Int))).set (3 * i + 2) w) (fun j=>if j=i then w else ws j)∧ag (b :: ks) M M2:=by
 obtain⟨b',e,hb1,hb2,hb3,hb4,_⟩:=h.at hi
 obtain rfl:b=b':=by rw[hv] at e; injection e
 have n1:=k1.next
 have kk:ag [b] M1 M2:=by subst hb; exact(ag.refl _ _).put _ (.inr (by simp))
 have hh:M2.heap b=some (.row ((cs.set (3 * i + 1) (N .u64 (u:Int))).set (3 * i + 2) w) true TP 0):=by subst hb; exact aR _
 have hbv:∀ j,j<out.length→b ∉ aH (ws j):=fun j hj hm=>h.off j hj b hm (by rw[hv]; simp[aH])
 have hbw:b ∉ aH w:=by
  rcases hw2 with rfl | hw2
  ·exact hbv i hi
  ·exact fun hm=>by have:=hw2 b hm; omega
 refine⟨⟨?_,fun j hj=>?_,fun j1 j2 q1 q2 hne d (hd:d∈aH (if j1=i then w else ws j1))=>show d ∉ aH (if j2=i then w else ws j2) from ?_,fun j hj d hd=>?_⟩,(k1.mono (fun d hd=>List.mem_cons_of_mem _ hd)).trans (kk.mono (by simp))⟩
 ·rw[List.length_set,hv]
  exact .op _ _ _ hb1 (Nat.lt_of_lt_of_le hb2 (Nat.le_trans n1 kk.next)) hh (by simp; omega)
 ·have hj' : j<out.length:=by rw[List.length_set] at hj; exact hj
  obtain⟨a1,a2,a3,a4⟩:=h.row j hj'
  by_cases hji:j=i
  ·subst hji
   rw[List.getElem_set_self]
   simp only[if_true]
   refine⟨?_, ?_, ?_,hw.keep kk fun d hd hm=>?_⟩
   ·rw[List.getElem?_set_ne (by omega),List.getElem?_set_ne (by omega)]; exact a1
   ·rw[List.getElem?_set_ne (by omega),List.getElem?_set_self (by omega)]
   ·rw[List.getElem?_set_self (by rw[List.length_set]; omega)]
   ·simp at hm; subst hm; exact hbw hd
  ·rw[List.getElem_set_ne (Ne.symm hji)]
   simp only[if_neg hji]
   refine⟨?_, ?_, ?_,(a4.keep k1 fun d hd hm=>?_).keep kk fun d hd hm=>?_⟩
   ·rw[List.getElem?_set_ne (by omega),List.getElem?_set_ne (by omega)]; exact a1
   ·rw[List.getElem?_set_ne (by omega),List.getElem?_set_ne (by omega)]; exact a2
   ·rw[List.getElem?_set_ne (by omega),List.getElem?_set_ne (by omega)]; exact a3
   ·exact h.apart j i hj' hi hji d hd (hks d hm)
   ·simp at hm; subst hm; exact hbv j hj' hd
 ·rw[List.length_set] at q1 q2
  by_cases e1:j1=i
  ·rw[if_pos e1] at hd
   rw[if_neg (fun e=>hne (e1.trans e.symm))]
   rcases hw2 with rfl | hw2
   ·exact h.apart i j2 hi q2 (fun e=>hne (e1.trans e)) d hd
   ·intro hm
    have:=hw2 d hd
    have:=((h.row j2 q2).2.2.2.blk d hm).2
    omega
  ·rw[if_neg e1] at hd
   by_cases e2:j2=i
   ·rw[if_pos e2]
    rcases hw2 with rfl | hw2
    ·exact h.apart j1 i q1 hi e1 d hd
    ·intro hm
     have:=hw2 d hm
     have:=((h.row j1 q1).2.2.2.blk d hd).2
     omega
   ·rw[if_neg e2]
    exact h.apart j1 j2 q1 q2 hne d hd
 ·rw[List.length_set] at hj
  have hd:d∈aH (if j=i then w else ws j):=hd
  by_cases e1:j=i
  ·rw[if_pos e1] at hd
   intro hm
   rw[hv] at hm
   simp[aH] at hm
   subst hm; exact hbw hd
  ·rw[if_neg e1] at hd
   exact h.off j hj d hd
theorem PO.more (h:PO TP TU base M v out cs ws) {i b x:Nat} (hi:i<out.length) (hv:v=.slc b 0 out.length (.op 3)) (hlen:out[i].2.length≤1000000) (hbase:base≤M.next) {K:RM→Prop}
  (hK:∀ M' ks cs' ws',PO TP TU base M' v (out.set i (out[i].1,out[i].2++[x])) cs' ws'→ag ks M M'→(∀ d∈ks,base≤d)→K M') :
  appW TU 1 8 [(N .u64 0)] false (ws i) (.slc M.next 0 1 (.ex 1)) (M.push (.row [N .u64 (x:Int)] false TU 0)) fun t80 xI=>aC xI (.ptr b (3 * i + 2)) t80 1 K:=by
 obtain⟨b',e,hb1,hb2,hb3,hb4,_⟩:=h.at hi
 obtain rfl:b=b':=by rw[hv] at e; injection e
 obtain⟨a1,a2,a3,a4⟩:=h.row i hi
 refine xz (E:=aX) (a:=x) a4 hbase (Nat.le_refl _) (by omega) (by omega) ?_
 intro v' M' o1 k1 n1 hv'
 have hh:M'.heap b=some (.row cs true TP 0):=k1.aP hb3 hb2 (fun hm=>h.off i hi b hm (by rw[hv]; simp[aH]))
 rw[fG hh (by omega) o1.cells o1.one]
 have e2:cs.set (3 * i + 1) (N .u64 (out[i].1.2:Int))=cs:=VR a2
 obtain⟨h1,h2⟩:=h.set (u:=out[i].1.2) (w:=v') (xs:=out[i].2++[x]) (M1:=M') hi hv k1 (fun d hd=>hd) o1 hv' rfl
 rw[e2] at h1 h2
 refine hK _ _ _ _ h1 h2 fun d hd=>?_
 rcases List.mem_cons.1 hd with rfl | hd
 ·exact hb1
 ·exact(a4.blk d hd).1
end
def aiU (l:List aD) (i:Nat) (o:List jZ) : List jZ:=if i=0∨(l.getD i (0,0)).1≠(l.getD (i - 1) (0,0)).1 then o++[(((l.getD i (0,0)).1.toNat,0),[])] else o
def bump (p:jZ) (n:Nat) : jZ:=if p.2=[]∧n=p.1.2 + 1 then((p.1.1,n),[]) else(p.1,p.2++[n])
def Sn (o:List jZ) (n:Nat) : List jZ:=o.set (o.length - 1) (bump (o.getD (o.length - 1) ((0,0),[])) n)
def Dy (l:List aD) : Nat→List jZ
 | 0=>[]
 | i + 1=>Sn (aiU l i (Dy l i)) (l.getD i (0,0)).2
def OE (l:List aD) : List jZ:=Dy l l.length
theorem Dp {α:Type} {l:List α} {i:Nat} {d:α} (h:i<l.length) : l.getD i d=l[i]:=by
 rw[List.getD_eq_getElem?_getD,List.getElem?_eq_getElem h]; rfl
theorem J9 {d:aD} (h:good d=true) : 0≤d.1∧d.1<16∧d.2≤1099511627776∧1≤d.2:=by
 simp only[good,Bool.and_eq_true,decide_eq_true_eq] at h
 omega
theorem Wh {o:List jZ} {k:Nat} (h:∀ p∈o,(alq p).length≤k) : (o.flatMap alq).length≤o.length * k:=by
 induction o with
 | nil=>simp
 | cons p o ih =>
   rw[List.flatMap_cons,List.length_append,List.length_cons,Nat.succ_mul]
   have h1:=h p (by simp)
   have h2:=ih fun q hq=>h q (by simp[hq])
   omega
section
variable {TP TU base:Nat} {M:RM} {v:AV} {out:List jZ} {cs:List AV} {ws:Nat→AV}
end
theorem aes {ps:List Pt} {d:aD} : (lh ps d).2.length=ps.length:=by
 unfold lh
 split
 ·split
  ·simp only; rw[List.length_set]
  ·rfl
 ·rfl
structure ark (l:List aD) (i:Nat) (ps:List Pt) : Prop where
 len:ps.length=16
 wf:∀ p∈ps,om p
 few:∀ p∈ps,p.2.length≤i
 has:∀ k (hk:k<l.length),k<i→good l[k]=true→gZ ps l[k]=true
theorem Ci {a b:aD} : Ad a b=true↔a.1<b.1∨(a.1=b.1∧a.2<b.2):=by
 simp[Ad]
theorem Rm {a:aD} : ¬ Ad a a=true:=by rw[Ci]; omega
theorem aa6 {a b:aD} (h:Ad a b=true) : ¬ Ad b a=true:=by rw[Ci] at *; omega
def YN (l:List aD) : Prop:=l.Pairwise fun a b=>Ad a b=true
theorem YJ:∀ {xs ys:List aD},YN xs→YN ys→(∀ x,x∈xs↔x∈ys)→xs=ys
 | [],[],_,_,_=>rfl
 | [],y :: ys,_,_,h=>by have:=(h y).2 (by simp); simp at this
 | x :: xs,[],_,_,h=>by have:=(h x).1 (by simp); simp at this
 | x :: xs,y :: ys,h1,h2,h=>by
   have a1:=List.pairwise_cons.1 h1
   have a2:=List.pairwise_cons.1 h2
   have hxy:x=y:=by
    rcases List.mem_cons.1 ((h x).1 (by simp)) with e | e
    ·exact e
    ·rcases List.mem_cons.1 ((h y).2 (by simp)) with e' | e'
     ·exact e'.symm
     ·exact absurd (a1.1 y e') (aa6 (a2.1 x e))
   subst hxy
   rw[YJ a1.2 a2.2 fun z=>⟨fun hz=>?_,fun hz=>?_⟩]
   ·rcases List.mem_cons.1 ((h z).1 (by simp[hz])) with rfl | e
    ·exact absurd (a1.1 z hz) Rm
    ·exact e
   ·rcases List.mem_cons.1 ((h z).2 (by simp[hz])) with rfl | e
    ·exact absurd (a2.1 z hz) Rm
    ·exact e
def nums (p:Pt) : List Nat:=List.range' 1 p.1++p.2
def Uc (i:Nat) (p:Pt) : List aD:=(nums p).map fun n=>((i:Int),n)
def nI (ps:List Pt) : Nat→List aD
 | 0=>[]
 | i + 1=>nI ps i++Uc i (ps.getD i (0,[]))
theorem TZ {p:Pt} {n:Nat} : n∈nums p↔ku p n=true:=by
 rw[rE,nums,List.mem_append,List.mem_range'_1]
 constructor
 ·rintro(h | h)
  ·exact .inl (by omega)
  ·exact .inr h
 ·rintro(h | h)
  ·exact .inl (by omega)
  ·exact .inr h
theorem FC {ps:List Pt} {d:aD} : ∀ {i:Nat},d∈nI ps i↔0≤d.1∧d.1<i∧ku (ps.getD d.1.toNat (0,[])) d.2=true
 | 0=>by simp[nI]; omega
 | i + 1=>by
   rw[nI,List.mem_append,FC,Uc,List.mem_map]
   constructor
   ·rintro(⟨h1,h2,h3⟩ | ⟨n,h,rfl⟩)
    ·exact⟨h1,by omega,h3⟩
    ·exact⟨by simp,by simp; omega,by simpa using TZ.1 h⟩
   ·rintro⟨h1,h2,h3⟩
    by_cases h:d.1<i
    ·exact .inl ⟨h1,h,h3⟩
    ·have e:d.1.toNat=i:=by omega
     rw[e] at h3
     exact .inr ⟨d.2,TZ.2 h3,Prod.ext (by simp; omega) rfl⟩
theorem adz {p:Pt} (h:om p) : Asc (nums p):=by
 unfold nums Asc
 rw[List.pairwise_append]
 refine⟨List.pairwise_lt_range',h.1,fun a ha b hb=>?_⟩
 have:=List.mem_range'_1.1 ha
 have:=h.2.1 b hb
 omega
theorem Nl {ps:List Pt} (h:∀ p∈ps,om p) : ∀ i,YN (nI ps i)
 | 0=>.nil
 | i + 1=>by
   unfold YN
   rw[nI,List.pairwise_append]
   refine⟨Nl h i, ?_,fun a ha b hb=>?_⟩
   ·rw[Uc,List.pairwise_map]
    exact List.Pairwise.imp (fun {a b} (hab:a<b)=>by rw[Ci]; exact .inr ⟨rfl,hab⟩) (adz (zW h i))
   ·have h1:=(FC.1 ha).2.1
    rw[Uc,List.mem_map] at hb
    obtain⟨n,_,rfl⟩:=hb
    exact Ci.2 (.inl h1)
theorem acW {ps:List Pt} (h:∀ p∈ps,om p) (d:aD) : d∈nI ps 16↔gZ ps d=true:=by
 rw[FC,gZ,Bool.and_eq_true]
 constructor
 ·rintro⟨h1,h2,h3⟩
  refine⟨?_,h3⟩
  have hw:=zW h d.1.toNat
  have:1≤d.2∧d.2≤1099511627776:=by
   rcases rE.1 h3 with h | h
   ·have:=hw.2.2.1; omega
   ·have:=hw.2.1 _ h; have:=hw.2.2.2.1 _ h; omega
  simp[good]; omega
 ·rintro⟨h1,h3⟩
  simp[good] at h1
  exact⟨by omega,by omega,h3⟩
def yn:List jZ→Option Int→List aD→List jZ
 | o,_,[]=>o
 | o,p,d :: ds=>yn (Sn (if p=some d.1 then o else o++[((d.1.toNat,0),[])]) d.2) (some d.1) ds
theorem HZ {l:List aD} : ∀ (k i:Nat),i + k=l.length→yn (Dy l i) (if i=0 then none else some (l.getD (i - 1) (0,0)).1) (l.drop i)=OE l
 | 0,i,h=>by
   rw[List.drop_of_length_le (by omega),yn,OE]
   congr 1
 | k + 1,i,h=>by
   have hi:i<l.length:=by omega
   have hD:l.getD i (0,0)=l[i]:=Dp hi
   have ih:=HZ (l:=l) k (i + 1) (by omega)
   rw[if_neg (show ¬ i + 1=0 by omega),Nat.add_sub_cancel,Dy,hD] at ih
   rw[List.drop_eq_getElem_cons hi,yn,← ih]
   congr 2
   unfold aiU
   rw[hD]
   by_cases h0:i=0
   ·subst h0; simp
   ·rw[if_neg h0]
    by_cases he:l[i].1=(l.getD (i - 1) (0,0)).1
    ·rw[if_pos (by rw[he]),if_neg (by rintro(h | h); exact h0 h; exact h he)]
    ·rw[if_neg (fun h=>he (Option.some.inj h).symm),if_pos (.inr he)]
theorem OA (o:List jZ) (p:jZ) (n:Nat) : Sn (o++[p]) n=o++[bump p n]:=by
 have e:(o++[p]).length - 1=o.length:=by simp
 unfold Sn
 rw[e,List.getD_eq_getElem?_getD,List.getElem?_append_right (Nat.le_refl _),List.set_append_right _ _ (Nat.le_refl _)]
 simp
theorem QY (i:Int) : ∀ (xs:List Nat) (o:List jZ) (p:jZ) (rest:List aD),yn (o++[p]) (some i) (xs.map (fun n=>(i,n))++rest)=yn (o++[xs.foldl bump p]) (some i) rest
 | [],_,_,_=>rfl
 | x :: xs,o,p,rest=>by
   rw[List.map_cons,List.cons_append,yn,if_pos rfl,OA,QY i xs,List.foldl_cons]
theorem Om (i:Nat) : ∀ (k a:Nat),(List.range' (a + 1) k).foldl bump ((i,a),[])=((i,a + k),[])
 | 0,a=>rfl
 | k + 1,a=>by
   rw[List.range'_succ,List.foldl_cons,bump,if_pos ⟨rfl,rfl⟩,Om i k (a + 1)]
   congr 2; omega
theorem QZ (q:Nat × Nat) : ∀ (xs ys:List Nat),ys≠[]→xs.foldl bump (q,ys)=(q,ys++xs)
 | [],ys,_=>by simp
 | x :: xs,ys,h=>by
   rw[List.foldl_cons,bump,if_neg (fun h'=>h h'.1),QZ q xs _ (by simp),List.append_assoc]; rfl
theorem acb {i:Nat} {p:Pt} (h:om p) : (nums p).foldl bump ((i,0),[])=((i,p.1),p.2):=by
 obtain⟨u,xs⟩:=p
 rw[nums,List.foldl_append,show(1:Nat)=0 + 1 from rfl,Om i u 0,Nat.zero_add]
 cases xs with
 | nil=>rfl
 | cons x xs =>
   have:=h.2.1 x (by simp)
   rw[List.foldl_cons,bump,if_neg (fun h'=>by simp only at h' this; omega),QZ _ _ _ (by simp)]
   rfl
theorem JH {ps:List Pt} (h:∀ p∈ps,om p) : ∀ i:Nat,∃ p:Option Int,(∀ j,p=some j→j<i)∧∀ rest,yn [] none (nI ps i++rest)=yn (Ir ps i) p rest
 | 0=>⟨none,by simp,fun rest=>rfl⟩
 | i + 1=>by
   obtain⟨p,hp,hr⟩:=JH h i
   have hw:=zW h i
   by_cases he:0<(ps.getD i (0,[])).1∨0<(ps.getD i (0,[])).2.length
   ·refine⟨some (i:Int),fun j hj=>by have:=Option.some.inj hj; omega,fun rest=>?_⟩
    rw[nI,List.append_assoc,hr,Ir,if_pos he,Uc]
    have hne:nums (ps.getD i (0,[]))≠[]:=by
     unfold nums
     intro h0
     obtain⟨q1,q2⟩:=List.append_eq_nil_iff.1 h0
     have q1:=congrArg List.length q1
     have q2:=congrArg List.length q2
     rw[List.length_range'] at q1
     simp only[List.length_nil] at q1 q2
     omega
    have hb:=acb (i:=i) hw
    generalize nums (ps.getD i (0,[]))=ns at *
    cases ns with
    | nil=>exact absurd rfl hne
    | cons n ns =>
      rw[List.map_cons,List.cons_append,yn,if_neg (fun h'=>by have:=hp _ h'; omega),OA,QY,← hb,List.foldl_cons,Int.toNat_natCast]
   ·refine⟨p,fun j hj=>by have:=hp j hj; omega,fun rest=>?_⟩
    rw[nI,List.append_assoc,hr,Ir,if_neg he,List.append_nil]
    have e:Uc i (ps.getD i (0,[]))=[]:=by
     unfold Uc nums
     have h1:(ps.getD i (0,[])).1=0:=by omega
     have h2:(ps.getD i (0,[])).2=[]:=List.length_eq_zero_iff.1 (by omega)
     rw[h1,h2]; rfl
    rw[e,List.nil_append]
theorem UK {ps:List Pt} (h:∀ p∈ps,om p) : OE (nI ps 16)=parts ps:=by
 rw[← HZ (l:=nI ps 16) (nI ps 16).length 0 (by omega)]
 obtain⟨p,_,hr⟩:=JH h 16
 have:=hr []
 rw[List.append_nil] at this
 simp only[Dy,if_true,List.drop_zero]
 rw[this]; rfl
structure CL (ps:List Pt) (w:List aD) : Prop where
 len:ps.length=16
 wf:∀ p∈ps,om p
 srt:YN w
 mem:∀ d,d∈w↔gZ ps d=true
theorem CL.eq {ps:List Pt} {w:List aD} (h:CL ps w) : w=nI ps 16:=YJ h.srt (Nl h.wf 16) fun d=>by rw[h.mem,acW h.wf]
theorem CL.parts {ps:List Pt} {w:List aD} (h:CL ps w) : parts ps=OE w:=by rw[h.eq,UK h.wf]
theorem CL.good {ps:List Pt} {w:List aD} (h:CL ps w) : ∀ d∈w,good d=true:=fun d hd=>by
 have:=(h.mem d).1 hd
 rw[gZ,Bool.and_eq_true] at this
 exact this.1
theorem CL.empty:CL jG []:=by
 refine⟨rfl,KW,.nil,fun d=>?_⟩
 rw[gZ,FV]
 simp[ku]
 intro _ h; omega
end Go.Ab.aD
