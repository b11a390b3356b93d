/- Part 5 of the ground of the proofs of this seat (texts N5 to NL4). By an AI agent. -/
import Derived.Test.YtoikjkmmdpdkbaaGreatDoorVcs4
import Derived.Lib.Fold
import Derived.KernelRfl
import Derived.HandedShaped
set_option maxRecDepth 10000
set_option linter.unusedVariables false
set_option linter.unusedSimpArgs false
namespace Go.Ab.Vc
open Go Go.Ab Go.Ab.Vl Go.Ab.Sm
theorem ug (s:Str) : (eO s).1.length + (eO s).2.length=s.length:=by
 have:=congrArg List.length (List.takeWhile_append_dropWhile (p:=(dx.contains ·)) (l:=s))
 rw[List.length_append] at this; exact this
theorem Pn {x:UInt8} {s a b:Str} (h:brk x s=some (a,b)) : a.length + b.length + 1=s.length:=by
 rcases qA x s with⟨h1,_⟩ | ⟨a',b',h1,_,h3,_⟩
 ·rw[h1] at h; cases h
 ·rw[h1] at h; cases h
  have:=congrArg List.length h3; simp at this; omega
theorem zU (s:Str) : (sJ s).1.length + (sJ s).2.1.length≤s.length:=by
 unfold sJ
 cases hh:aN 34 s with
 | true =>
   have:=aZ hh
   rw[if_pos rfl]
   cases hb:brk 34 (s.drop 1) with
   | none=>simp
   | some x =>
     have:=Pn (a:=x.1) (b:=x.2) (by rw[hb])
     simp at this ⊢; omega
 | false =>
   rw[if_neg (by simp)]
   split
   ·simp
   ·simp; omega
theorem Ac:∀ (k:Nat) (s:Str) (acc vs:List Str) (r:Str),1≤s.length→jb k s acc=some (vs,r)→eP vs + 3 * r.length≤eP acc + 3 * s.length
 | 0,_,_,_,_,_,h=>by cases h
 | k + 1,s,acc,vs,r,h1,h=>by
   rw[jb] at h
   have hl:=zU (s.drop 1)
   rw[List.length_drop] at hl
   generalize sJ (s.drop 1)=x at *
   obtain⟨v,q,ok⟩:=x
   cases ok with
   | false=>cases h
   | true =>
     dsimp only at h hl
     split at h
     ·rename_i hh
      have:=Ac k q _ vs r (aZ hh) h
      rw[DX] at this
      omega
     ·cases h
      rw[DX]; omega
theorem xJ:∀ (k:Nat) (s:Str) (acc vs:List Str) (r:Str),1≤s.length→jb k s acc=some (vs,r)→r.length + 1≤s.length
 | 0,_,_,_,_,_,h=>by cases h
 | k + 1,s,acc,vs,r,h1,h=>by
   rw[jb] at h
   have hl:=zU (s.drop 1)
   rw[List.length_drop] at hl
   generalize sJ (s.drop 1)=x at *
   obtain⟨v,q,ok⟩:=x
   cases ok with
   | false=>cases h
   | true =>
     dsimp only at h hl
     split at h
     ·rename_i hh
      have:=xJ k q _ vs r (aZ hh) h
      omega
     ·cases h
      omega
theorem xL:∀ (n:Nat) (s:Str) (acc:List Str) (k:Nat),s.length≤n→1≤s.length→s.length≤k→jb k s acc=jb s.length s acc
 | 0,s,acc,k,h1,h2,h3=>by omega
 | n + 1,s,acc,k,h1,h2,h3=>by
   obtain⟨i,rfl⟩ : ∃ i,k=i + 1:=⟨k - 1,by omega⟩
   obtain⟨j,hj⟩ : ∃ j,s.length=j + 1:=⟨s.length - 1,by omega⟩
   rw[hj,jb,jb]
   have hl:=zU (s.drop 1)
   rw[List.length_drop] at hl
   generalize sJ (s.drop 1)=x at *
   obtain⟨v,q,ok⟩:=x
   cases ok with
   | false=>rfl
   | true =>
     dsimp only at hl ⊢
     split
     ·rename_i hh
      have h4:=aZ hh
      rw[xL n q _ i (by omega) h4 (by omega),xL n q _ j (by omega) h4 (by omega)]
     ·rfl
theorem GU:∀ (k:Nat) (s:Str) (acc ps:List gV) (r:Str),kT k s acc=some (ps,r)→jo ps + 3 * r.length≤jo acc + 3 * s.length
 | 0,_,_,_,_,h=>by cases h
 | k + 1,s,acc,ps,r,h=>by
   rw[kT] at h
   split at h
   ·rename_i h59
    have hp:=aZ h59
    have hw:=ug (s.drop 1)
    rw[List.length_drop] at hw
    split at h
    ·rename_i h61
     have hq:=aZ h61
     cases hv:jb (eO (s.drop 1)).2.length (eO (s.drop 1)).2 [] with
     | none=>rw[hv] at h; cases h
     | some x =>
       obtain⟨vs,q⟩:=x
       rw[hv] at h
       dsimp only at h
       have h1:=Ac _ _ _ _ _ hq hv
       have h2:=GU k q _ ps r h
       rw[O4] at h2
       dsimp only at h2
       simp only[show eP []=0 from rfl] at h1
       omega
    ·cases h
   ·cases h; omega
theorem xK:∀ (n:Nat) (s:Str) (acc:List gV) (k:Nat),s.length≤n→s.length + 1≤k→kT k s acc=kT (s.length + 1) s acc
 | n,s,acc,k,h1,h3=>by
   obtain⟨i,rfl⟩ : ∃ i,k=i + 1:=⟨k - 1,by omega⟩
   rw[kT,kT]
   split
   ·rename_i h59
    have hp:=aZ h59
    have hw:=ug (s.drop 1)
    rw[List.length_drop] at hw
    split
    ·rename_i h61
     have hq:=aZ h61
     cases hv:jb (eO (s.drop 1)).2.length (eO (s.drop 1)).2 [] with
     | none=>rfl
     | some x =>
       obtain⟨vs,q⟩:=x
       have h1:=Ac _ _ _ _ _ hq hv
       have h4:q.length<s.length:=by
        have:=xJ _ _ _ _ _ hq hv
        omega
       dsimp only
       cases n with
       | zero=>omega
       | succ n=>rw[xK n q _ i (by omega) (by omega),xK n q _ s.length (by omega) (by omega)]
    ·rfl
   ·rfl
def Wn (B:Base) (c:ak) : Prop:=∀ {M:RM} {s:Str} {Q:aj},M.base=B→s.length≤1000000000 →
 (∀ M' e,ae [] M M'→(∀ K:AV→Prop,K (Bo (zB s).2)→Fz false e (.sc .nilIface) K)→Q (.tup [N .i64 (zB s).1,e]) M')→c [St s] M Q
theorem aaw (a b:Int) {K:AV→Prop} : af .sub (N .i64 a) (N .i64 b) K=K (N .i64 (IntKind.wrap .i64 (a - b))):=mY ..
def X7 (B:Base) (c:ak) : Prop:=∀ {M:RM} {s:Str} {Q:aj},M.base=B→s.length≤10000000 →
 (∀ M' v,ae [] M M'→bE jd M' v (Ee s).1.ps (fun b=>M.next≤b)→Q (.tup [.agg [St (Ee s).1.g,St (Ee s).1.n,v,St [],N .i64 0],N .i64 (Ee s).2.1,Bo (Ee s).2.2]) M')→c [St s] M Q
def hd4 (s:Str) : Str × Str × Str:=if aN 46 (eO s).2 then((eO s).1,(eO ((eO s).2.drop 1)).1,(eO ((eO s).2.drop 1)).2) else([],(eO s).1,(eO s).2)
theorem SK (s:Str) : Ee s=match kT ((hd4 s).2.2.length + 1) (hd4 s).2.2 [] with
 | none=>(O6,0,false)
 | some (ps,r)=>if r=[] then(⟨(hd4 s).1,(hd4 s).2.1,ps,[]⟩,0,true) else(⟨(hd4 s).1,(hd4 s).2.1,ps,[]⟩,nP r):=rfl
theorem OD (s:Str) : (hd4 s).1.length + (hd4 s).2.1.length + (hd4 s).2.2.length≤s.length:=by
 have h1:=ug s
 unfold hd4
 split
 ·rename_i h
  have:=aZ h
  have h2:=ug ((eO s).2.drop 1)
  rw[List.length_drop] at h2
  dsimp only; omega
 ·dsimp only[List.length_nil]; simp; omega
theorem Xr (s:Str) : rQ (3 * s.length) { (Ee s).1 with v:=[] } := by
 have h1:=OD s
 rw[SK]
 cases hp:kT ((hd4 s).2.2.length + 1) (hd4 s).2.2 [] with
 | none=>exact⟨by simp[O6],by simp[O6],by simp,by simp[O6,jo]⟩
 | some x =>
   obtain⟨ps,r⟩:=x
   have h2:=GU _ _ _ _ _ hp
   simp only[show jo []=0 from rfl] at h2
   dsimp only
   split
   ·exact⟨by dsimp only; omega,by dsimp only; omega,by simp,by dsimp only; omega⟩
   ·exact⟨by dsimp only; omega,by dsimp only; omega,by simp,by dsimp only; omega⟩
theorem aaQ {M:RM} {b T:Nat} {l:List AV} {Q:aj} (h:M.heap b=some (.row l false T 0)) (hl:l.length=5) (hQ:∀ M',ae [b] M M'→Q (.tup [.agg [St [],St [],aF,St [],N .i64 0],N .i64 0,Bo false]) M') :
  eT [(St []),(St []),(.sc (.slice none 0 0)),(St []),(N .i64 0)] [] fun t48=>aC M (.ptr b 0) t48 5 fun Nb=>aK Nb (.ptr b 0) 5 fun res=>Q (.tup [res,(N .i64 0),(Bo false)]) Nb:=by
 rw[jk]
 refine⟨_,rfl, ?_⟩
 rw[bN (n:=5) (x:=.agg [St [],St [],aF,St [],N .i64 0]) h rfl hl rfl,aO (n:=5) (aA _) rfl]
 exact hQ _ ((ae.refl _ _).put _ (.inr (by simp)))
theorem WB {B:Base} {TL TP TS:Nat} {cw cc ch cv ca:ak} (hw:Lr B cw) (hc:jR cc) (hh:nC ch) (hv:QC B cv) (ha:Wn B ca) :
  X7 B fun args M Q=>∃ a0,args=[a0]∧pY TL cw cc ch TP cv TS ca a0 M Q:=by
 intro M s Q hM hl hQ
 refine⟨_,rfl, ?_⟩
 unfold pY
 simp only[dR,Ki,dK]
 rw[aG]
 have k1:ae [] M (M.push (.row [St [],St [],aF,St [],N .i64 0] false TL 0)):=(ae.refl _ _).push _
 have h1:(M.push (.row [St [],St [],aF,St [],N .i64 0] false TL 0)).heap M.next=some (.row [St [],St [],aF,St [],N .i64 0] false TL 0):=RM.aS _
 have n1:(M.push (.row [St [],St [],aF,St [],N .i64 0] false TL 0)).next=M.next + 1:=bG _
 generalize M.push (.row [St [],St [],aF,St [],N .i64 0] false TL 0)=M1 at *
 have hw1:=ug s
 refine hw (k1.base.trans hM) (by omega) fun M2 k2=>?_
 have h2:=k2.ax h1 (by omega) (by simp)
 have n2:=k2.next
 have k02:=k1.trans k2
 rw[bH,bK,aQ,bR (l':=[St [],St (eO s).1,aF,St [],N .i64 0]) h2 (by simp) rfl rfl rfl]
 have k3:ae [] M (M2.put M.next (.row [St [],St (eO s).1,aF,St [],N .i64 0] false TL 0)):=k02.put _ (.inl (by omega))
 have h3:(M2.put M.next (.row [St [],St (eO s).1,aF,St [],N .i64 0] false TL 0)).heap M.next=some (.row [St [],St (eO s).1,aF,St [],N .i64 0] false TL 0):=aA _
 have n3:(M2.put M.next (.row [St [],St (eO s).1,aF,St [],N .i64 0] false TL 0)).next=M2.next:=rfl
 generalize M2.put M.next (.row [St [],St (eO s).1,aF,St [],N .i64 0] false TL 0)=M3 at *
 have hdl:=OD s
 refine bO (fun ys M'=>ys=[St (hd4 s).2.2]∧ae [] M M'∧M.next + 1≤M'.next∧M'.heap M.next=some (.row [St (hd4 s).1,St (hd4 s).2.1,aF,St [],N .i64 0] false TL 0)) ?_ ?_
 rotate_left 1
 ·intro J hJ
  refine hc (by omega) ?_
  unfold CZ
  unfold hd4 at hJ
  cases hd:aN 46 (eO s).2 with
  | false =>
    rw[if_neg (by simp),bH,bK,dS]
    rw[if_neg (by rw[hd]; simp)] at hJ
    exact hJ _ _ ⟨rfl,k3,by omega,h3⟩
  | true =>
    rw[if_pos rfl,bH,bK,dW]
    rw[if_pos hd] at hJ
    have hpos:=aZ hd
    rw[aQ,ay h3 rfl,aQ,bR (l':=[St (eO s).1,St (eO s).1,aF,St [],N .i64 0]) h3 (by simp) rfl rfl rfl]
    have k4:ae [] M (M3.put M.next (.row [St (eO s).1,St (eO s).1,aF,St [],N .i64 0] false TL 0)):=k3.put _ (.inl (by omega))
    have h4:(M3.put M.next (.row [St (eO s).1,St (eO s).1,aF,St [],N .i64 0] false TL 0)).heap M.next=some (.row [St (eO s).1,St (eO s).1,aF,St [],N .i64 0] false TL 0):=aA _
    have n4:(M3.put M.next (.row [St (eO s).1,St (eO s).1,aF,St [],N .i64 0] false TL 0)).next=M3.next:=rfl
    generalize M3.put M.next (.row [St (eO s).1,St (eO s).1,aF,St [],N .i64 0] false TL 0)=M4 at *
    refine hw (k4.base.trans hM) (by simp; omega) fun M5 k5=>?_
    have h5:=k5.ax h4 (by omega) (by simp)
    have n5:=k5.next
    rw[bH,bK,aQ,bR (l':=[St (eO s).1,St (eO ((eO s).2.drop 1)).1,aF,St [],N .i64 0]) h5 (by simp) rfl rfl rfl]
    exact hJ _ _ ⟨rfl,(k4.trans k5).put _ (.inl (by omega)),by rw[kG]; omega,aA _⟩
 rintro _ M4 ⟨rfl,k4,n4,h4⟩
 dsimp only[ag]
 rw[SK] at hQ
 generalize hd4 s=hd at *
 obtain⟨g,n,s0⟩:=hd
 dsimp only at hQ hdl h4 ⊢
 generalize hP:kT (s0.length + 1) s0 []=P at *
 refine aP (fun m ys M5=>∃ (t:Str) (v:AV) (acc:List gV),m=t.length∧ys=[St t]∧acc.length + t.length≤s0.length∧ae [] M M5∧M.next + 1≤M5.next∧M5.heap M.next=some (.row [St g,St n,v,St [],N .i64 0] false TL 0) ∧
   fB jd M5 (M.next + 1) TP v acc (fun b=>M.next + 1≤b∧b<M5.next∧b ∉ aH v)∧kT (t.length + 1) t acc=P) _
  ⟨s0,aF,[],rfl,rfl,by simp,k4,n4,h4,.nil,hP⟩ ?_
 rintro next m ys M5 hnext ⟨t,v,acc,rfl,rfl,hal,k5,n5,h5,ho,hp⟩
 have hM5:M5.base=B:=k5.base.trans hM
 rw[kT] at hp
 dsimp only[ag]
 refine hh (by omega) ?_
 have hvl:=ho.blk
 cases h59:aN 59 t with
 | false =>
   simp only[h59,Bool.false_eq_true,if_false] at hp
   rw[dS]
   rw[← hp] at hQ
   dsimp only at hQ
   have hsl:bE jd M5 v acc (fun b=>M.next + 1≤b):=(ho.mono (fun b h=>h.1)).Ef (fun b hb _=>hb)
   have hall:([St g,St n,v,St [],N .i64 0] : List AV).all oneCell=true:=by simp[eZ,ho.one]
   have fin:∀ {M6:RM} {Q' : AV→RM→Prop},ae [] M5 M6→(∀ M',ae [] M M'→bE jd M' v acc (fun b=>M.next≤b)→Q' (.agg [St g,St n,v,St [],N .i64 0]) M') →
     aC M6 (.ptr M.next 0) (.agg [St g,St n,v,St [],N .i64 0]) 5 fun Yh=>aK Yh (.ptr M.next 0) 5 fun res=>Q' res Yh:=by
    intro M6 Q' k6 hq
    have h6:=k6.ax h5 (by omega) (by simp)
    rw[bN (n:=5) (x:=.agg [St g,St n,v,St [],N .i64 0]) h6 rfl rfl hall,aO (n:=5) (aA _) rfl]
    refine hq _ ((k5.trans k6).put _ (.inl (Nat.le_refl _))) ?_
    exact(((hsl.keep k6 (by simp)).keep (bs:=[M.next]) ((ae.refl _ _).put _ (.inr (by simp))) (fun b hb h=>by simp at hb; omega)).mono fun b hb=>by omega)
   rw[gy]
   refine aY (fun he=>?_) (fun he=>?_)
   ·have he:t=[]:=by simpa using he
    rw[if_pos he] at hQ
    rw[aO (n:=5) h5 rfl]
    exact fin (Q':=fun res M'=>Q (.tup [res,(N .i64 0),(Bo true)]) M') (ae.refl _ _) fun M' k' h'=>hQ M' v k' h'
   ·have he:¬ t=[]:=by simpa using he
    rw[if_neg he] at hQ
    refine hc (by omega) ?_
    have hcut:CZ 35 t=.tup [St (if aN 35 t then t.drop 1 else t),Bo (aN 35 t)]:=by
     unfold CZ
     cases aN 35 t with
     | true=>rfl
     | false=>rfl
    rw[hcut,bH,bK]
    unfold nP at hQ
    dsimp only at hQ
    generalize hd:(if aN 35 t then t.drop 1 else t)=d at *
    have hdl' : d.length≤t.length:=by
     rw[← hd]; split
     ·simp
     ·exact Nat.le_refl _
    refine ha hM5 (by omega) fun M6 e k6 hE=>?_
    rw[bH,bK,aO (n:=5) (k6.ax h5 (by omega) (by simp)) rfl,aaw]
    have done:∀ r:Bool,r=(aN 35 t && (zB d).2 && decide ((zB d).1 ≥ 2)) →
      aC M6 (.ptr M.next 0) (.agg [St g,St n,v,St [],N .i64 0]) 5 fun YO=>aK YO (.ptr M.next 0) 5 fun XP=>Q (.tup [XP,N .i64 (IntKind.wrap .i64 ((zB d).1 - 1)),Bo r]) YO:=by
     intro r hr
     refine fin (Q':=fun res M'=>Q (.tup [res,N .i64 (IntKind.wrap .i64 ((zB d).1 - 1)),Bo r]) M') k6 fun M' k' h'=>?_
     rw[hr]; exact hQ M' v k' h'
    cases hb:aN 35 t with
    | false =>
      simp only[oN,iw]
      exact done false (by rw[hb]; rfl)
    | true =>
      simp only[mK]
      refine hE _ ?_
      rw[fq]
      cases hb2:(zB d).2 with
      | false =>
        simp only[oN,iw]
        exact done false (by rw[hb,hb2]; rfl)
      | true =>
        simp only[mK]
        rw[fM,fq]
        exact done _ (by rw[hb,hb2]; rfl)
 | true =>
   simp only[h59,if_true] at hp
   have htl:=aZ h59
   rw[dW,aG,show aT (St t) (some (N .i64 1)) none=some (St (t.drop 1)) from bF (l:=1) (by omega) .i64,dM]
   have h6:(M5.push (.row [St [],aF] false TP 0)).heap M5.next=some (.row [St [],aF] false TP 0):=RM.aS _
   have k6:ae [] M5 (M5.push (.row [St [],aF] false TP 0)):=(ae.refl _ _).push _
   have n6:(M5.push (.row [St [],aF] false TP 0)).next=M5.next + 1:=rfl
   generalize M5.push (.row [St [],aF] false TP 0)=M6 at *
   refine hw (k6.base.trans hM5) (by simp; omega) fun M7 k7=>?_
   have h7:=k7.ax h6 (by omega) (by simp)
   have n7:=k7.next
   have hw4:=ug (t.drop 1)
   rw[List.length_drop] at hw4
   generalize eO (t.drop 1)=w4 at *
   obtain⟨nm,t2⟩:=w4
   dsimp only at hp hw4 ⊢
   rw[bH,bK,aQ,bR (l':=[St nm,aF]) h7 (by simp) rfl rfl rfl]
   have k8:ae [] M5 (M7.put M5.next (.row [St nm,aF] false TP 0)):=(k6.trans k7).put _ (.inl (Nat.le_refl _))
   have h8:(M7.put M5.next (.row [St nm,aF] false TP 0)).heap M5.next=some (.row [St nm,aF] false TP 0):=aA _
   have n8:(M7.put M5.next (.row [St nm,aF] false TP 0)).next=M7.next:=rfl
   generalize M7.put M5.next (.row [St nm,aF] false TP 0)=M8 at *
   refine hh (by omega) ?_
   rw[bU]
   have Ws:P=none→∀ {M9:RM},ae [] M5 M9→eT [(St []),(St []),(.sc (.slice none 0 0)),(St []),(N .i64 0)] [] fun t48=>aC M9 (.ptr M.next 0) t48 5 fun Nb=>aK Nb (.ptr M.next 0) 5 fun res=>Q (.tup [res,(N .i64 0),(Bo false)]) Nb:=by
    intro hn M9 k9
    rw[hn] at hQ
    refine aaQ (k9.ax h5 (by omega) (by simp)) rfl fun M' k'=>?_
    exact hQ M' aF ((k5.trans k9).fK k' (fun c hc=>.inl (by simp at hc; omega))) bE.nil
   cases h61:aN 61 t2 with
   | false =>
     simp only[h61,Bool.false_eq_true,if_false] at hp
     rw[Bool.not_false,dW]
     exact Ws hp.symm k8
   | true =>
   simp only[h61,if_true] at hp
   rw[Bool.not_true,dS]
   refine aP (fun m zs M9=>∃ (u:Str) (vs:List Str) (w:AV) (more:Bool),m=2 * u.length + (if more then 1 else 0)∧zs=[St u,Bo more]∧u.length + vs.length≤t2.length∧ae [] M5 M9∧M8.next≤M9.next ∧
     M9.heap M5.next=some (.row [St nm,w] false TP 0)∧fB jm.jQ M9 M8.next TS w vs (fun _=>False) ∧
     (more=true→1≤u.length∧jb u.length u vs=jb t2.length t2 [])∧(more=false→jb t2.length t2 []=some (vs,u))) _
    ⟨t2,[],aF,true,rfl,rfl,by simp,k8,Nat.le_refl _,h8,.nil,fun _=>⟨aZ h61,rfl⟩,fun h=>by cases h⟩ ?_
   rintro AP m zs M9 jU ⟨u,vs,w,more,rfl,rfl,hul,k9,n9,h9,how,hm1,hm2⟩
   dsimp only[ag]
   have hM9:M9.base=B:=k9.base.trans hM5
   cases more with
   | true =>
     obtain⟨hu1,hvf⟩:=hm1 rfl
     obtain⟨j,hj⟩ : ∃ j,u.length=j + 1:=⟨u.length - 1,by omega⟩
     rw[hj,jb] at hvf
     rw[dW,show aT (St u) (some (N .i64 1)) none=some (St (u.drop 1)) from bF (l:=1) (by omega) .i64,dM]
     have aa4:=zU (u.drop 1)
     refine hv hM9 (by simp; omega) fun Ma ka=>?_
     generalize sJ (u.drop 1)=x at *
     obtain⟨a,after,ok⟩:=x
     simp only[List.length_drop] at aa4 hvf
     rw[bH,bK,iK,bU]
     dsimp only
     cases ok with
     | false =>
       rw[Bool.not_false,dW]
       refine Ws ?_ (k9.trans ka)
       dsimp only at hvf
       rw[← hvf] at hp
       exact hp.symm
     | true =>
     dsimp only at hvf
     have ha:=ka.ax h9 (by omega) (by simp)
     rw[Bool.not_true,dS,aQ,ay ha rfl,jV (x:=St a) (size:=1) rfl rfl rfl,aG]
     have aaN:=how.keep ka (by simp) (by simp)
     have na:=ka.next
     refine fB.app (R:=jm.jQ) (a:=a) (cs:=[St a]) aaN rfl (by omega) (Nat.le_refl _) (by simp) (by simp) (by omega) (by omega) ?_
     intro w' Mb ob kb nb hwb _
     have X8:∀ b∈aH w,M8.next≤b:=fun b hb=>(how.blk b hb).1
     have hb:=kb.ax ha (by omega) (fun h=>by have:=X8 _ h; omega)
     have VI:∀ b∈aH w',M8.next≤b:=fun b hb=>(ob.blk b hb).1
     rw[aQ,bR (l':=[St nm,w']) hb (by simp) ob.cells ob.one rfl]
     refine hh (by omega) ?_
     have kc:ae [] M5 (Mb.put M5.next (.row [St nm,w'] false TP 0)):=ae.new ((k9.trans ka).fK kb fun c hc=>.inl (by have:=X8 c hc; omega)) _ (Nat.le_refl _)
     refine jU _ _ _ ?_ ⟨after,vs++[a],w',aN 44 after,rfl,rfl,by simp; omega,kc,by rw[kG]; omega,aA _, ?_, ?_, ?_⟩
     ·split <;> simp <;> omega
     ·refine ob.keep (bs:=[M5.next]) ((ae.refl _ _).put _ (.inr (by simp))) (by simp) fun b hb=>?_
      have:=VI b hb
      simp; omega
     ·intro hmo
      rw[if_pos hmo] at hvf
      refine⟨aZ hmo, ?_⟩
      rw[← hvf,xL after.length after _ j (Nat.le_refl _) (aZ hmo) (by omega)]
     ·intro hmo
      rw[hmo] at hvf
      simp only[Bool.false_eq_true,if_false] at hvf
      exact hvf.symm
   | false =>
     have hv4:=hm2 rfl
     rw[hv4] at hp
     simp only at hp
     rw[dS,aQ,ay (k9.ax h5 (by omega) (by simp)) rfl,aO (n:=2) h9 rfl,jV (x:=.agg [St nm,w]) (size:=2) rfl (by show([St nm,w] : List AV).all oneCell=true; simp[eZ,how.one]) rfl,aG]
     let S' : Nat→Prop:=fun b=>M.next + 1≤b∧b<M9.next∧b ∉ aH v
     have n9':=k9.next
     have ho9:fB jd M9 (M.next + 1) TP v acc S':=(ho.keep k9 (by simp) (by simp)).mono fun b h=>⟨h.1,by omega,h.2.2⟩
     have hel:jd.rel M9 [St nm,w] (nm,vs) S':=Lv ((how.mono (S':=S') (fun _ h=>h.elim)).Ef (fun b h1 h2=>⟨by omega,h2,fun hb=>by have:=(hvl b hb).2; omega⟩))
     refine fB.app (R:=jd) ho9 hel (by omega) (by decide) (fun b hb h=>h.2.2 hb) (fun b h=>h.2.1) (by omega) (by omega) ?_
     intro v' Mb ob kb nb hvb hdb
     have hvs:=xJ _ _ _ _ _ (aZ h61) hv4
     have hb5:=kb.ax (k9.ax h5 (by omega) (by simp)) (by omega) (fun h=>by have:=(hvl _ h).1; omega)
     have hob:=ob.blk
     rw[aQ,bR (l':=[St g,St n,v',St [],N .i64 0]) hb5 (by simp) ob.cells ob.one rfl]
     refine hnext _ _ _ (by omega) ⟨u,v',acc++[(nm,vs)],rfl,rfl,by simp; omega, ?_,by rw[kG]; omega,aA _, ?_, ?_⟩
     ·exact ae.new ((k5.trans k9).fK kb fun c hc=>.inl (by have:=(hvl c hc).1; omega)) _ (Nat.le_refl _)
     ·refine(ob.keep (bs:=[M.next]) ((ae.refl _ _).put _ (.inr (by simp))) (fun b hb h=>by simp at hb; have:=h.1; omega) fun b hb=>?_).mono fun b h=>⟨h.1,by rw[kG]; omega,fun hb=>hdb b hb h⟩
      have:=(hob b hb).1
      simp; omega
     ·rw[← hp,xK u.length u _ t.length (Nat.le_refl _) (by omega)]
def BI (p s:Str) : Bool:=decide (p.length≤s.length) && (s.take p.length == p)
def Vd (c:ak) : Prop:=∀ {M:RM} {s p:Str} {Q:aj},Q (Bo (BI p s)) M→c [St s,St p] M Q
theorem JY:Vd fun args M Q=>∃ a0 a1,args=[a0,a1]∧Vl.dF a0 a1 M Q:=by
 intro M s p Q hQ
 refine⟨_,_,rfl, ?_⟩
 unfold Go.Ab.Vl.dF
 simp only[dR,bA,fM]
 unfold BI at hQ
 by_cases h:p.length≤s.length
 ·have e:decide ((s.length:Int) ≥ (p.length:Int))=true:=by simp[h]
  rw[e]
  simp only[go_sem,if_true]
  rw[gZ h]
  simpa only[go_sem,h,decide_true,Bool.true_and,if_true] using hQ
 ·have e:decide ((s.length:Int) ≥ (p.length:Int))=false:=by simp; omega
  rw[e]
  simpa [go_sem,h] using hQ
def BP (p s:Str) : AV:=if BI p s then .tup [St (s.drop p.length),Bo true] else .tup [St s,Bo false]
def uh (c:ak) : Prop:=∀ {M:RM} {s p:Str} {Q:aj},Q (BP p s) M→c [St s,St p] M Q
theorem Fh {ch:ak} (hh:Vd ch) : uh fun args M Q=>∃ a0 a1,args=[a0,a1]∧Vl.dE ch a0 a1 M Q:=by
 intro M s p Q hQ
 refine⟨_,_,rfl, ?_⟩
 unfold Go.Ab.Vl.dE
 refine hh ?_
 unfold BP at hQ
 cases h:BI p s
 ·rw[h] at hQ; simpa [go_sem] using hQ
 ·rw[h] at hQ
  have hl:p.length≤s.length:=by unfold BI at h; simp at h; exact h.1
  simp only[bU,Bool.not_true,dS,bA]
  rw[bF hl]
  simpa [go_sem] using hQ
theorem Oh {ch:ak} (hh:uh ch) : uh fun args M Q=>∃ a0 a1,args=[a0,a1]∧Vl.iE ch a0 a1 M Q:=by
 intro M s p Q hQ
 refine⟨_,_,rfl, ?_⟩
 unfold Go.Ab.Vl.iE
 refine hh ?_
 unfold BP at hQ ⊢
 cases h:BI p s <;> rw[h] at hQ <;> simpa [go_sem] using hQ
theorem Yw (s:Str) : BI gY s=decide (s.take 4=gY):=by
 unfold BI
 rw[show gY.length=4 from rfl]
 by_cases h:s.take 4=gY
 ·have:=congrArg List.length h
  simp[gY] at this
  rw[decide_eq_true h,decide_eq_true (show 4≤s.length by omega),h]; rfl
 ·rw[decide_eq_false h,Bool.and_eq_false_iff]
  right; simpa using h
theorem Xe {b:Bool} {x y:Str} {N:Nat} (hx:x.length≤N) (hy:y.length≤N) : (if b then x else y).length≤N:=by cases b <;> simpa
def lU (p:Fd) : Ln:=(bY p).1
theorem XD {p:Fd} {N:Nat} (h1:3 * p.1.length≤N) (h2:2 * p.2.length≤N) : rQ N (bY p).1:=by
 have hs:=Xr (if decide (p.1.take 4=gY) then p.1.drop 4 else p.1)
 have hl:(if decide (p.1.take 4=gY) then p.1.drop 4 else p.1).length≤p.1.length:=by
  split
  ·simp
  ·exact Nat.le_refl _
 have he:=OW p.2
 unfold bY
 refine⟨?_, ?_, ?_, ?_⟩
 ·have:=hs.g; dsimp only at this ⊢; omega
 ·have:=hs.n; dsimp only at this ⊢; omega
 ·dsimp only; exact Xe (by omega) (by omega)
 ·have:=hs.ps; dsimp only at this ⊢; omega
def Kb (B:Base) (c:ak) : Prop:=∀ {M:RM} {p:Fd} {Q:aj},M.base=B→p.1.length≤10000000→p.2.length≤10000000 →
 (∀ M' cs,ae [] M M'→iC.rel M' cs ((bY p).1,0) (fun b=>M.next≤b)→Q (.tup [.agg cs,N .i64 (bY p).2.1,Bo (bY p).2.2]) M')→c [nU p] M Q
theorem Kk (p q:Fd) : cO [2,2] [St p.1,St p.2] [St q.1,St q.2]=some (decide (p=q)):=by
 rw[AX,AX,GA]
 by_cases h1:p.1=q.1
 ·by_cases h2:p.2=q.2
  ·rw[if_pos h1,if_pos h2,decide_eq_true (Prod.ext h1 h2)]
  ·rw[if_pos h1,if_neg h2,decide_eq_false (fun e=>h2 (by rw[e]))]
 ·rw[if_neg h1,decide_eq_false (fun e=>h1 (by rw[e]))]
theorem Tx {B:Base} {TP TL:Nat} {cc cu ct ce cf:ak} (hc:uh cc) (hu:X7 B cu) (ht:Ka ct) (he:Rf ce) (hf:GJ B cf) : Kb B fun args M Q=>∃ a0,args=[a0]∧uZ TP TL cc cu ct ce cf a0 M Q:=by
 intro M p Q hM hp1 hp2 hQ
 refine⟨_,rfl, ?_⟩
 unfold uZ nU
 simp only[dR,dK]
 rw[gX (cs:=[St p.1,St p.2]) rfl (by simp),aG]
 have k1:ae [] M (M.push (.row [St p.1,St p.2] false TP 0)):=(ae.refl _ _).push _
 have h1:(M.push (.row [St p.1,St p.2] false TP 0)).heap M.next=some (.row [St p.1,St p.2] false TP 0):=RM.aS _
 have n1:(M.push (.row [St p.1,St p.2] false TP 0)).next=M.next + 1:=bG _
 generalize M.push (.row [St p.1,St p.2] false TP 0)=M1 at *
 rw[aG]
 have k2:ae [] M1 (M1.push (.row [St [],St [],aF,St [],N .i64 0] false TL 0)):=(ae.refl _ _).push _
 have h2:(M1.push (.row [St [],St [],aF,St [],N .i64 0] false TL 0)).heap M1.next=some (.row [St [],St [],aF,St [],N .i64 0] false TL 0):=RM.aS _
 have n2:(M1.push (.row [St [],St [],aF,St [],N .i64 0] false TL 0)).next=M1.next + 1:=bG _
 generalize M1.push (.row [St [],St [],aF,St [],N .i64 0] false TL 0)=M2 at *
 have h12:=k2.ax h1 (by omega) (by simp)
 have k02:=k1.trans k2
 rw[aQ,ay h12 rfl]
 refine hc ?_
 have hcut:BP gY p.1=.tup [St (if decide (p.1.take 4=gY) then p.1.drop 4 else p.1),Bo (decide (p.1.take 4=gY))]:=by
  unfold BP
  rw[Yw]
  cases decide (p.1.take 4=gY) with
  | true=>rfl
  | false=>rfl
 rw[show([114,97,119,46] : Str)=gY from rfl,hcut,bH,bK]
 have hlen:(if decide (p.1.take 4=gY) then p.1.drop 4 else p.1).length≤p.1.length:=by
  split
  ·simp
  ·exact Nat.le_refl _
 have hsz:=XD (p:=p) (N:=30000000) (by omega) (by omega)
 unfold bY at hQ hsz
 dsimp only at hQ hsz
 generalize hraw:decide (p.1.take 4=gY)=raw at *
 generalize (if raw then p.1.drop 4 else p.1)=s at *
 refine hu (k02.base.trans hM) (by omega) fun M3 v k3 hv=>?_
 generalize Ee s=u at *
 obtain⟨u,j,uok⟩:=u
 dsimp only at hQ hsz hv ⊢
 rw[bH,bK,iK]
 have k03:=k02.trans k3
 have h13:=k3.ax h12 (by omega) (by simp)
 have h23:=k3.ax h2 (by omega) (by simp)
 have n3:=k3.next
 have hall:∀ x:Str,([St u.g,St u.n,v,St x,N .i64 0] : List AV).all oneCell=true:=fun x=>by simp[eZ,hv.one]
 rw[aG,bN (n:=5) (x:=.agg [St u.g,St u.n,v,St [],N .i64 0]) (l:=[St [],St [],aF,St [],N .i64 0]) (RM.aS _) rfl rfl (hall [])]
 have k4:ae [] M3 ((M3.push (.row [St [],St [],aF,St [],N .i64 0] false TL 0)).put M3.next (.row (AV.agg [St u.g,St u.n,v,St [],N .i64 0]).cells false TL 0)):=((ae.refl _ _).push _).new _ (Nat.le_refl _)
 have h4:((M3.push (.row [St [],St [],aF,St [],N .i64 0] false TL 0)).put M3.next (.row (AV.agg [St u.g,St u.n,v,St [],N .i64 0]).cells false TL 0)).heap M3.next=some (.row [St u.g,St u.n,v,St [],N .i64 0] false TL 0):=aA _
 have n4:((M3.push (.row [St [],St [],aF,St [],N .i64 0] false TL 0)).put M3.next (.row (AV.agg [St u.g,St u.n,v,St [],N .i64 0]).cells false TL 0)).next=M3.next + 1:=rfl
 generalize (M3.push (.row [St [],St [],aF,St [],N .i64 0] false TL 0)).put M3.next (.row (AV.agg [St u.g,St u.n,v,St [],N .i64 0]).cells false TL 0)=M4 at *
 have h14:=k4.ax h13 (by omega) (by simp)
 have h24:=k4.ax h23 (by omega) (by simp)
 rw[aQ,ay h14 rfl,aQ,bR (l':=[St u.g,St u.n,v,St p.2,N .i64 0]) h4 (by simp) rfl rfl rfl]
 have k5:ae [] M3 (M4.put M3.next (.row [St u.g,St u.n,v,St p.2,N .i64 0] false TL 0)):=k4.put _ (.inl (Nat.le_refl _))
 have h5:(M4.put M3.next (.row [St u.g,St u.n,v,St p.2,N .i64 0] false TL 0)).heap M3.next=some (.row [St u.g,St u.n,v,St p.2,N .i64 0] false TL 0):=aA _
 have n5:(M4.put M3.next (.row [St u.g,St u.n,v,St p.2,N .i64 0] false TL 0)).next=M4.next:=rfl
 generalize M4.put M3.next (.row [St u.g,St u.n,v,St p.2,N .i64 0] false TL 0)=M5 at *
 have h15:=k5.ax h13 (by omega) (by simp)
 have h25:=k5.ax h23 (by omega) (by simp)
 generalize hx:(if !raw && Ae u.n then esc p.2 else p.2)=x at *
 refine bO (fun ys M'=>ae [] M3 M'∧M3.next<M'.next∧M'.heap M3.next=some (.row [St u.g,St u.n,v,St x,N .i64 0] false TL 0)) ?_ ?_
 rotate_left 1
 ·intro J hJ
  rw[bU]
  refine wC (p:=Ae u.n) (fun hc' kk hk=>?_) ?_
  ·rw[aQ,ay h5 rfl]; exact ht hk
  refine aY (fun hb=>?_) (fun hb=>?_)
  ·rw[hb] at hx
   rw[if_pos rfl] at hx
   rw[aQ,ay h15 rfl]
   refine he (by omega) fun M6 k6=>?_
   have h6:=k6.ax h5 (by omega) (by simp)
   have n6:=k6.next
   rw[aQ,bR (l':=[St u.g,St u.n,v,St x,N .i64 0]) h6 (by simp) rfl rfl (by rw[← hx]; rfl)]
   exact hJ _ _ ⟨(k5.trans k6).put _ (.inl (Nat.le_refl _)),by rw[kG]; omega,aA _⟩
  ·rw[hb] at hx
   rw[if_neg (by simp)] at hx
   rw[← hx] at hJ
   exact hJ _ _ ⟨k5,by omega,h5⟩
 rintro _ M6 ⟨k6,n6,h6⟩
 have h16:=k6.ax h13 (by omega) (by simp)
 have h26:=k6.ax h23 (by omega) (by simp)
 have k06:=k03.trans k6
 rw[aO (n:=5) h6 rfl]
 have hv6:=hv.keep k6 (by simp)
 have hrel:iC.rel M6 [St u.g,St u.n,v,St x,N .i64 0] ({ u with v:=x },0) (fun b=>M2.next≤b):=⟨v,rfl,hv6⟩
 have hla:=hsz.laid
 refine hf (k06.base.trans hM) hrel (hsz.mono (by omega)).lb (by omega) fun M7 k7=>?_
 have h17:=k7.ax h16 (by omega) (by simp)
 have h27:=k7.ax h26 (by omega) (by simp)
 have h67:=k7.ax h6 (by omega) (by simp)
 have n7:=k7.next
 generalize jC { u with v:=x } j=f at *
 obtain⟨f,fok⟩:=f
 dsimp only at hQ ⊢
 unfold nU
 rw[bH,bK,aG,bN (n:=2) (x:=.agg [St f.1,St f.2]) (l:=[St [],St []]) (RM.aS _) rfl rfl rfl]
 have k8:ae [] M7 ((M7.push (.row [St [],St []] false TP 0)).put M7.next (.row (AV.agg [St f.1,St f.2]).cells false TP 0)):=((ae.refl _ _).push _).new _ (Nat.le_refl _)
 have h8:((M7.push (.row [St [],St []] false TP 0)).put M7.next (.row (AV.agg [St f.1,St f.2]).cells false TP 0)).heap M7.next=some (.row [St f.1,St f.2] false TP 0):=aA _
 have n8:((M7.push (.row [St [],St []] false TP 0)).put M7.next (.row (AV.agg [St f.1,St f.2]).cells false TP 0)).next=M7.next + 1:=rfl
 generalize (M7.push (.row [St [],St []] false TP 0)).put M7.next (.row (AV.agg [St f.1,St f.2]).cells false TP 0)=M8 at *
 have h18:=k8.ax h17 (by omega) (by simp)
 have h28:=k8.ax h27 (by omega) (by simp)
 have h68:=k8.ax h67 (by omega) (by simp)
 have k08:=(k06.trans k7).trans k8
 rw[aO (n:=5) h68 rfl]
 have fin:∀ r:Bool,r=(uok && fok && decide (f=p)) →
   ∀ {M9:RM},M9=M8.put M1.next (.row (AV.agg [St u.g,St u.n,v,St x,N .i64 0]).cells false TL 0)→aK M9 (.ptr M1.next 0) 5 fun res=>Q (.tup [res,N .i64 j,Bo r]) M9:=by
  intro r hr M9 e
  have k9:ae [M1.next] M8 M9:=by rw[e]; exact(ae.refl _ _).put _ (.inr (by simp))
  rw[aO (n:=5) (l:=[St u.g,St u.n,v,St x,N .i64 0]) (by rw[e]; exact aA _) rfl,hr]
  refine hQ _ _ (k08.fK k9 (fun c hc=>.inl (by simp at hc; omega))) ⟨v,rfl, ?_⟩
  refine((hv6.keep (k7.trans k8) (by simp)).keep k9 fun b hb h=>?_).mono fun b hb=>by omega
  simp at hb; omega
 have hst:∀ {K:RM→Prop},aC M8 (.ptr M1.next 0) (.agg [St u.g,St u.n,v,St x,N .i64 0]) 5 K=K (M8.put M1.next (.row (AV.agg [St u.g,St u.n,v,St x,N .i64 0]).cells false TL 0)):=fun {K} => bN (n:=5) (x:=.agg [St u.g,St u.n,v,St x,N .i64 0]) h28 rfl rfl (hall x)
 cases uok with
 | false =>
   simp only[oN,NA,iw]
   rw[hst]
   exact fin false rfl rfl
 | true =>
   simp only[mK,fq]
   cases fok with
   | false =>
     simp only[oN,NA,iw]
     rw[hst]
     exact fin false rfl rfl
   | true =>
     simp only[mK,Sj,fq]
     rw[aO (n:=2) h8 rfl,aO (n:=2) h18 rfl,wL (r:=decide (f=p)) rfl rfl (Kk f p),hst]
     have h9a:(M8.put M1.next (.row (AV.agg [St u.g,St u.n,v,St x,N .i64 0]).cells false TL 0)).heap M7.next=some (.row [St f.1,St f.2] false TP 0):=dI h8 (by omega)
     have h9b:(M8.put M1.next (.row (AV.agg [St u.g,St u.n,v,St x,N .i64 0]).cells false TL 0)).heap M.next=some (.row [St p.1,St p.2] false TP 0):=dI h18 (by omega)
     rw[aO (n:=2) h9a rfl]
     refine⟨rfl, ?_⟩
     rw[aO (n:=2) h9b rfl]
     refine⟨rfl, ?_⟩
     refine fin _ ?_ rfl
     cases decide (f=p) <;> rfl
def nH:Enc Fd where
 size:=2
 cells p:=[St p.1,St p.2]
 len _:=rfl
 one _:=rfl
theorem Kq {M:RM} {v:AV} {xs:List Fd} (h:Sl nH M v xs) {i:Nat} (hi:i<xs.length) {K:AV→Prop} : (aW v (N .i64 (i:Int)) 2 fun p=>aK M p 2 K)=K (nU xs[i]):=by
 obtain⟨b,o,hb,_,hidx,hld⟩:=Sl.elem h hi
 rw[show(2:Nat)=nH.size from rfl,hidx,rP,hld]
 simp[nH,nU]
theorem zv {M:RM} {b T:Nat} {x:AV} {cs:List AV} (n:Nat) (h:x=.agg cs) (hl:cs.length=n) (zs:List AV) (hz:zs.length=n) (h1:cs.all oneCell=true) {K:RM→Prop} (hc:x.cells.length=n)
  (hK:∀ M',ae [] M M'→M'.next=M.next + 1→M'.heap M.next=some (.row cs false T 0)→K M') : aC (M.push (.row zs false T 0)) (.ptr M.next 0) x n K:=by
 subst h
 rw[bN (n:=n) (x:=.agg cs) (l:=zs) (RM.aS _) hc hz h1]
 exact hK _ (((ae.refl _ _).push _).new _ (Nat.le_refl _)) rfl (aA _)
def Gq (B:Base) (c:ak) : Prop:=∀ {M:RM} {p:Fd} {Q:aj},M.base=B→p.1.length≤10000000→p.2.length≤10000000 →
 (∀ M' cs,ae [] M M'→iC.rel M' cs (if (bY p).2.2 then(bY p).1 else O6,0) (fun b=>M.next≤b)→Q (.tup [.agg cs,N .i64 (if (bY p).2.2 then 0 else 1)]) M')→c [nU p] M Q
theorem Qw {B:Base} {TP TL:Nat} {cl:ak} (hl:Kb B cl) : Gq B fun args M Q=>∃ a0,args=[a0]∧vX TP TL cl a0 M Q:=by
 intro M p Q hM hp1 hp2 hQ
 refine⟨_,rfl, ?_⟩
 unfold vX nU
 rw[gX (cs:=[St p.1,St p.2]) rfl (by simp),aG]
 have k1:ae [] M (M.push (.row [St p.1,St p.2] false TP 0)):=(ae.refl _ _).push _
 have h1:(M.push (.row [St p.1,St p.2] false TP 0)).heap M.next=some (.row [St p.1,St p.2] false TP 0):=RM.aS _
 have n1:(M.push (.row [St p.1,St p.2] false TP 0)).next=M.next + 1:=bG _
 generalize M.push (.row [St p.1,St p.2] false TP 0)=M1 at *
 rw[aG]
 have k2:ae [] M1 (M1.push (.row [St [],St [],aF,St [],N .i64 0] false TL 0)):=(ae.refl _ _).push _
 have h2:(M1.push (.row [St [],St [],aF,St [],N .i64 0] false TL 0)).heap M1.next=some (.row [St [],St [],aF,St [],N .i64 0] false TL 0):=RM.aS _
 have n2:(M1.push (.row [St [],St [],aF,St [],N .i64 0] false TL 0)).next=M1.next + 1:=bG _
 generalize M1.push (.row [St [],St [],aF,St [],N .i64 0] false TL 0)=M2 at *
 have k02:=k1.trans k2
 rw[aO (n:=2) (k2.ax h1 (by omega) (by simp)) rfl]
 refine hl (p:=p) (k02.base.trans hM) hp1 hp2 fun M3 cs k3 hrel=>?_
 have h23:=k3.ax h2 (by omega) (by simp)
 have n3:=k3.next
 rw[bH,bK,iK,aG]
 obtain⟨v,rfl,hv,hall,_⟩:=AB hrel
 refine zv (b:=0) 5 rfl rfl _ rfl hall rfl fun M4 k4 n4 h4=>?_
 have h24:=k4.ax h23 (by omega) (by simp)
 have k04:=(k02.trans k3).trans k4
 rw[bU]
 cases hok:(bY p).2.2 with
 | false =>
   rw[hok] at hQ
   rw[Bool.not_false,dW,jk]
   refine⟨_,rfl, ?_⟩
   rw[bN (n:=5) (x:=.agg [St [],St [],aF,St [],N .i64 0]) h24 rfl rfl rfl,aO (n:=5) (aA _) rfl]
   exact hQ _ _ (k04.put _ (.inl (by omega))) ⟨aF,rfl,bE.nil⟩
 | true =>
   rw[hok] at hQ
   rw[Bool.not_true,dS,aO (n:=5) h4 rfl,bN (n:=5) (x:=.agg [St (bY p).1.g,St (bY p).1.n,v,St (bY p).1.v,N .i64 0]) h24 rfl rfl hall,aO (n:=5) (aA _) rfl]
   refine hQ _ _ (k04.put _ (.inl (by omega))) ⟨v,rfl, ?_⟩
   refine((hv.keep k4 (by simp)).keep (bs:=[M1.next]) ((ae.refl _ _).put _ (.inr (by simp))) fun b hb h=>?_).mono fun b hb=>by omega
   simp at hb; omega
def Kc (B:Base) (c:ak) : Prop:=∀ {M:RM} {p:Fd} {Q:aj},M.base=B→p.1.length≤10000000→p.2.length≤10000000→(∀ M',ae [] M M'→Q (Bo (qQ p)) M')→c [nU p] M Q
theorem PH {i j:Nat} {K:AV→Prop} : af .leq (N .i64 (i:Int)) (N .i64 (j:Int)) K=K (Bo (decide (i≤j))):=by rw[oI,show decide ((i:Int)≤(j:Int))=decide (i≤j) by simp]
theorem BU {B:Base} {TP TL:Nat} {cl:ak} (hl:Gq B cl) : Kc B fun args M Q=>∃ a0,args=[a0]∧u7 TP cl TL a0 M Q:=by
 intro M p Q hM hp1 hp2 hQ
 refine⟨_,rfl, ?_⟩
 unfold u7 nU
 simp only[dR]
 rw[gX (cs:=[St p.1,St p.2]) rfl (by simp),aG]
 have k1:ae [] M (M.push (.row [St p.1,St p.2] false TP 0)):=(ae.refl _ _).push _
 have h1:(M.push (.row [St p.1,St p.2] false TP 0)).heap M.next=some (.row [St p.1,St p.2] false TP 0):=RM.aS _
 have n1:(M.push (.row [St p.1,St p.2] false TP 0)).next=M.next + 1:=bG _
 generalize M.push (.row [St p.1,St p.2] false TP 0)=M1 at *
 rw[aO (n:=2) h1 rfl]
 refine hl (p:=p) (k1.base.trans hM) hp1 hp2 fun M3 cs k3 hrel=>?_
 rw[bH,bK,aG]
 obtain⟨v,rfl,hv,hall,_⟩:=AB hrel
 refine zv (b:=0) 5 rfl rfl _ rfl hall rfl fun M4 k4 n4 h4=>?_
 have h14:=(k3.trans k4).ax h1 (by omega) (by simp)
 have k04:=(k1.trans k3).trans k4
 rw[dD]
 have e:(((if (bY p).2.2=true then(0:Int) else 1)) == 0)=(bY p).2.2:=by cases(bY p).2.2 <;> rfl
 rw[e]
 refine wC (p:=decide (p.1.length≤64)) (fun hc kk hk=>?_) ?_
 ·rw[aQ,ay h14 rfl,bA,show(N .i64 (64:Int))=N .i64 ((64:Nat) : Int) from rfl,PH]; exact hk
 refine wC (p:=decide (p.2.length≤512)) (fun hc kk hk=>?_) ?_
 ·rw[aQ,ay h14 rfl,bA,show(N .i64 (512:Int))=N .i64 ((512:Nat) : Int) from rfl,PH]; exact hk
 exact hQ _ k04
theorem Ju (ns:List Str) (n x:Str) : fA (ns++[n]) x=if x=n then fA ns n + 1 else fA ns x:=by
 unfold fA
 rw[List.countP_append,List.countP_singleton]
 by_cases h:x=n
 ·subst h; simp
 ·have h' : ¬ n=x:=fun e=>h e.symm
  rw[if_neg h,if_neg (by simpa using h')]; rfl
theorem OZ (ns:List Str) (n:Str) : fA ns n≤ns.length:=List.countP_le_length
def PR (B:Base) (c:ak) : Prop:=∀ {M:RM} {v:AV} {xs:List Fd} {ct:Str} {k:Int} {Q:aj},M.base=B→Sl nH M v xs→xs.length≤1000000→(∀ p∈xs,p.1.length≤10000000∧p.2.length≤10000000) →
 (∀ M',ae [] M M'→Q (match wZ xs with | some s=>.tup [St s,N .i64 0] | none=>.tup [St [],N .i64 1]) M')→c [.agg [St ct,v,N .i64 k]] M Q
theorem OB {p:Fd} (h:(bY p).2.2=true) : jC (bY p).1 (bY p).2.1=(p,true):=by
 have e:(bY p).2.2=((Ee (if decide (p.1.take 4=gY) then p.1.drop 4 else p.1)).2.2 && (jC (bY p).1 (bY p).2.1).2 && decide ((jC (bY p).1 (bY p).2.1).1=p)):=rfl
 rw[e] at h
 obtain⟨h1,h2⟩:=(Bool.and_eq_true ..).mp h
 obtain⟨_,h3⟩:=(Bool.and_eq_true ..).mp h1
 exact Prod.ext (of_decide_eq_true h2) h3
theorem Lc {L:Ln} {k:Int} {p:Fd} (h:jC L k=(p,true)) : (fV bX L).2=0∧L.g≠lg∧xX L.n=false∧0≤k∧p=(kR (bB L).1 k,(bB L).2):=by
 unfold jC at h
 split at h
 ·rename_i hc
  injection h with h1 h2
  exact⟨hc.1,hc.2.1,hc.2.2.1,hc.2.2.2,h1.symm⟩
 ·injection h with h1 h2
  cases h2
theorem UB {p:Fd} (h:qQ p=true) : (bY p).2.2=true∧p.1.length≤64∧p.2.length≤512:=by
 unfold qQ at h
 simp only[Bool.and_eq_true,decide_eq_true_eq] at h
 exact⟨h.1.1,h.1.2,h.2⟩
theorem U7 {B:Base} {TC TP TL:Nat} {cl cg cp cr:ak} (hl:Kb B cl) (hg:Kc B cg) (hp:FT B cp) (hr:Gh B (fV bX) cr) : PR B fun args M Q=>∃ a0,args=[a0]∧qD TC TP cl TL cg cp cr a0 M Q:=by
 intro M v xs ct k Q hM hv hlen hps hQ
 refine⟨_,rfl, ?_⟩
 unfold qD
 simp only[dR]
 have hall:([St ct,v,N .i64 k] : List AV).all oneCell=true:=by simp[eZ,dC.one hv]
 rw[gX hall (by simp),aG]
 have k1:ae [] M (M.push (.row [St ct,v,N .i64 k] false TC 0)):=(ae.refl _ _).push _
 have h1:(M.push (.row [St ct,v,N .i64 k] false TC 0)).heap M.next=some (.row [St ct,v,N .i64 k] false TC 0):=RM.aS _
 have n1:(M.push (.row [St ct,v,N .i64 k] false TC 0)).next=M.next + 1:=bG _
 generalize M.push (.row [St ct,v,N .i64 k] false TC 0)=M1 at *
 rw[aG]
 have k2:ae [] M1 (M1.push (.map [] 0)):=(ae.refl _ _).push _
 have c2:=lc.new M1
 have n2:(M1.push (.map [] 0)).next=M1.next + 1:=bG _
 generalize M1.push (.map [] 0)=M2 at *
 have k02:=k1.trans k2
 have hv2:=dC.keep hv k02 (by simp)
 rw[aQ,ay (k2.ax h1 (by omega) (by simp)) rfl,dC.len hv2]
 refine aP (fun m ys M3=>∃ (i:Nat) (acc:Str) (ns:List Str),m=xs.length - i∧ys=[St acc,N .i64 (i:Int)]∧i≤xs.length∧ae [] M M3∧M1.next<M3.next∧lc M3 M1.next (fA ns)∧ns.length=i∧acc.length≤26 + 4000 * i∧sS (xs.drop i) ns acc=wZ xs) _
  ⟨0,P5,[],rfl,rfl,Nat.zero_le _,k02,by omega,c2,rfl,by simp,rfl⟩ ?_
 rintro next m ys M3 hnext ⟨i,acc,ns,rfl,rfl,hi,k3,n3,c3,hns,hacc,he⟩
 dsimp only[ag]
 have hv3:=dC.keep hv k3 (by simp)
 have hM3:M3.base=B:=k3.base.trans hM
 rw[kJ]
 refine aY (fun h=>?_) (fun h=>?_)
 ·have h:i<xs.length:=of_decide_eq_true h
  have hm:=hps _ (List.getElem_mem h)
  rw[Kq hv3 h,aG]
  rw[List.drop_eq_getElem_cons h,sS] at he
  generalize xs[i]=p at *
  refine zv (b:=0) 2 rfl rfl _ rfl rfl rfl fun M4 k4 n4 h4=>?_
  rw[aO (n:=2) h4 rfl]
  refine hl (p:=p) (k4.base.trans hM3) hm.1 hm.2 fun M5 cs k5 hrel=>?_
  rw[bH,bK,iK,aG]
  obtain⟨w,rfl,hw,Zm,_⟩:=AB hrel
  refine zv (b:=0) 5 rfl rfl _ rfl Zm rfl fun M6 k6 n6 h6=>?_
  have n5:=k5.next
  have k46:=k5.trans k6
  have h46:=k46.ax h4 (by omega) (by simp)
  have k36:ae [] M3 M6:=k4.trans k46
  have c6:lc M6 M1.next (fA ns):=c3.keep k36 (by simp)
  have hw6:=hw.keep k6 (by simp)
  rw[bU]
  refine PP (P:=fun M'=>ae [] M6 M') (p:=!qQ p) (ae.refl _ _) (fun hc kk hk=>?_) fun M7 k7=>?_
  ·rw[aO (n:=2) h46 rfl]
   refine hg (p:=p) (k36.base.trans hM3) hm.1 hm.2 fun M7 k7=>?_
   rw[bU]
   exact hk _ k7
  refine aY (fun hb=>?_) (fun hb=>?_)
  ·have hb:qQ p=false:=by
    simp only[Bool.or_eq_true,Bool.not_eq_true'] at hb
    rcases hb with hb | hb
    ·unfold qQ; rw[hb]; rfl
    ·exact hb
   rw[if_pos hb] at he
   rw[← he] at hQ
   exact hQ _ ((k3.trans k36).trans k7)
  ·simp only[Bool.or_eq_false_iff,Bool.not_eq_false'] at hb
   have hgd:=hb.2
   rw[if_neg (by rw[hgd]; simp)] at he
   have hfo:=Lc (OB hb.1)
   have hpr:=nV hfo.1
   have hsz:=Ov hpr.2.1
   have hLB:LB 1000000 (bY p).1:=(hsz.mono (by omega)).lb
   have abr:=hsz.YA
   generalize bY p=lf at *
   obtain⟨L,j,ok⟩:=lf
   dsimp only at *
   have h67:=k7.ax h6 (by omega) (by simp)
   have k37:=k36.trans k7
   have n7:=k7.next
   rw[aO (n:=5) h67 rfl]
   refine hp (k37.base.trans hM3) (kE (hw6.keep k7 (by simp))) hLB (by omega) fun M8 k8=>?_
   have c8:=(c6.keep k7 (by simp)).keep k8 (by simp)
   have n8:=k8.next
   rw[nU,Su]
   refine⟨St (bB L).1,rfl, ?_⟩
   refine c8.look ?_
   rw[dh]
   refine aY (fun hb=>?_) (fun hb=>?_)
   ·have hb:(fA ns (bB L).1:Int)≠j:=by simpa using hb
    rw[if_pos hb] at he
    rw[← he] at hQ
    exact hQ _ ((k3.trans k37).trans k8)
   ·have hb:(fA ns (bB L).1:Int)=j:=by simpa using hb
    rw[if_neg (fun h=>h hb)] at he
    refine c8.look ?_
    have hcl:=OZ ns (bB L).1
    rw[add1 (by omega)]
    refine c8.upd fun M9 c9 k9 n9=>?_
    have k09:ae [] M M9:=((k3.trans k37).trans k8).fK k9 fun c hc=>.inl (by simp at hc; have:=k1.next; omega)
    have c9' : lc M9 M1.next (fA (ns++[(bB L).1])):=by
     have:fA (ns++[(bB L).1])=fun x=>if x=(bB L).1 then fA ns (bB L).1 + 1 else fA ns x:=funext fun x=>Ju ns _ x
     rw[this]; exact c9
    have h69:=k9.ax (k8.ax h67 (by omega) (by simp)) (by omega) (by simp; omega)
    rw[aO (n:=5) h69 rfl]
    have hw9:bE jd M9 w L.ps (fun b=>M4.next≤b):=((hw6.keep k7 (by simp)).keep k8 (by simp)).keep k9 fun b hb h=>by simp at hb; omega
    refine hr (k09.base.trans hM) (kE hw9) (Lm hLB) (by omega) fun Ma ka=>?_
    have na:=ka.next
    rw[bH,bK,hfo.1,aaF,dS,bI]
    have hfl:=Rj (ed L)
    have hpl:(fV bX L).1.length≤4000:=by rw[hpr.2.2]; simp; omega
    refine⟨by omega, ?_⟩
    rw[add1 (by omega)]
    exact hnext _ _ _ (by omega) ⟨i + 1,_,ns++[(bB L).1],rfl,rfl,by omega,k09.trans ka,by omega,c9'.keep ka (by simp),by simp[hns],by simp; omega,he⟩
 ·have h:¬ i<xs.length:=of_decide_eq_false h
  rw[List.drop_eq_nil_of_le (by omega),sS] at he
  rw[← he] at hQ
  rw[bI]
  refine⟨by simp; omega, ?_⟩
  exact hQ _ k3
abbrev Li:=Ln × Int
theorem wQ {M:RM} {v:AV} {ls:List Li} {S:Nat→Prop} (h:bE iC M v ls S) {i:Nat} (hi:i<ls.length) :
  ∃ w,bE jd M w ls[i].1.ps S∧(∀ K:AV→Prop,(aW v (N .i64 (i:Int)) 5 fun p=>aK M p 5 K)=K (.agg [St ls[i].1.g,St ls[i].1.n,w,St ls[i].1.v,N .i64 ls[i].2])) ∧
    (∀ K:AV→Prop,(aW v (N .i64 (i:Int)) 5 fun p=>aB p 0 fun q=>ah M q K)=K (St ls[i].1.g)) ∧
    (∀ K:AV→Prop,(aW v (N .i64 (i:Int)) 5 fun p=>aB p 1 fun q=>ah M q K)=K (St ls[i].1.n)) ∧
    (∀ K:AV→Prop,(aW v (N .i64 (i:Int)) 5 fun p=>aB p 3 fun q=>ah M q K)=K (St ls[i].1.v)) ∧
    (∀ K:AV→Prop,(aW v (N .i64 (i:Int)) 5 fun p=>aB p 4 fun q=>ah M q K)=K (N .i64 ls[i].2)):=by
 obtain⟨b,o,cs,hb,hbm,hidx,hld,w,rfl,hw⟩:=bE.at h 5 (i:Int) hi
 have c0:M.cell b (o + 0)=some (St ls[i].1.g):=dB hld (j:=0) rfl
 have c1:M.cell b (o + 1)=some (St ls[i].1.n):=dB hld (j:=1) rfl
 have c3:M.cell b (o + 3)=some (St ls[i].1.v):=dB hld (j:=3) rfl
 have c4:M.cell b (o + 4)=some (N .i64 ls[i].2):=dB hld (j:=4) rfl
 refine⟨w,hw,fun K=>?_,fun K=>?_,fun K=>?_,fun K=>?_,fun K=>?_⟩
 ·rw[hidx,rP,hld]; simp
 ·rw[hidx,dP,bM,c0]; simp
 ·rw[hidx,dP,bM,c1]; simp
 ·rw[hidx,dP,bM,c3]; simp
 ·rw[hidx,dP,bM,c4]; simp
theorem qy {b:Int} : ∀ (l acc c r:List Li),dZ b l acc=.ok (c,r)→r.length + 1≤l.length
 | [],_,_,_,h=>by cases h
 | x :: l,acc,c,r,h=>by
   rw[dZ] at h
   split at h
   ·cases h; simp
   ·split at h
    ·cases h
    ·have:=qy l _ c r h; simp; omega
theorem gF (k:Nat) (x:Li) (r:List Li) (acc:List (List Li)) : jf (k + 1) (x :: r) acc=if fJ x.1 rC=false then .error x.2 else match r with
  | []=>.error x.2
  | y :: r=>if fJ y.1 iH=false then .error y.2 else match dZ x.2 r [x] with
    | .error e=>.error e
    | .ok (c,r')=>jf k r' (acc++[c]):=by cases r <;> rfl
theorem wK:∀ (n:Nat) (l:List Li) (acc:List (List Li)) (k k' : Nat),l.length≤n→l.length<k→l.length<k'→jf k l acc=jf k' l acc
 | n,l,acc,k,k',hn,h1,h2=>by
   obtain⟨i,rfl⟩ : ∃ i,k=i + 1:=⟨k - 1,by omega⟩
   obtain⟨j,rfl⟩ : ∃ j,k'=j + 1:=⟨k' - 1,by omega⟩
   cases l with
   | nil=>rfl
   | cons x r =>
     rw[gF,gF]
     split
     ·rfl
     ·cases r with
      | nil=>rfl
      | cons y r =>
        dsimp only
        split
        ·rfl
        ·cases hb:dZ x.2 r [x] with
         | error e=>rfl
         | ok p =>
           obtain⟨c,r'⟩:=p
           have:=qy _ _ _ _ hb
           simp only[List.length_cons] at hn h1 h2
           dsimp only
           cases n with
           | zero=>omega
           | succ n=>exact wK n r' _ i j (by omega) (by omega) (by omega)
def oM {α:Type} (R:jL α) (M:RM) (base T:Nat) (v:AV) (xs:List α) (S:Nat→Prop) : Prop :=
 fB R M base T v xs S∨∃ b cs,v=.slc b 0 xs.length (.ex xs.length)∧base≤b∧b<M.next∧M.heap b=some (.row cs false T 0)∧dL R M S cs xs
section
variable {α:Type} {R:jL α} {M M' : RM} {base T:Nat} {v:AV} {xs:List α} {S S' : Nat→Prop} {a:α} {cs:List AV}
theorem oM.blk (h:oM R M base T v xs S) : ∀ b∈aH v,base≤b∧b<M.next:=by
 rcases h with h | ⟨b,cs,rfl,h1,h2,_⟩
 ·exact h.blk
 ·intro c hc; simp[aH] at hc; subst hc; exact⟨h1,h2⟩
theorem oM.keep {bs:List Nat} (h:oM R M base T v xs S) (hk:ae bs M M') (hb:∀ b∈bs,¬ S b) (hv:∀ b∈aH v,b ∉ bs) : oM R M' base T v xs S:=by
 rcases h with h | ⟨b,cs,rfl,h1,h2,h3,h4⟩
 ·exact .inl (h.keep hk hb hv)
 ·exact .inr ⟨b,cs,rfl,h1,Nat.lt_of_lt_of_le h2 hk.next,hk.ax h3 h2 (hv b (by simp[aH])),h4.keep hk hb⟩
theorem oM.mono (h:oM R M base T v xs S) (hs:∀ b,S b→S' b) : oM R M base T v xs S':=by
 rcases h with h | ⟨b,cs,rfl,h1,h2,h3,h4⟩
 ·exact .inl (h.mono hs)
 ·exact .inr ⟨b,cs,rfl,h1,h2,h3,h4.mono hs⟩
theorem oM.Ef (h:oM R M base T v xs S) (hs:∀ b,base≤b→b<M.next→S b) : bE R M v xs S:=by
 rcases h with h | ⟨b,cs,rfl,h1,h2,h3,h4⟩
 ·exact h.Ef hs
 ·refine⟨cs,.slc _ _ _ _ _ h2 ?_,fun c hc=>by simp[aH] at hc; subst hc; exact hs _ h1 h2,h4⟩
  rw[RM.lq h3 (by rw[h4.len]; omega),List.drop_zero,← h4.len,List.take_length]
theorem oM.one (h:oM R M base T v xs S) : oneCell v=true:=by
 rcases h with h | ⟨b,cs,rfl,_⟩
 ·exact h.one
 ·rfl
theorem oM.app {bytes:Nat} {zs:List AV} {K:aj} (ho:oM R M base T v xs S) (ha:R.rel M cs a S) (hb:base≤M.next) (hs:1≤R.size)
  (hd:∀ b∈aH v,¬ S b) (hS:∀ b,S b→b<M.next) (hn:(xs.length + 1) * bytes≤140737488355328) (hn2:xs.length + 1≤140737488355328)
  (hK:∀ v' M',oM R M' base T v' (xs++[a]) S→ae (aH v) M M'→M.next≤M'.next→(∀ b∈aH v',¬ S b)→K v' M') :
  appW T R.size bytes zs false v (.slc M.next 0 1 (.ex 1)) (M.push (.row cs false T 0)) K:=by
 rcases ho with ho | ⟨b,ds,rfl,h1,h2,h3,h4⟩
 ·exact ho.app ha hb hs hd hS hn hn2 fun v' M' h1 h2 h3 _ h5=>hK v' M' (.inl h1) h2 h3 h5
 ·have hk:ae [] M (M.push (.row cs false T 0)):=(ae.refl _ _).push _
  have hl:=R.len ha
  have hl4:=h4.len
  have hnl:nN (M.push (.row cs false T 0)) R.size zs false (.slc M.next 0 1 (.ex 1))=some (1,cs):=by
   simp only[nN,Nat.one_mul]
   rw[RM.lq (RM.aS _) (by omega),List.drop_zero,← hl,List.take_length]
  have hld:(M.push (.row cs false T 0)).loads b 0 (xs.length * R.size)=some ds:=by
   rw[RM.lq (pU h3 h2) (by omega),List.drop_zero,← hl4,List.take_length]
  have hone:(ds++cs).all oneCell=true:=by rw[List.all_append,h4.one,R.one ha]; rfl
  have hb1:1 * bytes≤140737488355328:=Nat.le_trans (Nat.mul_le_mul_right _ (by omega)) hn
  refine⟨1,cs,hnl,hb1,by omega, ?_⟩
  refine⟨.slc (M.next + 1) 0 (xs.length + 1) (.op R.size),(M.push (.row cs false T 0)).push (.row (ds++cs) true T 0), ?_,hK _ _ (.inl ⟨ds++cs, ?_, ?_⟩) ((hk.mono (by simp)).trans ((ae.refl _ _).push _)) (by simp[RM.push]; omega) ?_⟩
  ·simp only[sw,if_neg (show ¬ (1=0) by decide),if_neg (show ¬ xs.length + 1≤xs.length by omega),hld]
   rw[if_pos ⟨by omega,by omega,hone⟩]; rfl
  ·rw[List.length_append,List.length_singleton]
   exact .op _ _ _ (by show base≤M.next + 1; omega) (by simp[RM.push]) (RM.aS _) (by rw[List.length_append,hl4,hl,Nat.add_mul,Nat.one_mul])
  ·exact((h4.keep hk (by simp)).keep (bs:=[]) ((ae.refl _ _).push _) (by simp)).append (dL.single ((R.keep ha hk (by simp)) |> fun h=>R.keep h (bs:=[]) ((ae.refl _ _).push _) (by simp)))
  ·intro c hc h
   simp[aH] at hc
   have:=hS c h; omega
end
def KE (size:Nat) : AV→Prop
 | .slc _ _ n (.ex c)=>n≤c
 | .slc _ _ _ (.op e)=>e=size
 | _=>True
theorem fB.UH {α:Type} {R:jL α} {M:RM} {base T:Nat} {v:AV} {xs:List α} {S:Nat→Prop} (h:fB R M base T v xs S) : KE R.size v:=by
 obtain⟨cs,h,_⟩:=h
 generalize xs.length=n at h
 cases h with
 | nil=>trivial
 | ex0=>exact Nat.le_refl 0
 | op=>rfl
theorem oM.UH {α:Type} {R:jL α} {M:RM} {base T:Nat} {v:AV} {xs:List α} {S:Nat→Prop} (h:oM R M base T v xs S) : KE R.size v:=by
 rcases h with h | ⟨b,cs,rfl,_⟩
 ·exact fB.UH h
 ·exact Nat.le_refl _
def Kl:jL (List Li) where
 size:=1
 rel M cs xs S:=∃ v,cs=[v]∧bE iC M v xs S∧KE 5 v
 len h:=by obtain⟨v,rfl,_⟩:=h; rfl
 one h:=by obtain⟨v,rfl,h,_⟩:=h; simp[h.one]
 mono h hs:=by obtain⟨v,rfl,h,hc⟩:=h; exact⟨v,rfl,h.mono hs,hc⟩
 lt h:=by obtain⟨v,rfl,h,hc⟩:=h; exact⟨v,rfl,h.lt,hc⟩
 keep h hk hb:=by obtain⟨v,rfl,h,hc⟩:=h; exact⟨v,rfl,h.keep hk hb,hc⟩
def rJ (ls:List Li) : Except Int (List (List Li)):=jf (ls.length + 1) ls []
theorem Sq (x:Li) (r:List Li) (acc:List (List Li)) (he:fJ x.1 rC=true) (hv:∀ y r',r=y :: r'→fJ y.1 iH=true) :
  jf ((x :: r).length + 1) (x :: r) acc=match dZ x.2 (r.drop 1) [x] with | .error e=>.error e | .ok (c,r')=>jf (r'.length + 1) r' (acc++[c]):=by
 rw[gF,if_neg (by rw[he]; simp)]
 cases r with
 | nil=>rfl
 | cons y r =>
   dsimp only
   rw[if_neg (by rw[hv y r rfl]; simp),List.drop_one,List.tail_cons]
   cases hb:dZ x.2 r [x] with
   | error e=>rfl
   | ok p =>
     obtain⟨c,r'⟩:=p
     have:=qy _ _ _ _ hb
     exact wK r'.length r' _ _ _ (Nat.le_refl _) (by simp; omega) (by omega)
def xV (B:Base) (c:ak) : Prop:=∀ {M:RM} {v:AV} {ls:List Li} {S:Nat→Prop} {Q:aj},M.base=B→bE iC M v ls S→ls.length≤200000→(∀ x∈ls,LB 1000000 x.1) →
 (∀ M' w css,ae [] M M'→rJ ls=.ok css→bE Kl M' w css (fun b=>M.next≤b∨S b)→css.length≤ls.length→Q (.tup [w,N .i64 0]) M') →
 (∀ M' k,ae [] M M'→rJ ls=.error k→Q (.tup [aF,N .i64 k]) M')→c [v] M Q
theorem EH {B:Base} {TL TS:Nat} {ce cr:ak} (he:Ny B ce) (hr:Kw cr) : xV B fun args M Q=>∃ a0,args=[a0]∧xC TL ce cr TS a0 M Q:=by
 intro M v ls S Q hM hv0 hlen hLB hO hE
 refine⟨_,rfl, ?_⟩
 unfold xC
 simp only[dR]
 have hv:=hv0.lt
 refine aP (fun m ys M1=>∃ (i:Nat) (w:AV) (acc:List (List Li)),m=ls.length - i∧ys=[w,N .i64 (i:Int)]∧i≤ls.length∧acc.length≤i∧ae [] M M1 ∧
   fB Kl M1 M.next TS w acc (fun b=>((M.next≤b∧b ∉ aH w)∨(S b∧b<M.next))∧b<M1.next)∧jf ((ls.drop i).length + 1) (ls.drop i) acc=rJ ls) _
  ⟨0,aF,[],rfl,rfl,Nat.zero_le _,Nat.le_refl _,ae.refl _ _,.nil,rfl⟩ ?_
 rintro next m ys M1 hnext ⟨i,w,acc,rfl,rfl,hi,hacc,k1,ho,hp⟩
 dsimp only[ag]
 have hM1:M1.base=B:=k1.base.trans hM
 have hv1:=hv.keep k1 (by simp)
 have hwb:=ho.blk
 rw[hv1.len,kJ]
 refine aY (fun h=>?_) (fun h=>?_)
 rotate_left 1
 ·have h:¬ i<ls.length:=of_decide_eq_false h
  rw[List.drop_eq_nil_of_le (by omega)] at hp
  refine hO M1 w acc k1 hp.symm ?_ (by omega)
  exact(ho.mono (fun b h=>(h.1.imp And.left And.left:M.next≤b∨S b))).Ef fun b hb _=>.inl hb
 have h:i<ls.length:=of_decide_eq_true h
 obtain⟨pw,hpw,hq,_,_,_,hq4⟩:=wQ hv1 h
 have hL:=hLB _ (List.getElem_mem h)
 rw[hq,aG]
 rw[List.drop_eq_getElem_cons h] at hp
 generalize hx:ls[i]=x at *
 have hall:([St x.1.g,St x.1.n,pw,St x.1.v,N .i64 x.2] : List AV).all oneCell=true:=by simp[eZ,hpw.one]
 refine zv (b:=0) 5 rfl rfl _ rfl hall rfl fun M2 k2 n2 h2=>?_
 rw[aO (n:=5) h2 rfl]
 have n1:=k1.next
 refine he (k2.base.trans hM1) (kE (k:=x.2) (hpw.keep k2 (by simp))) (Lm hL) fun M3 k3=>?_
 have h3:=k3.ax h2 (by omega) (by simp)
 have n3:=k3.next
 rw[bU]
 refine aY (fun hb=>?_) (fun hb=>?_)
 ·have hb:fJ x.1 rC=false:=by simpa using hb
  rw[gF,if_pos hb] at hp
  rw[aQ,ay h3 rfl]
  exact hE _ _ ((k1.trans k2).trans k3) hp.symm
 have hb:fJ x.1 rC=true:=by simpa using hb
 have k13:=k2.trans k3
 rw[aO (n:=5) h3 rfl,jV (x:=.agg [St x.1.g,St x.1.n,pw,St x.1.v,N .i64 x.2]) (size:=5) rfl hall rfl,aG]
 -- the row of the card begun
 have k4:ae [] M3 (M3.push (.row (AV.agg [St x.1.g,St x.1.n,pw,St x.1.v,N .i64 x.2]).cells false TL 0)):=(ae.refl _ _).push _
 have o4:oM iC (M3.push (.row (AV.agg [St x.1.g,St x.1.n,pw,St x.1.v,N .i64 x.2]).cells false TL 0)) M3.next TL (.slc M3.next 0 1 (.ex 1)) [x] (fun b=>S b∧b<M.next) :=
  .inr ⟨M3.next,_,rfl,Nat.le_refl _,Nat.lt_succ_self _,RM.aS _,dL.single (R:=iC) ⟨pw,rfl,(hpw.keep k13 (by simp)).keep k4 (by simp)⟩⟩
 have n4:(M3.push (.row (AV.agg [St x.1.g,St x.1.n,pw,St x.1.v,N .i64 x.2]).cells false TL 0)).next=M3.next + 1:=rfl
 generalize M3.push (.row (AV.agg [St x.1.g,St x.1.n,pw,St x.1.v,N .i64 x.2]).cells false TL 0)=M4 at *
 have k14:ae [] M1 M4:=k13.trans k4
 have h4:=k4.ax h3 (by omega) (by simp)
 have hv4:=hv1.keep k14 (by simp)
 rw[add1 (by omega),hv4.len,kJ]
 refine Qh (P:=fun M'=>ae [] M4 M') (p:=!(ls[i+1]?.map fun y=>fJ y.1 iH).getD true) (ae.refl _ _) (fun hc kk hk=>?_) fun M5 k5=>?_
 ·have hc:i + 1<ls.length:=of_decide_eq_true hc
  obtain⟨pw2,HY,hq2,_⟩:=wQ hv4 hc
  rw[hq2]
  refine he (k14.base.trans hM1) (kE (k:=ls[i+1].2) HY) (Lm (hLB _ (List.getElem_mem hc))) fun M5 k5=>?_
  rw[bU]
  refine hk M5 k5 |> fun h=>?_
  rw[List.getElem?_eq_getElem hc] at h
  exact h
 have n5:=k5.next
 have k15:=k14.trans k5
 have hv5:=hv1.keep k15 (by simp)
 refine aY (fun hc=>?_) (fun hc=>?_)
 ·simp only[Bool.and_eq_true] at hc
  obtain⟨hc1,hc2⟩:=hc
  have hc1:i + 1<ls.length:=of_decide_eq_true hc1
  rw[List.getElem?_eq_getElem hc1] at hc2
  have hc2:fJ ls[i+1].1 iH=false:=by simpa using hc2
  obtain⟨_,_,_,_,_,_,UM⟩:=wQ hv5 hc1
  rw[UM]
  rw[List.drop_eq_getElem_cons hc1,gF,if_neg (by rw[hb]; simp)] at hp
  dsimp only at hp
  rw[if_pos hc2] at hp
  exact hE _ _ (k1.trans k15) hp.symm
 have abj:∀ y r',ls.drop (i + 1)=y :: r'→fJ y.1 iH=true:=by
  intro y r' hy
  have hlt:i + 1<ls.length:=by
   rcases Nat.lt_or_ge (i + 1) ls.length with h | h
   ·exact h
   ·rw[List.drop_eq_nil_of_le h] at hy; cases hy
  rw[List.drop_eq_getElem_cons hlt] at hy
  cases hy
  rw[List.getElem?_eq_getElem hlt,decide_eq_true hlt,Bool.true_and] at hc
  simpa using hc
 rw[Sq x _ acc hb abj,List.drop_drop] at hp
 rw[show i + 1 + 1=i + 2 by omega] at hp
 rw[add1 (by omega)]
 -- the lines of the card
 generalize hR:dZ x.2 (ls.drop (i + 2)) [x]=R at *
 have o5:=o4.keep k5 (by simp) (by simp)
 have h5:=k5.ax h4 (by omega) (by simp)
 have ho5:=ho.keep k15 (by simp) (by simp)
 refine aP (fun m zs M6=>∃ (j:Nat) (c:AV) (Dh:List Li),m=ls.length + 1 - j∧zs=[w,N .i64 (j:Int),c]∧i + 2≤j∧j≤ls.length + 1∧Dh.length≤j∧ae [] M1 M6∧M4.next≤M6.next ∧
   M6.heap M1.next=some (.row [St x.1.g,St x.1.n,pw,St x.1.v,N .i64 x.2] false TL 0)∧oM iC M6 M3.next TL c Dh (fun b=>S b∧b<M.next)∧dZ x.2 (ls.drop j) Dh=R) _
  ⟨i + 2,_,[x],rfl,rfl,Nat.le_refl _,by omega,by simp,k15,by omega,h5,o5,hR⟩ ?_
 rintro AP m zs M6 jU ⟨j,c,Dh,rfl,rfl,hj1,hj2,hcl,k6,n6,h6,oc,hp2⟩
 dsimp only[ag]
 have hv6:=hv1.keep k6 (by simp)
 have hM6:M6.base=B:=k6.base.trans hM1
 rw[hv6.len,kJ]
 refine Qh (P:=fun M'=>ae [] M6 M') (p:=!(ls[j]?.map fun y=>fJ y.1 CX).getD true) (ae.refl _ _) (fun hc kk hk=>?_) fun M7 k7=>?_
 ·have hc:j<ls.length:=of_decide_eq_true hc
  obtain⟨pw2,HY,hq2,_⟩:=wQ hv6 hc
  rw[hq2]
  refine he hM6 (kE (k:=ls[j].2) HY) (Lm (hLB _ (List.getElem_mem hc))) fun M7 k7=>?_
  rw[bU]
  refine hk M7 k7 |> fun h=>?_
  rw[List.getElem?_eq_getElem hc] at h
  exact h
 have n7:=k7.next
 have k17:=k6.trans k7
 have hv7:=hv1.keep k17 (by simp)
 have oc7:=oc.keep k7 (by simp) (by simp)
 have hcb:=oc7.blk
 have h7:=k7.ax h6 (by omega) (by simp)
 refine aY (fun hc=>?_) (fun hc=>?_)
 ·simp only[Bool.and_eq_true] at hc
  obtain⟨hc1,hc2⟩:=hc
  have hc1:j<ls.length:=of_decide_eq_true hc1
  rw[List.getElem?_eq_getElem hc1] at hc2
  have hc2:fJ ls[j].1 CX=false:=by simpa using hc2
  obtain⟨pw2,HY,hq2,aal,aaz,_,UM⟩:=wQ hv7 hc1
  rw[List.drop_eq_getElem_cons hc1,dZ,if_neg (by rw[hc2]; simp)] at hp2
  have hLj:=hLB _ (List.getElem_mem hc1)
  rw[aaz]
  generalize hy:ls[j]=y at *
  refine hr ?_
  refine mZ (p:=y.1.g == lg) (fun hc kk hk=>?_) ?_
  ·rw[aal,gy]; exact hk
  have eg:(y.1.g == lg)=decide (y.1.g=lg):=by by_cases h:y.1.g=lg <;> simp[h]
  rw[eg]
  refine aY (fun hd=>?_) (fun hd=>?_)
  ·rw[if_pos hd] at hp2
   rw[UM]
   rw[← hp2] at hp
   exact hE _ _ (k1.trans k17) hp.symm
  ·rw[if_neg (by rw[hd]; simp)] at hp2
   rw[hq2,jV (x:=.agg [St y.1.g,St y.1.n,pw2,St y.1.v,N .i64 y.2]) (size:=5) rfl (by show([St y.1.g,St y.1.n,pw2,St y.1.v,N .i64 y.2] : List AV).all oneCell=true; simp[eZ,HY.one]) rfl,aG]
   refine oM.app (R:=iC) (a:=y) oc7 ⟨pw2,rfl,HY⟩ (by omega) (by decide) (fun b hb h=>by have:=(hcb b hb).1; omega) (fun b h=>by omega) (by omega) (by omega) ?_
   intro c' M8 o8 k8 n8 _
   rw[add1 (by omega)]
   have k18:ae [] M1 M8:=k17.fK k8 fun d hd=>.inl (by have:=(hcb d hd).1; omega)
   exact jU _ _ _ (by omega) ⟨j + 1,c',Dh++[y],rfl,rfl,by omega,by omega,by simp; omega,k18,by omega,k8.ax h7 (by omega) (fun h=>by have:=(hcb _ h).1; omega),o8,hp2⟩
 ·rw[hv7.len,fM]
  refine aY (fun hd=>?_) (fun hd=>?_)
  ·have hd:ls.length≤j:=by have:=of_decide_eq_true hd; omega
   rw[List.drop_eq_nil_of_le hd,dZ] at hp2
   rw[← hp2] at hp
   rw[aQ,ay h7 rfl]
   exact hE _ _ (k1.trans k17) hp.symm
  ·have hd:j<ls.length:=by have:=of_decide_eq_false hd; omega
   rw[List.getElem?_eq_getElem hd,decide_eq_true hd,Bool.true_and] at hc
   have hc:fJ ls[j].1 CX=true:=by simpa using hc
   rw[List.drop_eq_getElem_cons hd,dZ,if_pos hc] at hp2
   rw[← hp2] at hp
   dsimp only at hp
   let S' : Nat→Prop:=fun b=>((M.next≤b∧b ∉ aH w)∨(S b∧b<M.next))∧b<M7.next
   have ho7:fB Kl M7 M.next TS w acc S':=(ho.keep k17 (by simp) (by simp)).mono fun b hb=>⟨hb.1,by omega⟩
   have hcs:bE iC M7 c Dh S':=(oc7.mono (S':=S') fun b hb=>⟨.inr hb,by omega⟩).Ef fun b h1 h2=>⟨.inl ⟨by omega,fun hb=>by have:=(hwb b hb).2; omega⟩,h2⟩
   rw[jV (x:=c) (size:=1) (by rw[hcs.cells]; rfl) (by rw[hcs.cells]; simp[hcs.one]) rfl,aG,hcs.cells]
   refine fB.app (R:=Kl) (a:=Dh) ho7 ⟨c,rfl,hcs,oc7.UH⟩ (by omega) (by decide) (fun b hb h=>?_) (fun b h=>h.2) (by omega) (by omega) ?_
   ·rcases h.1 with h | h
    ·exact h.2 hb
    ·have:=(hwb b hb).1; omega
   intro w' M8 o8 k8 n8 _ hd8
   rw[add1 (by omega)]
   refine hnext _ _ _ (by omega) ⟨j + 1,w',acc++[Dh],rfl,rfl,by omega,by simp; omega,(k1.trans k17).fK k8 fun d hd=>.inl (hwb d hd).1, ?_,hp⟩
   refine o8.mono fun b hb=>⟨?_,by have:=hb.2; omega⟩
   rcases hb.1 with h | h
   ·exact .inl ⟨h.1,fun hbw=>hd8 b hbw hb⟩
   ·exact .inr h
end Go.Ab.Vc
set_option maxRecDepth 100000
namespace Go.Ab.Sha
open Go Go.Ab
def Cj (p1:Nat) (p2:ak) (p3:Nat) (p4:ak) (p5:Nat) (p6 p7:ak) (p8:Nat) (a0:AV) (M0:RM) (Q:aj) : Prop:=bf (.row [(N .u8 0),(N .u8 0),(N .u8 0),(N .u8 0),(N .u8 0),(N .u8 0),(N .u8 0),(N .u8 0),(N .u8 0),(N .u8 0),(N .u8 0),(N .u8 0),(N .u8 0),(N .u8 0),(N .u8 0),(N .u8 0),(N .u8 0),(N .u8 0),(N .u8 0),(N .u8 0),(N .u8 0),(N .u8 0),(N .u8 0),(N .u8 0),(N .u8 0),(N .u8 0),(N .u8 0),(N .u8 0),(N .u8 0),(N .u8 0),(N .u8 0),(N .u8 0)] false p1 0) (fun c=>.ptr c 0) M0 fun u v=>p2 [] v fun vf w=>bf (.row [(N .u32 0),(N .u32 0),(N .u32 0),(N .u32 0),(N .u32 0),(N .u32 0),(N .u32 0),(N .u32 0),(N .u32 0),(N .u32 0),(N .u32 0),(N .u32 0),(N .u32 0),(N .u32 0),(N .u32 0),(N .u32 0),(N .u32 0),(N .u32 0),(N .u32 0),(N .u32 0),(N .u32 0),(N .u32 0),(N .u32 0),(N .u32 0),(N .u32 0),(N .u32 0),(N .u32 0),(N .u32 0),(N .u32 0),(N .u32 0),(N .u32 0),(N .u32 0),(N .u32 0),(N .u32 0),(N .u32 0),(N .u32 0),(N .u32 0),(N .u32 0),(N .u32 0),(N .u32 0),(N .u32 0),(N .u32 0),(N .u32 0),(N .u32 0),(N .u32 0),(N .u32 0),(N .u32 0),(N .u32 0),(N .u32 0),(N .u32 0),(N .u32 0),(N .u32 0),(N .u32 0),(N .u32 0),(N .u32 0),(N .u32 0),(N .u32 0),(N .u32 0),(N .u32 0),(N .u32 0),(N .u32 0),(N .u32 0),(N .u32 0),(N .u32 0)] false p3 0) (fun c=>.ptr c 0) w fun l x=>aC x l vf 64 fun B=>p4 [] B fun vg G=>bf (.row [(N .u32 0),(N .u32 0),(N .u32 0),(N .u32 0),(N .u32 0),(N .u32 0),(N .u32 0),(N .u32 0)] false p5 0) (fun c=>.ptr c 0) G fun h I=>aC I h vg 8 fun L=>bQ a0 fun vh=>af .quo vh (N .i64 64) fun vi=>af .mul vi (N .i64 64) fun t=>bz (fun W i r=>af .lss (ag i 0) t fun vj=>au vj ( af .add (ag i 0) (N .i64 64) fun vl=>bP (kw 1 a0 (some (ag i 0)) (some vl) none) fun vm=>p6 [h,vm,l] r fun wo O=>af .add (ag i 0) (N .i64 64) fun vk=>W [vk] O) ( bP (kw 1 a0 (some t) none none) fun vn=>p7 [vn] r fun vo P=>eY p8 1 [(N .u8 0)] [(0,1,(N .u8 128))] fun vb S=>bf vb S P fun vp R=>appW p8 1 1 [(N .u8 0)] false vo vp R fun vq y=>bz (fun X m n=>bQ (ag m 0) fun vr=>af .rem vr (N .i64 64) fun vs=>af .neq vs (N .i64 56) fun vt=>au vt ( eY p8 1 [(N .u8 0)] [(0,1,(N .u8 0))] fun vc U=>bf vc U n fun vu z=>appW p8 1 1 [(N .u8 0)] false (ag m 0) vu z fun vv A=>X [vv] A) ( bz (fun Y d o=>af .lss (ag d 1) (N .i64 8) fun vw=>au vw ( bQ a0 fun vx=>pu .u64 vx fun vy=>af .mul vy (N .u64 8) fun vz=>af .mul (N .i64 8) (ag d 1) fun v0=>af .sub (N .i64 56) v0 fun v1=>qd .shr vz v1 fun v2=>pu .u8 v2 fun v3=>eY p8 1 [(N .u8 0)] [(0,1,v3)] fun vd V=>bf vd V o fun v4 C=>appW p8 1 1 [(N .u8 0)] false (ag d 0) v4 C fun v5 D=>af .add (ag d 1) (N .i64 1) fun v6=>Y [v5,v6] D) ( bz (fun Z j p=>bQ (ag d 0) fun v7=>af .lss (ag j 0) v7 fun v8=>au v8 ( af .add (ag j 0) (N .i64 64) fun wa=>bP (kw 1 (ag d 0) (some (ag j 0)) (some wa) none) fun wb=>p6 [h,wb,l] p fun wp E=>af .add (ag j 0) (N .i64 64) fun v9=>Z [v9] E) ( bf (.row [(N .u8 0),(N .u8 0),(N .u8 0),(N .u8 0),(N .u8 0),(N .u8 0),(N .u8 0),(N .u8 0),(N .u8 0),(N .u8 0),(N .u8 0),(N .u8 0),(N .u8 0),(N .u8 0),(N .u8 0),(N .u8 0),(N .u8 0),(N .u8 0),(N .u8 0),(N .u8 0),(N .u8 0),(N .u8 0),(N .u8 0),(N .u8 0),(N .u8 0),(N .u8 0),(N .u8 0),(N .u8 0),(N .u8 0),(N .u8 0),(N .u8 0),(N .u8 0)] false p1 0) (fun c=>.ptr c 0) p fun s F=>bz (fun va e g=>af .lss (ag e 0) (N .i64 32) fun wc=>au wc ( af .quo (ag e 0) (N .i64 4) fun wd=>dX h wd 8 1 fun we=>ah g we fun wf=>af .rem (ag e 0) (N .i64 4) fun wg=>af .mul (N .i64 8) wg fun wh=>af .sub (N .i64 24) wh fun wi=>qd .shr wf wi fun wj=>pu .u8 wj fun wk=>dX s (ag e 0) 32 1 fun wl=>aC g wl wk 1 fun H=>af .add (ag e 0) (N .i64 1) fun wm=>va [wm] H) ( aK g s 32 fun wn=>aC g u wn 32 fun q=>aK q u 32 fun ve=>Q ve q)) [(N .i64 0)] F)) [(N .i64 0)] o)) [(ag m 0),(N .i64 0)] n)) [vq] y)) [(N .i64 0)] L
def BG (p1 p2:Nat) (a0:AV) (M0:RM) (Q:aj) : Prop:=mh p1 a0 fun n j=>bf n j M0 fun p e=>aK e p 32 fun y=>bz (fun m c d=>af .lss (ag c 1) (N .i64 32) fun z=>au z ( GI y (ag c 1) 32 fun g=>qd .shr g (N .u64 4) fun q=>dG (St [48,49,50,51,52,53,54,55,56,57,97,98,99,100,101,102]) q fun r=>af .and g (N .u8 15) fun s=>dG (St [48,49,50,51,52,53,54,55,56,57,97,98,99,100,101,102]) s fun t=>eY p2 2 [(N .u8 0)] [(0,1,r),(1,1,t)] fun o l=>Ra o l d fun u h A=>appW p2 1 1 [(N .u8 0)] false (ag c 0) u h fun v i=>af .add (ag c 1) (N .i64 1) fun w=>m [v,w] i) ( uA d (ag c 0) fun x=>Q x d)) [(.sc (.slice none 0 0)),(N .i64 0)] e
def oV (p1:Nat) (M0:RM) (Q:aj) : Prop:=bf (.row [(N .u32 0),(N .u32 0),(N .u32 0),(N .u32 0),(N .u32 0),(N .u32 0),(N .u32 0),(N .u32 0),(N .u32 0),(N .u32 0),(N .u32 0),(N .u32 0),(N .u32 0),(N .u32 0),(N .u32 0),(N .u32 0),(N .u32 0),(N .u32 0),(N .u32 0),(N .u32 0),(N .u32 0),(N .u32 0),(N .u32 0),(N .u32 0),(N .u32 0),(N .u32 0),(N .u32 0),(N .u32 0),(N .u32 0),(N .u32 0),(N .u32 0),(N .u32 0),(N .u32 0),(N .u32 0),(N .u32 0),(N .u32 0),(N .u32 0),(N .u32 0),(N .u32 0),(N .u32 0),(N .u32 0),(N .u32 0),(N .u32 0),(N .u32 0),(N .u32 0),(N .u32 0),(N .u32 0),(N .u32 0),(N .u32 0),(N .u32 0),(N .u32 0),(N .u32 0),(N .u32 0),(N .u32 0),(N .u32 0),(N .u32 0),(N .u32 0),(N .u32 0),(N .u32 0),(N .u32 0),(N .u32 0),(N .u32 0),(N .u32 0),(N .u32 0)] false p1 0) (fun g=>.ptr g 0) M0 fun d e=>eT [(N .u32 0),(N .u32 0),(N .u32 0),(N .u32 0),(N .u32 0),(N .u32 0),(N .u32 0),(N .u32 0),(N .u32 0),(N .u32 0),(N .u32 0),(N .u32 0),(N .u32 0),(N .u32 0),(N .u32 0),(N .u32 0),(N .u32 0),(N .u32 0),(N .u32 0),(N .u32 0),(N .u32 0),(N .u32 0),(N .u32 0),(N .u32 0),(N .u32 0),(N .u32 0),(N .u32 0),(N .u32 0),(N .u32 0),(N .u32 0),(N .u32 0),(N .u32 0),(N .u32 0),(N .u32 0),(N .u32 0),(N .u32 0),(N .u32 0),(N .u32 0),(N .u32 0),(N .u32 0),(N .u32 0),(N .u32 0),(N .u32 0),(N .u32 0),(N .u32 0),(N .u32 0),(N .u32 0),(N .u32 0),(N .u32 0),(N .u32 0),(N .u32 0),(N .u32 0),(N .u32 0),(N .u32 0),(N .u32 0),(N .u32 0),(N .u32 0),(N .u32 0),(N .u32 0),(N .u32 0),(N .u32 0),(N .u32 0),(N .u32 0),(N .u32 0)] [(0,1,(N .u32 1116352408)),(1,1,(N .u32 1899447441)),(2,1,(N .u32 3049323471)),(3,1,(N .u32 3921009573)),(4,1,(N .u32 961987163)),(5,1,(N .u32 1508970993)),(6,1,(N .u32 2453635748)),(7,1,(N .u32 2870763221)),(8,1,(N .u32 3624381080)),(9,1,(N .u32 310598401)),(10,1,(N .u32 607225278)),(11,1,(N .u32 1426881987)),(12,1,(N .u32 1925078388)),(13,1,(N .u32 2162078206)),(14,1,(N .u32 2614888103)),(15,1,(N .u32 3248222580)),(16,1,(N .u32 3835390401)),(17,1,(N .u32 4022224774)),(18,1,(N .u32 264347078)),(19,1,(N .u32 604807628)),(20,1,(N .u32 770255983)),(21,1,(N .u32 1249150122)),(22,1,(N .u32 1555081692)),(23,1,(N .u32 1996064986)),(24,1,(N .u32 2554220882)),(25,1,(N .u32 2821834349)),(26,1,(N .u32 2952996808)),(27,1,(N .u32 3210313671)),(28,1,(N .u32 3336571891)),(29,1,(N .u32 3584528711)),(30,1,(N .u32 113926993)),(31,1,(N .u32 338241895)),(32,1,(N .u32 666307205)),(33,1,(N .u32 773529912)),(34,1,(N .u32 1294757372)),(35,1,(N .u32 1396182291)),(36,1,(N .u32 1695183700)),(37,1,(N .u32 1986661051)),(38,1,(N .u32 2177026350)),(39,1,(N .u32 2456956037)),(40,1,(N .u32 2730485921)),(41,1,(N .u32 2820302411)),(42,1,(N .u32 3259730800)),(43,1,(N .u32 3345764771)),(44,1,(N .u32 3516065817)),(45,1,(N .u32 3600352804)),(46,1,(N .u32 4094571909)),(47,1,(N .u32 275423344)),(48,1,(N .u32 430227734)),(49,1,(N .u32 506948616)),(50,1,(N .u32 659060556)),(51,1,(N .u32 883997877)),(52,1,(N .u32 958139571)),(53,1,(N .u32 1322822218)),(54,1,(N .u32 1537002063)),(55,1,(N .u32 1747873779)),(56,1,(N .u32 1955562222)),(57,1,(N .u32 2024104815)),(58,1,(N .u32 2227730452)),(59,1,(N .u32 2361852424)),(60,1,(N .u32 2428436474)),(61,1,(N .u32 2756734187)),(62,1,(N .u32 3204031479)),(63,1,(N .u32 3329325298))] fun i=>aC e d i 64 fun c=>aK c d 64 fun h=>Q h c
def xZ (p1:Nat) (M0:RM) (Q:aj) : Prop:=bf (.row [(N .u32 0),(N .u32 0),(N .u32 0),(N .u32 0),(N .u32 0),(N .u32 0),(N .u32 0),(N .u32 0)] false p1 0) (fun g=>.ptr g 0) M0 fun d e=>eT [(N .u32 0),(N .u32 0),(N .u32 0),(N .u32 0),(N .u32 0),(N .u32 0),(N .u32 0),(N .u32 0)] [(0,1,(N .u32 1779033703)),(1,1,(N .u32 3144134277)),(2,1,(N .u32 1013904242)),(3,1,(N .u32 2773480762)),(4,1,(N .u32 1359893119)),(5,1,(N .u32 2600822924)),(6,1,(N .u32 528734635)),(7,1,(N .u32 1541459225))] fun i=>aC e d i 8 fun c=>aK c d 8 fun h=>Q h c
def oJ (p1:Nat) (p2:ak) (p3:Nat) (a0 a1 a2:AV) (M0:RM) (Q:aj) : Prop:=bf (.row [(N .u32 0),(N .u32 0),(N .u32 0),(N .u32 0),(N .u32 0),(N .u32 0),(N .u32 0),(N .u32 0),(N .u32 0),(N .u32 0),(N .u32 0),(N .u32 0),(N .u32 0),(N .u32 0),(N .u32 0),(N .u32 0),(N .u32 0),(N .u32 0),(N .u32 0),(N .u32 0),(N .u32 0),(N .u32 0),(N .u32 0),(N .u32 0),(N .u32 0),(N .u32 0),(N .u32 0),(N .u32 0),(N .u32 0),(N .u32 0),(N .u32 0),(N .u32 0),(N .u32 0),(N .u32 0),(N .u32 0),(N .u32 0),(N .u32 0),(N .u32 0),(N .u32 0),(N .u32 0),(N .u32 0),(N .u32 0),(N .u32 0),(N .u32 0),(N .u32 0),(N .u32 0),(N .u32 0),(N .u32 0),(N .u32 0),(N .u32 0),(N .u32 0),(N .u32 0),(N .u32 0),(N .u32 0),(N .u32 0),(N .u32 0),(N .u32 0),(N .u32 0),(N .u32 0),(N .u32 0),(N .u32 0),(N .u32 0),(N .u32 0),(N .u32 0)] false p1 0) (fun vc=>.ptr vc 0) M0 fun i vg=>bz (fun vn j m=>af .lss (ag j 0) (N .i64 16) fun xz=>au xz ( af .mul (N .i64 4) (ag j 0) fun x0=>aW a1 x0 1 fun x1=>ah m x1 fun x2=>pu .u32 x2 fun x3=>qd .shl x3 (N .u64 24) fun x4=>af .mul (N .i64 4) (ag j 0) fun x5=>af .add x5 (N .i64 1) fun x6=>aW a1 x6 1 fun x7=>ah m x7 fun x8=>pu .u32 x8 fun x9=>qd .shl x9 (N .u64 16) fun ya=>af .or x4 ya fun yb=>af .mul (N .i64 4) (ag j 0) fun yc=>af .add yc (N .i64 2) fun yd=>aW a1 yd 1 fun ye=>ah m ye fun yf=>pu .u32 yf fun yg=>qd .shl yg (N .u64 8) fun yh=>af .or yb yh fun yi=>af .mul (N .i64 4) (ag j 0) fun yj=>af .add yj (N .i64 3) fun yk=>aW a1 yk 1 fun yl=>ah m yl fun ym=>pu .u32 ym fun yn=>af .or yi yn fun yo=>dX i (ag j 0) 64 1 fun yp=>aC m yp yo 1 fun vh=>af .add (ag j 0) (N .i64 1) fun yq=>vn [yq] vh) ( bz (fun vo l h=>af .lss (ag l 0) (N .i64 64) fun yr=>au yr ( af .sub (ag l 0) (N .i64 15) fun yt=>dX i yt 64 1 fun yu=>ah h yu fun vd=>af .sub (ag l 0) (N .i64 2) fun yv=>dX i yv 64 1 fun yw=>ah h yw fun ve=>af .sub (ag l 0) (N .i64 16) fun yx=>dX i yx 64 1 fun t=>ah h t fun u=>qd .shr vd (N .u64 3) fun y5=>af .sub (ag l 0) (N .i64 7) fun y8=>dX i y8 64 1 fun v=>ah h v fun w=>qd .shr ve (N .u64 10) fun zh=>p2 [vd,(N .i64 7)] h fun y2 X=>ah X t fun y1=>(y1=u∧ah X v fun zc=>(zc=w∧p2 [vd,(N .i64 18)] X fun y3 Z=>ah Z t fun y0=>(y0=u∧ah Z v fun zb=>(zb=w∧af .xor y2 y3 fun y4=>af .xor y4 y5 fun y6=>af .add u y6 fun y7=>af .add y7 w fun zd=>p2 [ve,(N .i64 17)] Z fun ze va=>ah va t fun yz=>(yz=u∧ah va v fun za=>(za=w∧p2 [ve,(N .i64 19)] va fun zf vb=>ah vb t fun yy=>(yy=u∧ah vb v fun y9=>(y9=w∧af .xor ze zf fun zg=>af .xor zg zh fun zi=>af .add zd zi fun zj=>dX i (ag l 0) 64 1 fun zk=>aC vb zk zj 1 fun vm=>af .add (ag l 0) (N .i64 1) fun ys=>vo [ys] vm))))))))) ( nK a0 fun vr=>aK h vr 8 fun vs=>bf (.row [(N .u32 0),(N .u32 0),(N .u32 0),(N .u32 0),(N .u32 0),(N .u32 0),(N .u32 0),(N .u32 0)] false p3 0) (fun vc=>.ptr vc 0) h fun c vi=>aC vi c vs 8 fun vj=>bz (fun vp W d=>af .lss (ag W 0) (N .i64 64) fun vt=>au vt ( dX c (N .i64 4) 8 1 fun vu=>ah d vu fun p=>dX c (N .i64 0) 8 1 fun vv=>ah d vv fun q=>dX c (N .i64 7) 8 1 fun y=>ah d y fun z=>dX c (N .i64 5) 8 1 fun A=>ah d A fun B=>af .and p B fun v8=>FI p fun v9=>dX c (N .i64 6) 8 1 fun C=>ah d C fun D=>af .and v9 D fun wd=>af .xor v8 wd fun we=>nK a2 fun wg=>dX wg (ag W 0) 64 1 fun E=>ah d E fun F=>dX i (ag W 0) 64 1 fun G=>ah d G fun H=>p2 [p,(N .i64 6)] d fun vz n=>ah n y fun vy=>(vy=z∧ah n A fun v7=>(v7=B∧ah n C fun wc=>(wc=D∧ah n E fun wj=>(wj=F∧ah n G fun wn=>(wn=H∧p2 [p,(N .i64 11)] n fun v0 o=>ah o y fun vx=>(vx=z∧ah o A fun v6=>(v6=B∧ah o C fun wb=>(wb=D∧ah o E fun wi=>(wi=F∧ah o G fun wm=>(wm=H∧af .xor vz v0 fun v1=>p2 [p,(N .i64 25)] o fun v2 e=>ah e y fun vw=>(vw=z∧ah e A fun v5=>(v5=B∧ah e C fun wa=>(wa=D∧ah e E fun wh=>(wh=F∧ah e G fun wl=>(wl=H∧af .xor v1 v2 fun v3=>af .add z v3 fun v4=>af .add v4 we fun wf=>af .add wf F fun wk=>af .add wk H fun vf=>dX c (N .i64 1) 8 1 fun I=>ah e I fun L=>af .and q L fun ww=>dX c (N .i64 2) 8 1 fun O=>ah e O fun P=>af .and q P fun w0=>af .xor ww w0 fun w1=>dX c (N .i64 1) 8 1 fun R=>ah e R fun S=>dX c (N .i64 2) 8 1 fun U=>ah e U fun V=>af .and S V fun w8=>af .xor w1 w8 fun w9=>p2 [q,(N .i64 2)] e fun wo r=>ah r I fun wv=>(wv=L∧ah r O fun wz=>(wz=P∧ah r R fun w4=>(w4=S∧ah r U fun w7=>(w7=V∧p2 [q,(N .i64 13)] r fun wp s=>ah s I fun wu=>(wu=L∧ah s O fun wy=>(wy=P∧ah s R fun w3=>(w3=S∧ah s U fun w6=>(w6=V∧af .xor wo wp fun wq=>p2 [q,(N .i64 22)] s fun wr g=>ah g I fun wt=>(wt=L∧ah g O fun wx=>(wx=P∧ah g R fun w2=>(w2=S∧ah g U fun w5=>(w5=V∧af .xor wq wr fun ws=>af .add ws w9 fun xa=>af .add vf xa fun xb=>dX c (N .i64 1) 8 1 fun xc=>ah g xc fun xd=>dX c (N .i64 2) 8 1 fun xe=>ah g xe fun xf=>dX c (N .i64 3) 8 1 fun xg=>ah g xg fun xh=>af .add xh vf fun xi=>dX c (N .i64 5) 8 1 fun xj=>ah g xj fun xk=>dX c (N .i64 6) 8 1 fun xl=>ah g xl fun xm=>eT [(N .u32 0),(N .u32 0),(N .u32 0),(N .u32 0),(N .u32 0),(N .u32 0),(N .u32 0),(N .u32 0)] [(0,1,xb),(1,1,q),(2,1,xd),(3,1,xf),(4,1,xi),(5,1,p),(6,1,xk),(7,1,xm)] fun xn=>aC g c xn 8 fun vk=>af .add (ag W 0) (N .i64 1) fun xo=>vp [xo] vk)))))))))))))))))))))))))))) ( aK d c 8 fun xp=>bz (fun vq x Y=>af .lss (ag x 0) (N .i64 8) fun xq=>au xq ( GI xp (ag x 0) 8 fun xr=>nK a0 fun xs=>dX xs (ag x 0) 8 1 fun xt=>ah Y xt fun xu=>af .add xu xr fun xv=>nK a0 fun xw=>dX xw (ag x 0) 8 1 fun xx=>aC Y xx xv 1 fun vl=>af .add (ag x 0) (N .i64 1) fun xy=>vq [xy] vl) ( Q (.tup []) Y)) [(N .i64 0)] d)) [(N .i64 0)] vj)) [(N .i64 16)] m)) [(N .i64 0)] vg
def Ao (p1:ak) (a0 a1:AV) (M0:RM) (Q:aj) : Prop:=P7 a1 fun d=>p1 [a0,d] M0 fun e c=>Q e c
def jD (a0 a1:AV) (M0:RM) (Q:aj) : Prop:=pu .u64 a1 fun i=>af .and i (N .u64 31) fun c=>qd .shl a0 c fun d=>af .sub (N .u64 32) c fun e=>qd .shr a0 e fun g=>af .or d g fun h=>Q h M0
set_option maxRecDepth 10000
def fZ:Enc Int:=⟨1,fun n=>[N .u32 n],fun _=>rfl,fun _=>rfl⟩
theorem qI (xs:List Int) : fZ.row xs=xs.map (N .u32):=by
 induction xs with
 | nil=>rfl
 | cons x xs ih=>rw[Enc.ko,ih]; rfl
theorem jJ (xs:List Int) : (fZ.row xs).length=xs.length:=by rw[qI,List.length_map]
def iG (a b:Int) : Int:=IntKind.u32.wrap (a + b)
def oH (x n:Int) : Int:=FW .u32 (uM .u32 x n) (Mg .u32 x (32 - n))
def KY (a b c:Int) : Int:=BM .u32 (BM .u32 a b) c
def aaK (x:Int) : Int:=KY (oH x 7) (oH x 18) (uM .u32 x 3)
def aan (x:Int) : Int:=KY (oH x 17) (oH x 19) (uM .u32 x 10)
def abn (x:Int) : Int:=BM .u32 4294967295 x
def ZX (e f g:Int) : Int:=BM .u32 (zH .u32 e f) (zH .u32 (abn e) g)
def aaC (a b c:Int) : Int:=BM .u32 (BM .u32 (zH .u32 a b) (zH .u32 a c)) (zH .u32 b c)
def VG (b:Str) (i:Nat) : Int:=FW .u32 (FW .u32 (FW .u32 (Mg .u32 (IntKind.u32.wrap ((b.getD (4 * i) 0).toNat:Int)) 24) (Mg .u32 (IntKind.u32.wrap ((b.getD (4 * i + 1) 0).toNat:Int)) 16)) (Mg .u32 (IntKind.u32.wrap ((b.getD (4 * i + 2) 0).toNat:Int)) 8)) (IntKind.u32.wrap ((b.getD (4 * i + 3) 0).toNat:Int))
def QP (l:List Int) (i:Nat) : Int:=iG (iG (iG (l.getD (i - 16) 0) (aaK (l.getD (i - 15) 0))) (l.getD (i - 7) 0)) (aan (l.getD (i - 2) 0))
def sched (b:Str) : Nat→List Int
 | 0=>[]
 | i + 1=>sched b i++[if i<16 then VG b i else QP (sched b i) i]
theorem oL (b:Str) : ∀ i,(sched b i).length=i
 | 0=>rfl
 | i + 1=>by rw[sched,List.length_append,oL b i]; rfl
def YJ (v:List Int) (k w:Int) : List Int:=match v with
 | [a,b,c,d,e,f,g,h] =>
   [iG (iG (iG (iG (iG h (KY (oH e 6) (oH e 11) (oH e 25))) (ZX e f g)) k) w) (iG (KY (oH a 2) (oH a 13) (oH a 22)) (aaC a b c)),a,b,c,
    iG d (iG (iG (iG (iG h (KY (oH e 6) (oH e 11) (oH e 25))) (ZX e f g)) k) w),e,f,g]
 | _=>v
def zS (k w:List Int) (h:List Int) : Nat→List Int
 | 0=>h
 | i + 1=>YJ (zS k w h i) (k.getD i 0) (w.getD i 0)
theorem eight {l:List Int} (h:l.length=8) : ∃ a b c d e f g i,l=[a,b,c,d,e,f,g,i]:=by
 rcases l with _ | ⟨a,_ | ⟨b,_ | ⟨c,_ | ⟨d,_ | ⟨e,_ | ⟨f,_ | ⟨g,_ | ⟨i,_ | ⟨j,l⟩⟩⟩⟩⟩⟩⟩⟩⟩ <;> first | (simp at h; done) | exact⟨_,_,_,_,_,_,_,_,rfl⟩ | (simp at h; omega)
theorem Xt {v:List Int} (h:v.length=8) (k w:Int) : (YJ v k w).length=8:=by
 obtain⟨a,b,c,d,e,f,g,i,rfl⟩:=eight h
 rfl
theorem EX (k w:List Int) {h:List Int} (hl:h.length=8) : ∀ i,(zS k w h i).length=8
 | 0=>hl
 | i + 1=>Xt (EX k w hl i) _ _
def rO (h k:List Int) (b:Str) : List Int:=List.zipWith iG h (zS k (sched b 64) h 64)
theorem QD {h:List Int} (k:List Int) (b:Str) (hl:h.length=8) : (rO h k b).length=8:=by
 unfold rO; rw[List.length_zipWith,EX k _ hl,hl]; rfl
section
variable {M:RM} {b T:Nat} {ws:List Int}
theorem vH (h:M.heap b=some (.row (fZ.row ws) false T 0)) {i:Nat} (hi:i<ws.length) {K:AV→Prop} : ah M (.ptr b i) K=K (N .u32 (ws.getD i 0)):=by
 refine ay h ?_
 rw[qI,List.getElem?_map,List.getElem?_eq_getElem hi]
 simp[List.getD,hi]
theorem Cb (h:M.heap b=some (.row (fZ.row ws) false T 0)) {i:Nat} (hi:i<ws.length) (x:Int) {K:RM→Prop} : aC M (.ptr b i) (N .u32 x) 1 K=K (M.put b (.row (fZ.row (ws.set i x)) false T 0)):=by
 refine bR _ h (by rw[jJ]; exact hi) rfl rfl ?_
 rw[qI,qI,List.map_set]
theorem jr {k:IntKind} {j:Int} {i len:Nat} (hj:j=(i:Int)) (hi:i<len) {K:AV→Prop} : dX (.ptr b 0) (N k j) len 1 K=K (.ptr b i):=by
 subst hj
 rw[Vo]
 simp only[Int.toNat_natCast,Nat.mul_one,Nat.zero_add]
 exact propext ⟨fun h=>h.2.2,fun h=>⟨by omega,by omega,h⟩⟩
end
theorem set_mid {l:List Int} {n:Nat} {x z:Int} (hn:0<n) : (l++List.replicate n z).set l.length x=(l++[x])++List.replicate (n - 1) z:=by
 obtain⟨m,rfl⟩ : ∃ m,n=m + 1:=⟨n - 1,by omega⟩
 rw[List.replicate_succ,List.set_append_right _ _ (Nat.le_refl _),Nat.sub_self]
 simp
theorem RX {l r:List Int} {i:Nat} (h:i<l.length) : (l++r).getD i 0=l.getD i 0:=by simp[List.getD,List.getElem?_append_left h]
theorem I9 (b:Str) {i:Nat} (hi:i<64) : (sched b i++List.replicate (64 - i) 0).set i (if i<16 then VG b i else QP (sched b i) i)=sched b (i + 1)++List.replicate (64 - (i + 1)) 0:=by
 have:=set_mid (l:=sched b i) (n:=64 - i) (x:=if i<16 then VG b i else QP (sched b i) i) (z:=0) (by omega)
 rw[oL] at this
 rw[this,sched]
 congr 2
def turns:List Int:=[2,6,7,11,13,17,18,19,22,25]
def Pz (kd:IntKind) (c:ak) : Prop:=∀ {M:RM} {x n:Int} {Q:aj},n∈turns→Q (N .u32 (oH x n)) M→c [N .u32 x,N kd n] M Q
def U2 (c:ak) : Prop:=∀ {M:RM} {x n:Int} {Q:aj},n∈turns→Q (N .u32 (oH x n)) M→c [N .u32 x,N .i64 (IntKind.i64.wrap (0 - n))] M Q
theorem Tm:∀ n∈turns,zH .u64 (IntKind.u64.wrap (IntKind.i64.wrap (0 - n))) 31=32 - n:=by decide +kernel
theorem SC:∀ n∈turns,IntKind.u64.wrap (32 - (32 - n))=n∧IntKind.u64.wrap (32 - n)=32 - n∧0≤n∧0≤32 - n:=by decide +kernel
theorem Vb (k:IntKind) (a b:Int) : FW k a b=FW k b a:=by unfold FW; rw[BitVec.or_comm]
theorem UN:U2 fun args M Q=>∃ a0 a1,args=[a0,a1]∧jD a0 a1 M Q:=by
 intro M x n Q hn hQ
 refine⟨_,_,rfl, ?_⟩
 unfold jD
 obtain⟨h1,h2,h3,h4⟩:=SC n hn
 rw[rE,lM,Tm n hn,Dr]
 refine⟨h4, ?_⟩
 rw[mY,h1,ui]
 refine⟨h3, ?_⟩
 rw[jI,Vb]
 exact hQ
theorem Ru {c:ak} (hc:U2 c) : Pz .i64 fun args M Q=>∃ a0 a1,args=[a0,a1]∧Ao c a0 a1 M Q:=by
 intro M x n Q hn hQ
 refine⟨_,_,rfl, ?_⟩
 unfold Ao
 rw[YD]
 exact hc hn hQ
end Go.Ab.Sha
namespace Go.Ab.Sha
open Go Go.Ab Go.Ab.Sm
theorem Rh {i:Nat} (hi:i<1000) {K:AV→Prop} : af .mul (N .i64 4) (N .i64 (i:Int)) K=K (N .i64 ((4 * i:Nat) : Int)):=by
 rw[uJ,fD (by omega) (by omega)]; rfl
theorem qh {i:Nat} (j:Nat) (hi:i<1000000000) (hj:j<1000) {K:AV→Prop} {n:Int} (hn:n=(j:Int)) : af .add (N .i64 (i:Int)) (N .i64 n) K=K (N .i64 ((i + j:Nat) : Int)):=by
 subst hn; exact addN (by omega)
theorem PE {i:Nat} (j:Nat) (hi:i<1000000000) (hj:j≤i) {K:AV→Prop} {n:Int} (hn:n=(j:Int)) : af .sub (N .i64 (i:Int)) (N .i64 n) K=K (N .i64 ((i - j:Nat) : Int)):=by
 subst hn; exact PU hj (by omega)
theorem Fu {i:Nat} (j:Nat) {K:AV→Prop} {n:Int} (hn:n=(j:Int)) : af .lss (N .i64 (i:Int)) (N .i64 n) K=K (Bo (decide (i<j))):=by
 subst hn; exact kJ
theorem Bs.Kr {M:RM} {v:AV} {b:Str} (h:Bs M v b) {i:Nat} (hi:i<b.length) {K:AV→Prop} : (aW v (N .i64 (i:Int)) 1 fun t=>ah M t K)=K (By (b.getD i 0)):=by
 rw[h.read hi]; simp[List.getD,hi]
theorem Uy {h v:List Int} {j:Nat} (hj:j<8) (hh:h.length=8) (hv:v.length=8) :
  ((List.zipWith iG h v).take j++h.drop j).set j (iG (h.getD j 0) (v.getD j 0))=(List.zipWith iG h v).take (j + 1)++h.drop (j + 1):=by
 have hz:(List.zipWith iG h v).length=8:=by rw[List.length_zipWith,hh,hv]; rfl
 have h1:((List.zipWith iG h v).take j).length=j:=by rw[List.length_take]; omega
 have h2:h.drop j=h[j] :: h.drop (j + 1):=List.drop_eq_getElem_cons (by omega)
 rw[h2,List.set_append_right _ _ (by omega),h1,Nat.sub_self,List.set_cons_zero,List.take_succ_eq_append_getElem (by omega),List.append_assoc]
 congr 1
 rw[List.getElem_zipWith]
 simp[List.getD,show j<h.length by omega,show j<v.length by omega]
theorem WR {h v:List Int} {j:Nat} (hj:j<8) (hh:h.length=8) (hv:v.length=8) : ((List.zipWith iG h v).take j++h.drop j).getD j 0=h.getD j 0:=by
 have hz:(List.zipWith iG h v).length=8:=by rw[List.length_zipWith,hh,hv]; rfl
 have h1:((List.zipWith iG h v).take j).length=j:=by rw[List.length_take]; omega
 simp[List.getD,List.getElem?_append_right (show((List.zipWith iG h v).take j).length≤j by omega),h1]
theorem WW {h v:List Int} {j:Nat} (hj:j≤8) (hh:h.length=8) (hv:v.length=8) : ((List.zipWith iG h v).take j++h.drop j).length=8:=by
 rw[List.length_append,List.length_take,List.length_drop,List.length_zipWith,hh,hv]; omega
theorem nz {cs:List AV} {rest:List (Nat × Nat × AV)} {off:Nat} {k:IntKind} {n:Int} (h:off<cs.length) : mH cs ((off,1,N k n) :: rest)=mH (cs.set off (N k n)) rest:=by
 rw[mH,if_pos ⟨rfl,rfl,by omega⟩,List.set_eq_take_append_cons_drop,if_pos h,List.append_assoc]
 rfl
theorem Zw {a b c d e f g h:Int} : mH [N .u32 0,N .u32 0,N .u32 0,N .u32 0,N .u32 0,N .u32 0,N .u32 0,N .u32 0] [(0,1,N .u32 a),(1,1,N .u32 b),(2,1,N .u32 c),(3,1,N .u32 d),(4,1,N .u32 e),(5,1,N .u32 f),(6,1,N .u32 g),(7,1,N .u32 h)]=some (fZ.row [a,b,c,d,e,f,g,h]):=by
 rw[nz (by decide)]
 simp only[List.set]
 rw[nz (by simp)]
 simp only[List.set]
 rw[nz (by simp)]
 simp only[List.set]
 rw[nz (by simp)]
 simp only[List.set]
 rw[nz (by simp)]
 simp only[List.set]
 rw[nz (by simp)]
 simp only[List.set]
 rw[nz (by simp)]
 simp only[List.set]
 rw[nz (by simp)]
 simp only[List.set]
 rfl
def Q3 (TK TS:Nat) (c:ak) : Prop:=∀ {M:RM} {sb kb:Nat} {bv:AV} {h k:List Int} {b:Str} {Q:aj},M.heap sb=some (.row (fZ.row h) false TS 0)→sb<M.next→h.length=8 →
 M.heap kb=some (.row (fZ.row k) false TK 0)→kb<M.next→kb≠sb→k.length=64→Bs M bv b→b.length=64 →
 (∀ M',ae [sb] M M'→M'.heap sb=some (.row (fZ.row (rO h k b)) false TS 0)→Q (.tup []) M')→c [.ptr sb 0,bv,.ptr kb 0] M Q
theorem TH {TK TS:Nat} {ct:ak} (ht:Pz .i64 ct) : Q3 TK TS fun args M Q=>∃ a0 a1 a2,args=[a0,a1,a2]∧oJ TK ct TS a0 a1 a2 M Q:=by
 intro M sb kb bv h k b Q hs hsl hhl hk hkl hks hkn hb hbl hQ
 refine⟨_,_,_,rfl, ?_⟩
 unfold oJ
 rw[aG]
 have k0:ae [] M (M.push (.row (fZ.row (List.replicate 64 0)) false TK 0)):=(ae.refl _ _).push _
 have n0:(M.push (.row (fZ.row (List.replicate 64 0)) false TK 0)).heap M.next=some (.row (fZ.row (sched b 0++List.replicate (64 - 0) 0)) false TK 0):=by simp[RM.push,sched]
 have l0:M.next<(M.push (.row (fZ.row (List.replicate 64 0)) false TK 0)).next:=by simp[RM.push]
 show bz _ _ (M.push (.row (fZ.row (List.replicate 64 0)) false TK 0))
 generalize M.push (.row (fZ.row (List.replicate 64 0)) false TK 0)=M0 at *
 refine aP (fun m ys M3=>∃ i:Nat,m=16 - i∧ys=[N .i64 (i:Int)]∧i≤16∧ae [] M M3∧M.next<M3.next∧M3.heap M.next=some (.row (fZ.row (sched b i++List.replicate (64 - i) 0)) false TK 0)) _
  ⟨0,rfl,rfl,by omega,k0,l0,n0⟩ ?_
 rintro next m ys M3 hnext ⟨i,rfl,rfl,hi,k3,l3,n3⟩
 simp only[jl]
 rw[Fu 16 (by rfl)]
 have hb3:=hb.keep k3 (by simp)
 refine aY (fun hc=>?_) fun hc=>?_
 ·have VE:i<16:=of_decide_eq_true hc
  rw[Rh (by omega),hb3.Kr (by omega),By,rE,Dr]
  refine⟨by decide, ?_⟩
  rw[Rh (by omega),qh 1 (by omega) (by omega) (by rfl),hb3.Kr (by omega),By,rE,Dr]
  refine⟨by decide, ?_⟩
  rw[jI,Rh (by omega),qh 2 (by omega) (by omega) (by rfl),hb3.Kr (by omega),By,rE,Dr]
  refine⟨by decide, ?_⟩
  rw[jI,Rh (by omega),qh 3 (by omega) (by omega) (by rfl),hb3.Kr (by omega),By,rE,jI,jr rfl (by omega)]
  have e:=I9 b (i:=i) (by omega)
  rw[if_pos VE] at e
  have hlen:(sched b i++List.replicate (64 - i) 0).length=64:=by rw[List.length_append,oL,List.length_replicate]; omega
  rw[Cb n3 (by omega),qh 1 (by omega) (by omega) (by rfl)]
  refine hnext _ _ _ (by omega) ⟨i + 1,rfl,rfl,by omega,k3.new _ (Nat.le_refl _),l3, ?_⟩
  rw[aA,← e]
  rfl
 have VE:i=16:=by have:=of_decide_eq_false hc; omega
 subst VE
 clear hnext
 refine aP (fun m ys M4=>∃ i:Nat,m=64 - i∧ys=[N .i64 (i:Int)]∧16≤i∧i≤64∧ae [] M M4∧M.next<M4.next∧M4.heap M.next=some (.row (fZ.row (sched b i++List.replicate (64 - i) 0)) false TK 0)) _
  ⟨16,rfl,rfl,by omega,by omega,k3,l3,n3⟩ ?_
 rintro next m ys M4 hnext ⟨i,rfl,rfl,hi0,hi,k4,l4,n4⟩
 simp only[jl]
 rw[Fu 64 (by rfl)]
 refine aY (fun hc=>?_) fun hc=>?_
 ·have EB:i<64:=of_decide_eq_true hc
  have hlen:(sched b i++List.replicate (64 - i) 0).length=64:=by rw[List.length_append,oL,List.length_replicate]; omega
  have ld:∀ (j:Nat),j<i→∀ {K:AV→Prop},ah M4 (.ptr M.next j) K=K (N .u32 ((sched b i).getD j 0)):=fun j hj K=>by
   rw[vH n4 (by omega),RX (by rw[oL]; exact hj)]
  have L15:∀ {K:AV→Prop},ah M4 (.ptr M.next (i - 15)) K=K (N .u32 ((sched b i).getD (i - 15) 0)):=ld _ (by omega)
  have L2:∀ {K:AV→Prop},ah M4 (.ptr M.next (i - 2)) K=K (N .u32 ((sched b i).getD (i - 2) 0)):=ld _ (by omega)
  have L16:∀ {K:AV→Prop},ah M4 (.ptr M.next (i - 16)) K=K (N .u32 ((sched b i).getD (i - 16) 0)):=ld _ (by omega)
  have L7:∀ {K:AV→Prop},ah M4 (.ptr M.next (i - 7)) K=K (N .u32 ((sched b i).getD (i - 7) 0)):=ld _ (by omega)
  rw[PE 15 (by omega) (by omega) (by rfl),jr rfl (by omega),L15,PE 2 (by omega) (by omega) (by rfl),jr rfl (by omega),L2,PE 16 (by omega) (by omega) (by rfl),jr rfl (by omega),L16,ui]
  refine⟨by decide, ?_⟩
  rw[PE 7 (by omega) (by omega) (by rfl),jr rfl (by omega),L7,ui]
  refine⟨by decide, ?_⟩
  refine ht (by decide) ?_
  rw[L16]; refine⟨rfl, ?_⟩
  rw[L7]; refine⟨rfl, ?_⟩
  refine ht (by decide) ?_
  rw[L16]; refine⟨rfl, ?_⟩
  rw[L7]; refine⟨rfl, ?_⟩
  rw[jv,jv,eH,eH]
  refine ht (by decide) ?_
  rw[L16]; refine⟨rfl, ?_⟩
  rw[L7]; refine⟨rfl, ?_⟩
  refine ht (by decide) ?_
  rw[L16]; refine⟨rfl, ?_⟩
  rw[L7]; refine⟨rfl, ?_⟩
  rw[jv,jv,eH,jr rfl (by omega)]
  have e:=I9 b (i:=i) (by omega)
  rw[if_neg (by omega)] at e
  rw[Cb n4 (by omega),qh 1 (by omega) (by omega) (by rfl)]
  refine hnext _ _ _ (by omega) ⟨i + 1,rfl,rfl,by omega,by omega,k4.new _ (Nat.le_refl _),l4, ?_⟩
  rw[aA,← e]
  rfl
 have EB:i=64:=by have:=of_decide_eq_false hc; omega
 subst EB
 clear hnext
 rw[Nat.sub_self,List.replicate_zero,List.append_nil] at n4
 have hwl:=oL b 64
 generalize hwe:sched b 64=w at *
 have hs4:=k4.ax hs hsl (by simp)
 have hk4:=k4.ax hk hkl (by simp)
 rw[kg,aO hs4 (by rw[jJ,hhl]),aG]
 have n5:(M4.push (.row [N .u32 0,N .u32 0,N .u32 0,N .u32 0,N .u32 0,N .u32 0,N .u32 0,N .u32 0] false TS 0)).heap M4.next=some (.row [N .u32 0,N .u32 0,N .u32 0,N .u32 0,N .u32 0,N .u32 0,N .u32 0,N .u32 0] false TS 0):=by simp[RM.push]
 rw[BJ n5 (by rw[jJ,hhl]) (by rfl) (fZ.kZ h)]
 have k5:ae [] M4 ((M4.push (.row [N .u32 0,N .u32 0,N .u32 0,N .u32 0,N .u32 0,N .u32 0,N .u32 0,N .u32 0] false TS 0)).put M4.next (.row (fZ.row h) false TS 0)):=((ae.refl _ _).push _).new _ (Nat.le_refl _)
 have n5' : ((M4.push (.row [N .u32 0,N .u32 0,N .u32 0,N .u32 0,N .u32 0,N .u32 0,N .u32 0,N .u32 0] false TS 0)).put M4.next (.row (fZ.row h) false TS 0)).heap M4.next=some (.row (fZ.row (zS k w h 0)) false TS 0):=aA _
 have l5:M4.next<((M4.push (.row [N .u32 0,N .u32 0,N .u32 0,N .u32 0,N .u32 0,N .u32 0,N .u32 0,N .u32 0] false TS 0)).put M4.next (.row (fZ.row h) false TS 0)).next:=by simp[RM.push,RM.put]
 generalize (M4.push (.row [N .u32 0,N .u32 0,N .u32 0,N .u32 0,N .u32 0,N .u32 0,N .u32 0,N .u32 0] false TS 0)).put M4.next (.row (fZ.row h) false TS 0)=M5 at *
 refine aP (fun m ys M6=>∃ i:Nat,m=64 - i∧ys=[N .i64 (i:Int)]∧i≤64∧ae [] M4 M6∧M4.next<M6.next∧M6.heap M4.next=some (.row (fZ.row (zS k w h i)) false TS 0)) _
  ⟨0,rfl,rfl,by omega,k5,l5,n5'⟩ ?_
 rintro next m ys M6 hnext ⟨i,rfl,rfl,hi,k6,l6,n6⟩
 simp only[jl]
 rw[Fu 64 (by rfl)]
 have hs6:=k6.ax hs4 (Nat.lt_of_lt_of_le hsl k4.next) (by simp)
 have hk6:=k6.ax hk4 (Nat.lt_of_lt_of_le hkl k4.next) (by simp)
 have n46:=k6.ax n4 l4 (by simp)
 have hrl:=EX k w hhl i
 refine aY (fun hc=>?_) fun hc=>?_
 ·have EB:i<64:=of_decide_eq_true hc
  have hstep:zS k w h (i + 1)=YJ (zS k w h i) (k.getD i 0) (w.getD i 0):=rfl
  obtain⟨va,vb,vc,vd,ve,vf,vg,vh,hv⟩:=eight hrl
  rw[hv] at n6 hstep
  have hrow:fZ.row [va,vb,vc,vd,ve,vf,vg,vh]=[N .u32 va,N .u32 vb,N .u32 vc,N .u32 vd,N .u32 ve,N .u32 vf,N .u32 vg,N .u32 vh]:=rfl
  rw[hrow] at n6
  have I:∀ (j:Nat),j<8→∀ {K:AV→Prop},dX (.ptr M4.next 0) (N .i64 (j:Int)) 8 1 K=K (.ptr M4.next j):=fun j hj K=>jr rfl hj
  have I0:∀ {K:AV→Prop},dX (.ptr M4.next 0) (N .i64 0) 8 1 K=K (.ptr M4.next 0):=I 0 (by omega)
  have I1:∀ {K:AV→Prop},dX (.ptr M4.next 0) (N .i64 1) 8 1 K=K (.ptr M4.next 1):=I 1 (by omega)
  have I2:∀ {K:AV→Prop},dX (.ptr M4.next 0) (N .i64 2) 8 1 K=K (.ptr M4.next 2):=I 2 (by omega)
  have I3:∀ {K:AV→Prop},dX (.ptr M4.next 0) (N .i64 3) 8 1 K=K (.ptr M4.next 3):=I 3 (by omega)
  have I4:∀ {K:AV→Prop},dX (.ptr M4.next 0) (N .i64 4) 8 1 K=K (.ptr M4.next 4):=I 4 (by omega)
  have I5:∀ {K:AV→Prop},dX (.ptr M4.next 0) (N .i64 5) 8 1 K=K (.ptr M4.next 5):=I 5 (by omega)
  have I6:∀ {K:AV→Prop},dX (.ptr M4.next 0) (N .i64 6) 8 1 K=K (.ptr M4.next 6):=I 6 (by omega)
  have I7:∀ {K:AV→Prop},dX (.ptr M4.next 0) (N .i64 7) 8 1 K=K (.ptr M4.next 7):=I 7 (by omega)
  have L0:∀ {K:AV→Prop},ah M6 (.ptr M4.next 0) K=K (N .u32 va):=ay n6 rfl
  have L1:∀ {K:AV→Prop},ah M6 (.ptr M4.next 1) K=K (N .u32 vb):=ay n6 rfl
  have L2:∀ {K:AV→Prop},ah M6 (.ptr M4.next 2) K=K (N .u32 vc):=ay n6 rfl
  have L3:∀ {K:AV→Prop},ah M6 (.ptr M4.next 3) K=K (N .u32 vd):=ay n6 rfl
  have L4:∀ {K:AV→Prop},ah M6 (.ptr M4.next 4) K=K (N .u32 ve):=ay n6 rfl
  have L5:∀ {K:AV→Prop},ah M6 (.ptr M4.next 5) K=K (N .u32 vf):=ay n6 rfl
  have L6:∀ {K:AV→Prop},ah M6 (.ptr M4.next 6) K=K (N .u32 vg):=ay n6 rfl
  have L7:∀ {K:AV→Prop},ah M6 (.ptr M4.next 7) K=K (N .u32 vh):=ay n6 rfl
  have Ik:∀ {K:AV→Prop},dX (.ptr kb 0) (N .i64 (i:Int)) 64 1 K=K (.ptr kb i):=jr rfl EB
  have Iw:∀ {K:AV→Prop},dX (.ptr M.next 0) (N .i64 (i:Int)) 64 1 K=K (.ptr M.next i):=jr rfl EB
  have Lk:∀ {K:AV→Prop},ah M6 (.ptr kb i) K=K (N .u32 (k.getD i 0)):=vH hk6 (by omega)
  have Lw:∀ {K:AV→Prop},ah M6 (.ptr M.next i) K=K (N .u32 (w.getD i 0)):=vH n46 (by omega)
  simp only[I0,I1,I2,I3,I4,I5,I6,I7,L0,L1,L2,L3,L4,L5,L6,L7,kg,Ik,Iw,Lk,Lw,lM,jI,jv,eH,oF,true_and]
  refine ht (by decide) ?_
  simp only[I0,I1,I2,I3,I4,I5,I6,I7,L0,L1,L2,L3,L4,L5,L6,L7,kg,Ik,Iw,Lk,Lw,lM,jI,jv,eH,oF,true_and]
  refine ht (by decide) ?_
  simp only[I0,I1,I2,I3,I4,I5,I6,I7,L0,L1,L2,L3,L4,L5,L6,L7,kg,Ik,Iw,Lk,Lw,lM,jI,jv,eH,oF,true_and]
  refine ht (by decide) ?_
  simp only[I0,I1,I2,I3,I4,I5,I6,I7,L0,L1,L2,L3,L4,L5,L6,L7,kg,Ik,Iw,Lk,Lw,lM,jI,jv,eH,oF,true_and]
  refine ht (by decide) ?_
  simp only[I0,I1,I2,I3,I4,I5,I6,I7,L0,L1,L2,L3,L4,L5,L6,L7,kg,Ik,Iw,Lk,Lw,lM,jI,jv,eH,oF,true_and]
  refine ht (by decide) ?_
  simp only[I0,I1,I2,I3,I4,I5,I6,I7,L0,L1,L2,L3,L4,L5,L6,L7,kg,Ik,Iw,Lk,Lw,lM,jI,jv,eH,oF,true_and]
  refine ht (by decide) ?_
  simp only[I0,I1,I2,I3,I4,I5,I6,I7,L0,L1,L2,L3,L4,L5,L6,L7,kg,Ik,Iw,Lk,Lw,lM,jI,jv,eH,oF,true_and]
  rw[jk]
  refine⟨_,Zw, ?_⟩
  rw[BJ n6 (by rw[jJ]; rfl) (by rfl) (fZ.kZ _),show(IntKind.i64.wrap ((i:Int) + 1))=((i + 1:Nat) : Int) from kI (by omega)]
  refine hnext _ _ _ (by omega) ⟨i + 1,rfl,rfl,by omega,k6.new _ (Nat.le_refl _),l6, ?_⟩
  rw[aA,hstep]
  rfl
 have EB:i=64:=by have:=of_decide_eq_false hc; omega
 subst EB
 clear hnext
 have hbf:rO h k b=List.zipWith iG h (zS k w h 64):=by
  unfold rO
  rw[hwe]
 rw[hbf] at hQ
 generalize zS k w h 64=v at *
 rw[aO n6 (by rw[jJ,hrl])]
 have k46:=k4.trans k6
 refine aP (fun m ys M7=>∃ j:Nat,m=8 - j∧ys=[N .i64 (j:Int)]∧j≤8∧ae [sb] M M7∧M7.heap sb=some (.row (fZ.row ((List.zipWith iG h v).take j++h.drop j)) false TS 0)) _
  ⟨0,rfl,rfl,by omega,k46.mono (by simp),by rw[List.take_zero,List.drop_zero]; exact hs6⟩ ?_
 rintro next m ys M7 hnext ⟨j,rfl,rfl,hj,k7,s7⟩
 simp only[jl]
 rw[Fu 8 (by rfl)]
 refine aY (fun hc=>?_) fun hc=>?_
 ·have hj8:j<8:=of_decide_eq_true hc
  rw[Ji]
  refine⟨by omega,by omega,N .u32 (v.getD j 0), ?_, ?_⟩
  ·rw[Int.toNat_natCast,qI,List.getElem?_map,List.getElem?_eq_getElem (by omega)]
   simp[List.getD,show j<v.length by omega]
  have hl7:=WW (v:=v) (Nat.le_of_lt hj8) hhl hrl
  rw[kg,jr rfl hj8,vH s7 (by omega),eH,kg,jr rfl hj8,Cb s7 (by omega),qh 1 (by omega) (by omega) (by rfl)]
  refine hnext _ _ _ (by omega) ⟨j + 1,rfl,rfl,by omega,k7.put _ (.inr (by simp)), ?_⟩
  rw[aA,WR hj8 hhl hrl,← Uy hj8 hhl hrl]
  rfl
 ·have hj8:j=8:=by have:=of_decide_eq_false hc; omega
  subst hj8
  refine hQ M7 k7 ?_
  rw[s7,List.drop_of_length_le (by omega),List.append_nil,List.take_of_length_le (by rw[List.length_zipWith]; omega)]
end Go.Ab.Sha
set_option maxRecDepth 100000
namespace Go.Ab.Dot
open Go Go.Ab
def uL (p1:Nat) (a0:AV) (M0:RM) (Q:aj) : Prop:=iD false 2 a0 (.sc (.slice none 0 0)) fun h=>au h ( Q (.sc (.slice none 0 0)) M0) ( eY p1 0 [(N .u8 0)] [] fun g e=>bf g e M0 fun i c=>appW p1 1 1 [(N .u8 0)] false i a0 c fun j d=>Q j d)
end Go.Ab.Dot
set_option maxRecDepth 10000
namespace Go.Ab.Sha
open Go Go.Ab Go.Ab.Sm
def kW:List Int:=[1116352408,1899447441,3049323471,3921009573,961987163,1508970993,2453635748,2870763221,3624381080,310598401,607225278,1426881987,1925078388,2162078206,2614888103,3248222580,3835390401,4022224774,264347078,604807628,770255983,1249150122,1555081692,1996064986,2554220882,2821834349,2952996808,3210313671,3336571891,3584528711,113926993,338241895,666307205,773529912,1294757372,1396182291,1695183700,1986661051,2177026350,2456956037,2730485921,2820302411,3259730800,3345764771,3516065817,3600352804,4094571909,275423344,430227734,506948616,659060556,883997877,958139571,1322822218,1537002063,1747873779,1955562222,2024104815,2227730452,2361852424,2428436474,2756734187,3204031479,3329325298]
def hW:List Int:=[1779033703,3144134277,1013904242,2773480762,1359893119,2600822924,528734635,1541459225]
theorem G7:kW.length=64:=by decide
theorem LJ:hW.length=8:=by decide
def dU (k:List Int) : Nat→List Int→Str→List Int
 | 0,h,_=>h
 | n + 1,h,m=>dU k n (rO h k (m.take 64)) (m.drop 64)
theorem qX {k:List Int} : ∀ {n:Nat} {h:List Int} {m:Str},h.length=8→(dU k n h m).length=8
 | 0,h,m,hl=>hl
 | n + 1,h,m,hl=>qX (n:=n) (h:=rO h k (m.take 64)) (m:=m.drop 64) (QD k _ hl)
theorem xQ {k:List Int} : ∀ {a n:Nat} {h:List Int} {m:Str},dU k (a + n) h m=dU k n (dU k a h m) (m.drop (64 * a))
 | 0,n,h,m=>by rw[Nat.zero_add]; rfl
 | a + 1,n,h,m=>by
   rw[Nat.add_right_comm,dU,dU,xQ (a:=a),List.drop_drop,show 64 + 64 * a=64 * (a + 1) by omega]
theorem Cs {k:List Int} {n:Nat} {h:List Int} {m:Str} : dU k (n + 1) h m=rO (dU k n h m) k ((m.drop (64 * n)).take 64):=by rw[xQ]; rfl
theorem Et {k:List Int} : ∀ {n:Nat} {h:List Int} {m p:Str},64 * n≤m.length→dU k n h (m++p)=dU k n h m
 | 0,h,m,p,_=>rfl
 | n + 1,h,m,p,hl=>by
   rw[dU,dU,List.take_append_of_le_length (by omega),List.drop_append_of_le_length (by omega),Et (by rw[List.length_drop]; omega)]
def JH (n:Int) : UInt8:=UInt8.ofNat (n % 256).toNat
theorem Ym (n:Int) : IntKind.u8.wrap n=n % 256:=by
 simp only[IntKind.wrap,IntKind.bits,IntKind.signed,IntKind.max,IntKind.min]
 simp
theorem Pv (n:Int) : N .u8 (IntKind.u8.wrap n)=By (JH n):=by
 have:((JH n).toNat:Int)=n % 256:=by
  unfold JH
  rw[UInt8.toNat_ofNat']
  have h1:0≤n % 256:=Int.emod_nonneg _ (by decide)
  have h2:n % 256<256:=Int.emod_lt_of_pos _ (by decide)
  rw[Nat.mod_eq_of_lt (by omega)]
  omega
 rw[By,this,Ym]
def zp (L:Nat) : Nat:=(119 - L % 64) % 64
def rZ (L:Nat) : Str:=(List.range 8).map fun i=>JH (uM .u64 ((8 * L:Nat) : Int) ((56 - 8 * i:Nat) : Int))
def EN (L:Nat) : Str:=128 :: (List.replicate (zp L) 0++rZ L)
def nP (h:List Int) : Str:=(List.range 32).map fun i=>JH (uM .u32 (h.getD (i / 4) 0) ((24 - 8 * (i % 4) : Nat) : Int))
theorem Nt (h:List Int) : (nP h).length=32:=by simp[nP]
def G9 (b:Str) : Str:=nP (dU kW ((b.length + 9 + zp b.length) / 64) hW (b++EN b.length))
theorem MW (b:Str) : (G9 b).length=32:=Nt _
theorem RU (b:Str) : dU kW ((b.length + 9 + zp b.length) / 64) hW (b++EN b.length) =
  dU kW ((b.length - b.length / 64 * 64 + 9 + zp b.length) / 64) (dU kW (b.length / 64) hW b) (b.drop (b.length / 64 * 64)++EN b.length):=by
 have e:(b.length + 9 + zp b.length) / 64=b.length / 64 + (b.length - b.length / 64 * 64 + 9 + zp b.length) / 64:=by omega
 rw[e,xQ,Et (by omega),List.drop_append_of_le_length (by omega),Nat.mul_comm 64]
def partsOf:Nat→List Int→List (Nat × Nat × AV)
 | _,[]=>[]
 | i,x :: xs=>(i,1,N .u32 x) :: partsOf (i + 1) xs
theorem Eh:∀ (xs pre:List Int),mH (fZ.row (pre++List.replicate xs.length 0)) (partsOf pre.length xs)=some (fZ.row (pre++xs))
 | [],pre=>by simp[partsOf,mH]
 | x :: xs,pre=>by
   have h:=Eh xs (pre++[x])
   rw[List.length_append,List.length_singleton] at h
   rw[partsOf,nz (by rw[jJ]; simp),show pre++x :: xs=pre++[x]++xs by simp,← h]
   congr 1
   rw[qI,qI,show(N .u32 x)=(fun n=>N .u32 n) x from rfl,← List.map_set,set_mid (by simp)]
   simp
theorem IX {T n:Nat} {xs:List Int} {M:RM} {K:AV→RM→Prop} (hn:xs.length=n) (hK:∀ M',ae [] M M'→K (.agg (fZ.row xs)) M') :
  bf (.row (fZ.row (List.replicate n 0)) false T 0) (fun b=>.ptr b 0) M fun t0 M1=>eT (fZ.row (List.replicate n 0)) (partsOf 0 xs) fun t1=>aC M1 t0 t1 n fun M2=>aK M2 t0 n fun res=>K res M2:=by
 subst hn
 rw[aG,jk]
 refine⟨_,Eh xs [], ?_⟩
 have n1:(M.push (.row (fZ.row (List.replicate xs.length 0)) false T 0)).heap M.next=some (.row (fZ.row (List.replicate xs.length 0)) false T 0):=by simp[RM.push]
 rw[List.nil_append,BJ n1 (by rw[jJ]) (by rw[jJ,List.length_replicate]) (fZ.kZ _),aO (aA _) (by rw[jJ])]
 exact hK _ (((ae.refl _ _).push _).new _ (Nat.le_refl _))
def yQ (xs:List Int) (c:ak) : Prop:=∀ {M:RM} {Q:aj},(∀ M',ae [] M M'→Q (.agg (fZ.row xs)) M')→c [] M Q
theorem Iq {T:Nat} : yQ kW fun args M Q=>args=[]∧oV T M Q:=by
 intro M Q hQ
 refine⟨rfl, ?_⟩
 unfold oV
 exact IX (xs:=kW) (n:=64) G7 hQ
theorem Qn {T:Nat} : yQ hW fun args M Q=>args=[]∧xZ T M Q:=by
 intro M Q hQ
 refine⟨rfl, ?_⟩
 unfold xZ
 exact IX (xs:=hW) (n:=8) LJ hQ
def Mt (T:Nat) (c:ak) : Prop:=∀ {M:RM} {v:AV} {s:Str} {Q:aj},Sl BY M v s→s.length≤1000000000→(∀ v' M',Ow BY M' M.next T v' s→ae [] M M'→Q v' M')→c [v] M Q
theorem Qg {T:Nat} : Mt T fun args M Q=>∃ a0,args=[a0]∧Go.Ab.Dot.uL T a0 M Q:=by
 intro M v s Q hv hl hQ
 refine⟨_,rfl, ?_⟩
 unfold Go.Ab.Dot.uL
 rcases dC.zG hv false with⟨rfl,he⟩ | ⟨hne,he⟩
 ·rw[he,show(!false)=true from rfl,dW]
  have:s=[]:=by
   unfold Sl at hv
   cases s with
   | nil=>rfl
   | cons x s=>generalize hcs:BY.row (x :: s)=cs at *; generalize hn:(x :: s).length=n at *; cases hv; cases hcs
  subst this
  exact hQ aF M .nil (ae.refl _ _)
 ·rw[he,dS,ZL]
  simp only[aG]
  have k1:ae [] M (M.push (.row [] false T 0)):=(ae.refl _ _).push _
  refine IE (E:=BY) (Ow.lit BY M) (by simp[RM.push]) (by decide) (dC.keep hv k1 (by simp)) (by simp; omega) (by simp; omega) fun v7 M7 o7 k7 _ _=>?_
  refine hQ v7 M7 (by simpa using o7) ?_
  refine ae.own k1 k7 (fun b hb=>?_)
  simp[aH] at hb; omega
theorem Vh {L i:Nat} (hi:i<8) : (rZ L).take (i + 1)=(rZ L).take i++[JH (uM .u64 ((8 * L:Nat) : Int) ((56 - 8 * i:Nat) : Int))]:=by
 have hl:i<(rZ L).length:=by simp[rZ]; exact hi
 rw[List.take_succ_eq_append_getElem hl]
 simp[rZ]
theorem Ve {d:Str} {n i:Nat} {x:UInt8} (hi:i<n) (hd:d.length=n) (hx:d[i]?=some x) : (d.take i++List.replicate (n - i) 0).set i x=d.take (i + 1)++List.replicate (n - (i + 1)) 0:=by
 have hl:(d.take i).length=i:=by rw[List.length_take]; omega
 have hx' : d[i]'(by omega)=x:=by rw[List.getElem?_eq_getElem (by omega)] at hx; exact Option.some.inj hx
 obtain⟨m,hm⟩ : ∃ m,n - i=m + 1:=⟨n - i - 1,by omega⟩
 rw[hm,List.replicate_succ,List.set_append_right _ _ (by omega),hl,Nat.sub_self,List.set_cons_zero,List.take_succ_eq_append_getElem (by omega),hx',List.append_assoc,show n - (i + 1)=m by omega]
 rfl
def VL (c:ak) : Prop:=∀ {M:RM} {v:AV} {b:Str} {Q:aj},Bs M v b→b.length≤100000000→(∀ M',ae [] M M'→Q (.agg (BY.row (G9 b))) M')→c [v] M Q
theorem Vm {T32 TK TS T8:Nat} {cc cf ct cl:ak} (hc:yQ kW cc) (hf:yQ hW cf) (ht:Q3 TK TS ct) (hcl:Mt T8 cl) : VL fun args M Q=>∃ a0,args=[a0]∧Cj T32 cc TK cf TS ct cl T8 a0 M Q:=by
 intro M v b Q hv hl hQ
 refine⟨_,rfl, ?_⟩
 unfold Cj
 rw[aG]
 have k1:ae [] M (M.push (.row (BY.row (List.replicate 32 0)) false T32 0)):=(ae.refl _ _).push _
 have n1:(M.push (.row (BY.row (List.replicate 32 0)) false T32 0)).heap M.next=some (.row (BY.row (List.replicate 32 0)) false T32 0):=by simp[RM.push]
 have l1:M.next<(M.push (.row (BY.row (List.replicate 32 0)) false T32 0)).next:=by simp[RM.push]
 show cc _ (M.push (.row (BY.row (List.replicate 32 0)) false T32 0)) _
 generalize M.push (.row (BY.row (List.replicate 32 0)) false T32 0)=M1 at *
 refine hc fun M2 k2=>?_
 have zz:∀ n,(fZ.row (List.replicate n 0)).length=n:=fun n=>by rw[jJ,List.length_replicate]
 refine Wq (K:=fun t aaA=>_) (z:=fZ.row (List.replicate 64 0)) 64 (zz 64) (by rw[jJ,G7]) (fZ.kZ _) fun M3 k3 n3 l3=>?_
 refine hf fun M4 k4=>?_
 refine Wq (K:=fun t aaA=>_) (z:=fZ.row (List.replicate 8 0)) 8 (zz 8) (by rw[jJ,LJ]) (fZ.kZ _) fun M5 k5 n5 l5=>?_
 have hk34:=k4.next
 have hk23:=k3.next
 have k35:ae [] M3 M5:=k4.trans k5
 have n35:=k35.ax n3 l3 (by simp)
 have l35:M2.next<M5.next:=Nat.lt_of_lt_of_le l3 k35.next
 have k05:ae [] M M5:=k1.trans (k2.trans (k3.trans k35))
 have k25:ae [] M2 M5:=k3.trans k35
 have n15:=(k2.trans k25).ax n1 l1 (by simp)
 have l15:M.next<M5.next:=Nat.lt_of_lt_of_le l1 (k2.trans k25).next
 have hl1:M.next<M2.next:=Nat.lt_of_lt_of_le l1 k2.next
 have hne:M2.next≠M4.next:=by omega
 have hv5:=hv.keep k05 (by simp)
 have abm:=hv.lt
 have hvn:∀ x∈aH v,x ∉ [M4.next]:=fun x hx hm=>by have:=abm x hx; simp at hm; omega
 rw[hv5.len,Ll]
 refine⟨by decide, ?_⟩
 have e1:IntKind.i64.wrap ((b.length:Int).tdiv 64)=((b.length / 64:Nat) : Int):=by
  rw[show(b.length:Int).tdiv 64=((b.length / 64:Nat) : Int) by rw[Int.natCast_ediv]; exact Int.tdiv_eq_ediv_of_nonneg (by omega)]
  exact fD (by omega) (by omega)
 rw[e1,uJ,show IntKind.i64.wrap (((b.length / 64:Nat) : Int) * 64)=((b.length / 64 * 64:Nat) : Int) by rw[fD (by omega) (by omega)]; omega]
 generalize hwe:b.length / 64=q at *
 have hq:q * 64≤b.length∧b.length<q * 64 + 64:=by omega
 refine aP (fun m ys M6=>∃ j:Nat,m=q - j∧ys=[N .i64 ((j * 64:Nat) : Int)]∧j≤q∧ae [M4.next] M5 M6∧M6.heap M4.next=some (.row (fZ.row (dU kW j hW b)) false TS 0)) _
  ⟨0,rfl,rfl,by omega,ae.refl _ _,n5⟩ ?_
 rintro next m ys M6 hnext ⟨j,rfl,rfl,hj,k6,n6⟩
 simp only[jl]
 have l6:M4.next<M6.next:=Nat.lt_of_lt_of_le l5 k6.next
 have n36:=k6.ax n35 l35 (by simp; omega)
 have l36:M2.next<M6.next:=Nat.lt_of_lt_of_le l35 k6.next
 have hv6:=hv5.keep k6 hvn
 have Vw:(dU kW j hW b).length=8:=qX LJ
 rw[kJ]
 refine aY (fun hc=>?_) fun hc=>?_
 ·have hjq:j<q:=by have:=of_decide_eq_true hc; omega
  rw[qh 64 (by omega) (by omega) (by rfl)]
  refine hv6.sub (Nw _ _ _) (Nw _ _ _) (by omega) (by omega) fun v7 h7 hs7=>?_
  rw[show j * 64 + 64 - j * 64=64 by omega] at h7
  refine ht n6 l6 Vw n36 l36 hne G7 h7 (by rw[List.length_take,List.length_drop]; omega) fun M7 k7 n7=>?_
  rw[qh 64 (by omega) (by omega) (by rfl),show j * 64 + 64=(j + 1) * 64 by omega]
  refine hnext _ _ _ (by omega) ⟨j + 1,rfl,rfl,by omega,k6.trans k7, ?_⟩
  rw[Cs,Nat.mul_comm 64]
  exact n7
 have hjq:j=q:=by have:=of_decide_eq_false hc; omega
 subst hjq
 clear hnext
 refine hv6.sub (Nw _ _ _) (aa6 _) (by omega) (Nat.le_refl _) fun v7 h7 hs7=>?_
 rw[List.take_of_length_le (by simp)] at h7
 have hdl:(b.drop (j * 64)).length=b.length - j * 64:=List.length_drop
 refine hcl h7.sl (by omega) fun v8 M8 o8 k8=>?_
 rw[jV (by rfl) (by rfl) (by rfl),aG]
 refine oP (E:=BY) (a:=(128:UInt8)) o8 k8.next (by decide) (by omega) (by omega) fun v9 M9 o9 k9 _ _=>?_
 have k69:ae [] M6 M9:=ae.own k8 k9 (fun x hx=>(Own.blk o8 x hx).1)
 have hzp:zp b.length<64:=Nat.mod_lt _ (by decide)
 have hz:(b.length - j * 64 + 1 + zp b.length) % 64=56:=by unfold zp; omega
 refine aP (fun m ys M10=>∃ (i:Nat) (rv:AV),m=zp b.length - i∧ys=[rv]∧i≤zp b.length∧ae [] M6 M10∧Ow BY M10 M6.next T8 rv (b.drop (j * 64)++128 :: List.replicate i 0)) _
  ⟨0,v9,rfl,rfl,by omega,k69,o9⟩ ?_
 rintro next m ys M10 hnext ⟨i,rv,rfl,rfl,hi,k10,o10⟩
 simp only[jl]
 have hrl:(b.drop (j * 64)++128 :: List.replicate i 0).length=b.length - j * 64 + 1 + i:=by simp; omega
 rw[dC.len (Own.vR o10),hrl,Mi]
 refine⟨by decide, ?_⟩
 rw[show(((b.length - j * 64 + 1 + i:Nat) : Int)).tmod 64=(((b.length - j * 64 + 1 + i) % 64:Nat) : Int) by rw[Int.natCast_emod]; exact Int.tmod_eq_emod_of_nonneg (by omega),dh]
 refine aY (fun hc=>?_) fun hc=>?_
 ·have hne:(b.length - j * 64 + 1 + i) % 64≠56:=fun e=>by rw[e] at hc; cases hc
  have hlt:i<zp b.length:=by
   rcases Nat.lt_or_ge i (zp b.length) with h | h
   ·exact h
   ·have:i=zp b.length:=by omega
    subst this; exact absurd hz hne
  rw[jV (by rfl) (by rfl) (by rfl),aG]
  refine oP (E:=BY) (a:=(0:UInt8)) o10 k10.next (by decide) (by omega) (by omega) fun v11 M11 o11 k11 _ _=>?_
  refine hnext _ _ _ (by omega) ⟨i + 1,v11,rfl,rfl,by omega,ae.own k10 k11 (fun x hx=>(Own.blk o10 x hx).1), ?_⟩
  have e:b.drop (j * 64)++128 :: List.replicate (i + 1) 0=b.drop (j * 64)++128 :: List.replicate i 0++[0]:=by rw[List.replicate_succ']; simp
  rw[e]; exact o11
 have hi56:(b.length - j * 64 + 1 + i) % 64=56:=by
  have:((((b.length - j * 64 + 1 + i) % 64:Nat) : Int) != 56)=false:=hc
  have:=bne_eq_false_iff_eq.1 this
  omega
 have hiz:i=zp b.length:=by omega
 subst hiz
 clear hnext
 generalize hpre:b.drop (j * 64)++128 :: List.replicate (zp b.length) 0=P at *
 refine aP (fun m ys M11=>∃ (i:Nat) (rv:AV),m=8 - i∧ys=[rv,N .i64 (i:Int)]∧i≤8∧ae [] M6 M11∧Ow BY M11 M6.next T8 rv (P++(rZ b.length).take i)) _
  ⟨0,rv,rfl,rfl,by omega,k10,by rw[List.take_zero,List.append_nil]; exact o10⟩ ?_
 rintro next m ys M11 hnext ⟨i,rv2,rfl,rfl,hi,k11,o11⟩
 simp only[jl,Jp]
 have abg:=hv6.keep k11 (by simp)
 have hll:((rZ b.length).take i).length=i:=by rw[List.length_take]; simp[rZ]; omega
 have hpl:(P++(rZ b.length).take i).length=b.length - j * 64 + 1 + zp b.length + i:=by rw[List.length_append,hrl,hll]
 rw[Fu 8 (by rfl)]
 refine aY (fun hc=>?_) fun hc=>?_
 ·have hi8:i<8:=of_decide_eq_true hc
  rw[abg.len,rE,Eo (by omega) (by omega),uJ,Eo (by omega) (by omega),uJ,fD (by omega) (by omega),mY,fD (by omega) (by omega),ui]
  refine⟨by omega, ?_⟩
  rw[rE,show((b.length:Int) * 8)=((8 * b.length:Nat) : Int) by omega,show(56 - 8 * (i:Int))=((56 - 8 * i:Nat) : Int) by omega,Pv,jV (by rfl) (by rfl) (by rfl),aG]
  refine oP (E:=BY) (a:=JH (uM .u64 ((8 * b.length:Nat) : Int) ((56 - 8 * i:Nat) : Int))) o11 k11.next (by decide) (by omega) (by omega) fun v12 M12 o12 k12 _ _=>?_
  rw[qh 1 (by omega) (by omega) (by rfl)]
  refine hnext _ _ _ (by omega) ⟨i + 1,v12,rfl,rfl,by omega,ae.own k11 k12 (fun x hx=>(Own.blk o11 x hx).1), ?_⟩
  rw[Vh hi8,← List.append_assoc]
  exact o12
 have hi8:i=8:=by have:=of_decide_eq_false hc; omega
 subst hi8
 clear hnext
 rw[List.take_of_length_le (by simp[rZ])] at o11 hpl
 have hfull:P++rZ b.length=b.drop (j * 64)++EN b.length:=by rw[← hpre]; simp[EN]
 rw[hfull] at o11 hpl
 have hrest:(b.drop (j * 64)++EN b.length).length=b.length - j * 64 + 9 + zp b.length:=by rw[hpl]; omega
 generalize hRe:b.drop (j * 64)++EN b.length=R at *
 have hmod:(b.length - j * 64 + 9 + zp b.length) % 64=0:=by omega
 obtain⟨n,hn⟩ : ∃ n,b.length - j * 64 + 9 + zp b.length=64 * n:=⟨(b.length - j * 64 + 9 + zp b.length) / 64,by omega⟩
 rw[hn] at hrest
 have aam:=Bs.own o11
 have n11:=k11.ax n6 l6 (by simp)
 have n311:=k11.ax n36 l36 (by simp)
 have l11:M4.next<M11.next:=Nat.lt_of_lt_of_le l6 k11.next
 have Yz:M2.next<M11.next:=Nat.lt_of_lt_of_le l36 k11.next
 generalize hH:dU kW j hW b=H at *
 have hrn:∀ x∈aH rv2,x ∉ [M4.next]:=fun x hx hm=>by
  have:=(Own.blk o11 x hx).1
  simp at hm; omega
 refine aP (fun m ys M12=>∃ i:Nat,m=n - i∧ys=[N .i64 ((i * 64:Nat) : Int)]∧i≤n∧ae [M4.next] M11 M12∧M12.heap M4.next=some (.row (fZ.row (dU kW i H R)) false TS 0)) _
  ⟨0,rfl,rfl,by omega,ae.refl _ _,n11⟩ ?_
 rintro next m ys M12 hnext ⟨i,rfl,rfl,hi,k12,n12⟩
 simp only[jl]
 have l12:M4.next<M12.next:=Nat.lt_of_lt_of_le l11 k12.next
 have n312:=k12.ax n311 Yz (by simp; omega)
 have aa8:M2.next<M12.next:=Nat.lt_of_lt_of_le Yz k12.next
 have Yk:=aam.keep k12 hrn
 rw[Yk.len,kJ]
 refine aY (fun hc=>?_) fun hc=>?_
 ·have hin:i<n:=by have:=of_decide_eq_true hc; omega
  rw[qh 64 (by omega) (by omega) (by rfl)]
  refine Yk.sub (Nw _ _ _) (Nw _ _ _) (by omega) (by omega) fun v13 h13 hs13=>?_
  rw[show i * 64 + 64 - i * 64=64 by omega] at h13
  refine ht n12 l12 (qX Vw) n312 aa8 hne G7 h13 (by rw[List.length_take,List.length_drop]; omega) fun M13 k13 n13=>?_
  rw[qh 64 (by omega) (by omega) (by rfl),show i * 64 + 64=(i + 1) * 64 by omega]
  refine hnext _ _ _ (by omega) ⟨i + 1,rfl,rfl,by omega,k12.trans k13, ?_⟩
  rw[Cs,Nat.mul_comm 64]
  exact n13
 have hin:i=n:=by have:=of_decide_eq_false hc; omega
 subst hin
 clear hnext
 have abt:G9 b=nP (dU kW i H R):=by
  unfold G9
  rw[RU,hwe,hRe,hH,hn,Nat.mul_div_cancel_left _ (by decide)]
 have hF:(dU kW i H R).length=8:=qX Vw
 generalize dU kW i H R=F at *
 have hdF:=Nt F
 rw[aG]
 have Vj:ae [M4.next] M5 M12:=k6.trans ((k11.mono (by simp)).trans k12)
 have n112:=Vj.ax n15 l15 (by simp; omega)
 have abl:M.next<M12.next:=Nat.lt_of_lt_of_le l15 Vj.next
 have k14:ae [] M12 (M12.push (.row (BY.row (List.replicate 32 0)) false T32 0)):=(ae.refl _ _).push _
 have n14:(M12.push (.row (BY.row (List.replicate 32 0)) false T32 0)).heap M12.next=some (.row (BY.row ((nP F).take 0++List.replicate (32 - 0) 0)) false T32 0):=by simp[RM.push]
 have l14:M12.next<(M12.push (.row (BY.row (List.replicate 32 0)) false T32 0)).next:=by simp[RM.push]
 show bz _ _ (M12.push (.row (BY.row (List.replicate 32 0)) false T32 0))
 generalize M12.push (.row (BY.row (List.replicate 32 0)) false T32 0)=M14 at *
 refine aP (fun m ys M15=>∃ i:Nat,m=32 - i∧ys=[N .i64 (i:Int)]∧i≤32∧ae [] M12 M15∧M12.next<M15.next∧M15.heap M12.next=some (.row (BY.row ((nP F).take i++List.replicate (32 - i) 0)) false T32 0)) _
  ⟨0,rfl,rfl,by omega,k14,l14,n14⟩ ?_
 rintro next m ys M15 hnext ⟨i',rfl,rfl,hi',k15,aak,n15'⟩
 simp only[jl]
 have abd:=k15.ax n12 l12 (by simp)
 rw[Fu 32 (by rfl)]
 refine aY (fun hc=>?_) fun hc=>?_
 ·have Ck:i'<32:=of_decide_eq_true hc
  rw[Ll]
  refine⟨by decide, ?_⟩
  rw[show IntKind.i64.wrap (((i' : Nat) : Int).tdiv 4)=((i' / 4:Nat) : Int) by
   rw[show((i' : Nat) : Int).tdiv 4=((i' / 4:Nat) : Int) by rw[Int.natCast_ediv]; exact Int.tdiv_eq_ediv_of_nonneg (by omega)]
   exact fD (by omega) (by omega)]
  rw[jr rfl (by omega),vH abd (by omega),Mi]
  refine⟨by decide, ?_⟩
  rw[show(((i' : Nat) : Int)).tmod 4=((i' % 4:Nat) : Int) by rw[Int.natCast_emod]; exact Int.tmod_eq_emod_of_nonneg (by omega),uJ,fD (by omega) (by omega),mY,fD (by omega) (by omega),ui]
  refine⟨by omega, ?_⟩
  rw[rE,Pv,jr rfl Ck,show(24 - 8 * ((i' % 4:Nat) : Int))=((24 - 8 * (i' % 4) : Nat) : Int) by omega]
  have hget:(nP F)[i']?=some (JH (uM .u32 (F.getD (i' / 4) 0) ((24 - 8 * (i' % 4) : Nat) : Int))):=by
   simp[nP,Ck]
  have hset:=Ve Ck hdF hget
  have hrow15:((nP F).take i'++List.replicate (32 - i') 0).length=32:=by rw[List.length_append,List.length_take,List.length_replicate]; omega
  rw[bR (BY.row ((nP F).take (i' + 1)++List.replicate (32 - (i' + 1)) 0)) n15' (by rw[vN]; omega) rfl rfl (by rw[← hset,rU,rU,List.map_set]),qh 1 (by omega) (by omega) (by rfl)]
  exact hnext _ _ _ (by omega) ⟨i' + 1,rfl,rfl,by omega,k15.new _ (Nat.le_refl _),aak,aA _⟩
 ·have Ck:i'=32:=by have:=of_decide_eq_false hc; omega
  subst Ck
  have e:(nP F).take 32++List.replicate (32 - 32) 0=nP F:=by rw[List.take_of_length_le (by omega)]; simp
  rw[e] at n15'
  have n115:=k15.ax n112 abl (by simp)
  rw[aO n15' (by rw[vN,hdF]),BJ n115 (by rw[vN,hdF]) (by rw[vN,List.length_replicate]) (BY.kZ _),aO (aA _) (by rw[vN,hdF]),← abt]
  have Uv:ae [M4.next] M M12:=(k05.mono (by simp)).trans Vj
  have ZA:ae [] M M12:=⟨Uv.base,Uv.next,fun x hx _=>Uv.heap x hx (by simp; omega)⟩
  exact hQ _ ((ZA.trans k15).new _ (Nat.le_refl _))
theorem Te {p:UInt8→Bool} (h:(List.range 256).all (fun n=>p (UInt8.ofNat n))=true) (x:UInt8) : p x=true:=by
 have:=List.all_eq_true.1 h x.toNat (List.mem_range.2 x.toNat_lt)
 simpa using this
abbrev VM:Str:=[48,49,50,51,52,53,54,55,56,57,97,98,99,100,101,102]
def hx (n:Nat) : UInt8:=VM.getD n 0
def zX (d:Str) : Str:=d.flatMap fun x=>[hx (x.toNat / 16),hx (x.toNat % 16)]
theorem Ml (d:Str) : (zX d).length=2 * d.length:=by
 induction d with
 | nil=>rfl
 | cons x d ih=>unfold zX at ih ⊢; rw[List.flatMap_cons,List.length_append,ih,List.length_cons]; simp; omega
theorem TY (d:Str) {i:Nat} (h:i<d.length) : zX (d.take (i + 1))=zX (d.take i)++[hx (d[i].toNat / 16),hx (d[i].toNat % 16)]:=by
 rw[List.take_succ_eq_append_getElem h]
 unfold zX
 rw[List.flatMap_append]
 simp
def qHi (x:UInt8) : Bool:=uM .u8 (x.toNat:Int) 4 == ((x.toNat / 16:Nat) : Int)
def qLo (x:UInt8) : Bool:=zH .u8 (x.toNat:Int) 15 == ((x.toNat % 16:Nat) : Int)
theorem W9:∀ x,qHi x=true:=Te (by decide +kernel)
theorem WU:∀ x,qLo x=true:=Te (by decide +kernel)
theorem Zv (x:UInt8) : uM .u8 (x.toNat:Int) 4=((x.toNat / 16:Nat) : Int):=eq_of_beq (W9 x)
theorem Zg (x:UInt8) : zH .u8 (x.toNat:Int) 15=((x.toNat % 16:Nat) : Int):=eq_of_beq (WU x)
theorem Wx {n:Nat} (h:n<16) {k:IntKind} {K:AV→Prop} : dG (St VM) (N k (n:Int)) K=K (By (hx n)):=by
 rw[uo (by show n<16; exact h)]
 have:VM[n]'(by show n<16; exact h)=hx n:=by
  unfold hx
  rw[List.getD_eq_getElem?_getD,List.getElem?_eq_getElem (by show n<16; exact h)]; rfl
 rw[this]
theorem Zp {T:Nat} {a b z:AV} {K:RB→(Nat→AV)→Prop} (ha:a.cells=[a]) (hb:b.cells=[b]) (ha1:oneCell a=true) (hb1:oneCell b=true) :
  eY T 2 [z] [(0,1,a),(1,1,b)] K=K (.row [a,b] false T 0) (fun b=>.slc b 0 2 (.ex 2)):=by
 have:sQ (nJ [z] 2) [(0,1,a),(1,1,b)]=some [a,b]:=by simp[sQ,nJ,ha,hb,ha1,hb1]
 apply propext; unfold eY
 constructor
 ·rintro⟨l,h,hk⟩; rw[this] at h; cases h; exact hk
 ·intro hk; exact⟨_,this,hk⟩
theorem WI {M:RM} {base T:Nat} {v:AV} {xs:Str} {x y:UInt8} {zs:List AV} {K:aj} (ho:Ow BY M base T v xs) (hb:base≤M.next) (hn:xs.length≤1000000000)
  (hK:∀ v' M',Ow BY M' base T v' (xs++[x,y])→ae (aH v) M M'→K v' M') :
  appW T 1 1 zs false v (.slc M.next 0 2 (.ex 2)) (M.push (.row [By x,By y] false T 0)) K:=by
 have hk:ae [] M (M.push (.row (BY.row [x,y]) false T 0)):=(ae.refl _ _).push _
 refine IE (E:=BY) (ys:=[x,y]) (Own.keep ho hk (by simp)) (Nat.le_trans hb hk.next) (by decide) (Sl.new [x,y]) (by simp; omega) (by simp; omega) fun v' M' h1 h2 _ _=>?_
 exact hK v' M' h1 ((hk.mono (by simp)).trans h2)
def Qs (c:ak) : Prop:=∀ {M:RM} {d:Str} {Q:aj},d.length=32→(∀ M',ae [] M M'→Q (St (zX d)) M')→c [.agg (BY.row d)] M Q
theorem Yf {d:Str} {i:Nat} (h:i<d.length) : (BY.row d)[i]?=some (By d[i]):=by rw[rU,List.getElem?_map,List.getElem?_eq_getElem h]; rfl
theorem Tj {T32 T8:Nat} : Qs fun args M Q=>∃ a0,args=[a0]∧BG T32 T8 a0 M Q:=by
 intro M d Q hd hQ
 refine⟨_,rfl, ?_⟩
 unfold BG
 rw[gX (BY.kZ d) (by rw[vN]; omega),aG]
 have k0:ae [] M (M.push (.row (BY.row d) false T32 0)):=(ae.refl _ _).push _
 have n0:(M.push (.row (BY.row d) false T32 0)).heap M.next=some (.row (BY.row d) false T32 0):=by simp[RM.push]
 generalize M.push (.row (BY.row d) false T32 0)=M0 at *
 rw[aO n0 (by rw[vN,hd])]
 refine aP (fun m ys M3=>∃ (i:Nat) (ov:AV),m=32 - i∧ys=[ov,N .i64 (i:Int)]∧i≤32∧ae [] M M3∧Ow BY M3 M.next T8 ov (zX (d.take i))) _ ⟨0,aF,rfl,rfl,by omega,k0,.nil⟩ ?_
 rintro next m ys M3 hnext ⟨i,ov,rfl,rfl,hi,k3,o3⟩
 simp only[jl,Jp]
 rw[Fu 32 (by rfl)]
 refine aY (fun hc=>?_) fun hc=>?_
 ·have Ck:i<32:=of_decide_eq_true hc
  have hid:i<d.length:=by omega
  have hlt:=Ky d[i]
  rw[Ji]
  refine⟨by omega,by omega,By d[i],by rw[Int.toNat_natCast]; exact Yf hid, ?_⟩
  rw[By,ui]
  refine⟨by decide, ?_⟩
  rw[Zv,Wx (by omega),lM,Zg,Wx (by omega),Zp rfl rfl rfl rfl,Pw]
  have hhl:=Ml (d.take i)
  have htl:(d.take i).length=i:=by rw[List.length_take]; omega
  refine WI o3 k3.next (by omega) fun v4 M4 o4 k4=>?_
  rw[qh 1 (by omega) (by omega) (by rfl)]
  refine hnext _ _ _ (by omega) ⟨i + 1,v4,rfl,rfl,by omega,ae.own k3 k4 (fun x hx=>(Own.blk o3 x hx).1), ?_⟩
  rw[TY d hid]; exact o4
 ·have Ck:i=32:=by have:=of_decide_eq_false hc; omega
  subst Ck
  rw[List.take_of_length_le (by omega)] at o3
  rw[Sl.str (Own.vR o3)]
  exact hQ M3 k3
def dY (b:Str) : Str:=zX (G9 b)
theorem I8 (b:Str) : (dY b).length=64:=by unfold dY; rw[Ml,MW]
end Go.Ab.Sha
namespace Go.Ab.Vc
open Go Go.Ab Go.Ab.Vl Go.Ab.Sm
theorem Wd {α:Type} {R:jL α} {M:RM} {v:AV} {xs:List α} {S:Nat→Prop} (h:bE R M v xs S) (hc:KE R.size v) (h0:0<xs.length) {K:AV→Prop}
  (hK:∀ v',bE R M v' (xs.drop 1) S→K v') : bP (kw R.size v (some (N .i64 1)) none none) K:=by
 obtain⟨cs,h1,h2,h3⟩:=h
 have hl:=h3.len
 have h3':=h3.drop 1
 have hlen:(xs.drop 1).length=xs.length - 1:=by simp
 generalize hn:xs.length=n at h1
 cases h1 with
 | nil=>omega
 | emp=>omega
 | slc b o _ cap cs hb hld =>
   have hp:=Gs hld (1 * R.size) ((n - 1) * R.size) (by rw[← Nat.add_mul]; exact Nat.mul_le_mul_right _ (by omega))
   have hcs:(cs.drop (1 * R.size)).take ((n - 1) * R.size)=cs.drop (1 * R.size):=by
    apply List.take_of_length_le
    rw[List.length_drop,hl,hn,Nat.sub_mul]; omega
   rw[hcs] at hp
   have b1:bnd 0 (some (N .i64 (1:Int)))=some 1:=rfl
   have b2:∀ k,bnd k none=some k:=fun _=>rfl
   have mk:∀ cap',bE R M (.slc b (o + 1 * R.size) (n - 1) cap') (xs.drop 1) S:=fun cap'=>⟨_,by rw[hlen,hn]; exact .slc _ _ _ _ _ hb hp,fun x hx=>h2 x hx,h3'⟩
   have zero:n=1→∀ {w:AV},(∀ x∈aH w,S x)→dC M R.size w [] 0→bE R M w (xs.drop 1) S:=by
    intro e w hw hr
    have:xs.drop 1=[]:=List.drop_eq_nil_of_le (by omega)
    rw[this]
    exact⟨[],hr,hw,.nil⟩
   have hSb:S b:=h2 b (by simp[aH])
   cases cap with
   | ex c =>
     have hc:n≤c:=hc
     by_cases e:c=1
     ·subst e
      refine⟨.slc b o 0 (.ex 0),by simp only[kw,b1,b2]; rw[if_pos ⟨by omega,by omega⟩]; simp,hK _ (zero (by omega) (fun x hx=>by simp[aH] at hx; subst hx; exact hSb) (.slc _ _ _ _ _ hb ?_))⟩
      have:=Gs hld 0 0 (by omega)
      simpa using this
     ·exact⟨_,by simp only[kw,b1,b2]; rw[if_pos ⟨by omega,by omega⟩,if_neg e],hK _ (mk _)⟩
   | op esz =>
     have hc:esz=R.size:=hc
     subst hc
     by_cases e:n≤1
     ·exact⟨.emp b,by simp only[kw,b1,b2]; simp[e]; omega,hK _ (zero (by omega) (fun x hx=>by simp[aH] at hx) (.emp _))⟩
     ·exact⟨_,by simp only[kw,b1,b2]; simp only[and_true]; rw[if_pos ⟨by omega,by omega⟩,if_neg e],hK _ (mk _)⟩
def FN (x:Li) : Bool:=decide (x.1.n=xB) && decide (x.1.g=[])
def QS (B:Base) (c:ak) : Prop:=∀ {M:RM} {v:AV} {ls:List Li} {S:Nat→Prop} {all:Str} {Q:aj},bE iC M v ls S→ls.length≤200000→all.length≤100000000→(∀ M',ae [] M M'→Q (St (lS Sha.dY ls all)) M')→c [v,St all] M Q
theorem TG {B:Base} {TL TU:Nat} {cs ch:ak} (hs:Sha.VL cs) (hh:Sha.Qs ch) : QS B fun args M Q=>∃ a0 a1,args=[a0,a1]∧pI TL TU cs ch a0 a1 M Q:=by
 intro M v ls S all Q hv hlen hal hQ
 refine⟨_,_,rfl, ?_⟩
 unfold pI
 simp only[dR,dK]
 have hf:lS Sha.dY ls all=match ls.find? FN with
  | some x=>if 1≤x.1.v.length∧x.1.v.length≤64 then x.1.v else[99,45]++(Sha.dY all).take 16
  | none=>[99,45]++(Sha.dY all).take 16:=rfl
 rw[hf] at hQ
 refine bO (fun ys M'=>ae [] M M'∧lS Sha.dY ls all=[99,45]++(Sha.dY all).take 16) ?_ ?_
 ·rintro ys M1 ⟨k1,he⟩
  rw[hf] at he
  rw[he] at hQ
  rw[rV,aG]
  have k2:ae [] M1 (M1.push (.row (BY.row all) true TU 0)):=(ae.refl _ _).push _
  have o2:Ow BY (M1.push (.row (BY.row all) true TU 0)) M1.next TU (.slc M1.next 0 all.length (.op 1)) all:=.op _ _ _ (Nat.le_refl _) (by simp[RM.push]) (RM.aS _) (by simp[BY,Enc.fU])
  generalize M1.push (.row (BY.row all) true TU 0)=M2 at *
  refine hs (Sha.Bs.own o2) hal fun M3 k3=>?_
  refine hh (Sha.MW all) fun M4 k4=>?_
  have h64:(Sha.zX (Sha.G9 all)).length=64:=Sha.I8 all
  rw[show(N .i64 (16:Int))=N .i64 ((16:Nat) : Int) from rfl,gZ (by omega),dM,bI]
  refine⟨by simp; omega, ?_⟩
  exact hQ M4 (((k1.trans k2).trans k3).trans k4)
 intro J hJ
 rw[hv.len]
 refine aP (fun m ys M1=>∃ i:Nat,m=ls.length - i∧ys=[N .i64 (i:Int)]∧i≤ls.length∧ae [] M M1∧(ls.drop i).find? FN=ls.find? FN) _
  ⟨0,rfl,rfl,Nat.zero_le _,ae.refl _ _,rfl⟩ ?_
 rintro next m ys M1 hnext ⟨i,rfl,rfl,hi,k1,he⟩
 dsimp only[ag]
 have hv1:=hv.keep k1 (bs:=[]) (by simp)
 rw[kJ]
 refine aY (fun h=>?_) (fun h=>?_)
 rotate_left 1
 ·have h:¬ i<ls.length:=of_decide_eq_false h
  rw[List.drop_eq_nil_of_le (by omega)] at he
  refine hJ _ _ ⟨k1, ?_⟩
  rw[hf,← he]; rfl
 have h:i<ls.length:=of_decide_eq_true h
 obtain⟨pw,hpw,hq,_⟩:=wQ hv1 h
 rw[hq,aG]
 rw[List.drop_eq_getElem_cons h,List.find?_cons] at he
 generalize ls[i]=x at *
 have hall:([St x.1.g,St x.1.n,pw,St x.1.v,N .i64 x.2] : List AV).all oneCell=true:=by simp[eZ,hpw.one]
 refine zv (b:=0) 5 rfl rfl _ rfl hall rfl fun M2 k2 n2 h2=>?_
 rw[aQ,ay h2 rfl,ja]
 refine mZ (p:=x.1.g != []) (fun hc kk hk=>?_) ?_
 ·rw[aQ,ay h2 rfl,ja]; exact hk
 have hu:FN x=!((x.1.n != xB) || (x.1.g != [])):=by
  unfold FN
  by_cases h1:x.1.n=xB <;> by_cases h2:x.1.g=[] <;> simp[h1,h2]
 refine aY (fun hc=>?_) (fun hc=>?_)
 ·rw[hu,hc] at he
  rw[add1 (by omega)]
  exact hnext _ _ _ (by omega) ⟨i + 1,rfl,rfl,by omega,k1.trans k2,he⟩
 ·rw[hu,hc] at he
  simp only[Bool.not_false] at he
  rw[aQ,ay h2 rfl,bA,show(N .i64 (1:Int))=N .i64 ((1:Nat) : Int) from rfl,fM]
  have hd:lS Sha.dY ls all=if 1≤x.1.v.length∧x.1.v.length≤64 then x.1.v else[99,45]++(Sha.dY all).take 16:=by rw[hf,← he]
  rw[← hf,hd] at hQ
  refine wC (p:=decide (x.1.v.length≤64)) (fun hc kk hk=>?_) ?_
  ·rw[aQ,ay h2 rfl,bA,show(N .i64 (64:Int))=N .i64 ((64:Nat) : Int) from rfl,PH]; exact hk
  refine aY (fun hc=>?_) (fun hc=>?_)
  ·simp only[Bool.and_eq_true,decide_eq_true_eq] at hc
   rw[if_pos ⟨by omega,hc.2⟩] at hQ
   rw[aQ,ay h2 rfl]
   exact hQ _ (k1.trans k2)
  ·refine hJ _ _ ⟨k1.trans k2, ?_⟩
   rw[hd,if_neg]
   rintro⟨a1,a2⟩
   simp only[Bool.and_eq_false_iff,decide_eq_false_iff_not] at hc
   rcases hc with hc | hc <;> omega
theorem UL (n:Str) (k:Nat) (hk:k<4611686018427387904) : (kR n k).length≤n.length + 22:=by
 unfold kR
 split
 ·omega
 ·have hw : -9223372036854775808≤IntKind.wrap .i64 ((k:Int) + 1)∧IntKind.wrap .i64 ((k:Int) + 1)≤9223372036854775807:=by
   rw[IntKind.wrap_i64]; omega
  have:=Lib.itoa_length_le _ hw.1 hw.2
  simp; omega
theorem Ja (fs:List Fd) (p:Fd) : oZ (fs++[p])=oZ fs++(p.1++[0]++p.2++[0]):=by simp[oZ]
def Re (B:Base) (c:ak) : Prop:=∀ {M:RM} {v:AV} {ls:List Li} {S:Nat→Prop} {Q:aj},M.base=B→bE iC M v ls S→KE 5 v→ls≠[]→ls.length≤110000→(∀ x∈ls,rQ 100000 x.1) →
 (∀ M' w c,ae [] M M'→oq Sha.dY ls=.ok c→Ow nH M' M.next 30 w c.2.1→Q (.tup [.agg [St c.1,w,N .i64 c.2.2],N .i64 0,N .i64 0]) M') →
 (∀ M' k e,ae [] M M'→oq Sha.dY ls=.error (k,e)→e≠0→Q (.tup [.agg [St [],aF,N .i64 0],N .i64 k,N .i64 e]) M')→c [v] M Q
theorem CK {B:Base} {TC TL:Nat} {cp cn cc:ak} (hp:FT B cp) (hn:QK B cn) (hc:QS B cc) : Re B fun args M Q=>∃ a0,args=[a0]∧vP TC TL cp 30 cn cc a0 M Q:=by
 intro M v ls S Q hM hv0 hcap hne hlen hsz hO hE
 refine⟨_,rfl, ?_⟩
 unfold vP
 simp only[dR]
 have hv:=hv0.lt
 obtain⟨b,r,rfl⟩ : ∃ b r,ls=b :: r:=by
  cases ls with
  | nil=>exact absurd rfl hne
  | cons b r=>exact⟨b,r,rfl⟩
 have hr:oq Sha.dY (b :: r)=match mr r [] [] with | .error e=>.error e | .ok fs=>.ok (lS Sha.dY r (oZ fs),fs,b.2):=rfl
 simp only[List.length_cons] at hlen
 rw[aG]
 have k1:ae [] M (M.push (.row [St [],aF,N .i64 0] false TC 0)):=(ae.refl _ _).push _
 have h1:(M.push (.row [St [],aF,N .i64 0] false TC 0)).heap M.next=some (.row [St [],aF,N .i64 0] false TC 0):=RM.aS _
 have n1:(M.push (.row [St [],aF,N .i64 0] false TC 0)).next=M.next + 1:=bG _
 generalize M.push (.row [St [],aF,N .i64 0] false TC 0)=M1 at *
 have hv1:=hv.keep k1 (by simp)
 obtain⟨_,_,_,_,_,_,hq4⟩:=wQ hv1 (i:=0) (by simp)
 rw[show(N .i64 (0:Int))=N .i64 ((0:Nat) : Int) from rfl,hq4,List.getElem_cons_zero,aQ,bR (l':=[St [],aF,N .i64 b.2]) h1 (by simp) rfl rfl rfl]
 have k2:ae [] M (M1.put M.next (.row [St [],aF,N .i64 b.2] false TC 0)):=k1.put _ (.inl (Nat.le_refl _))
 have h2:(M1.put M.next (.row [St [],aF,N .i64 b.2] false TC 0)).heap M.next=some (.row [St [],aF,N .i64 b.2] false TC 0):=aA _
 have n2:(M1.put M.next (.row [St [],aF,N .i64 b.2] false TC 0)).next=M1.next:=rfl
 generalize M1.put M.next (.row [St [],aF,N .i64 b.2] false TC 0)=M2 at *
 rw[aG]
 have k3:ae [] M2 (M2.push (.map [] 0)):=(ae.refl _ _).push _
 have c3:=lc.new M2
 have n3:(M2.push (.map [] 0)).next=M2.next + 1:=bG _
 generalize M2.push (.map [] 0)=M3 at *
 have h3:=k3.ax h2 (by omega) (by simp)
 have k03:=k2.trans k3
 have hv3:=hv.keep k03 (by simp)
 refine Wd (R:=iC) hv3 hcap (by simp) fun v' hv'=>?_
 rw[List.drop_one,List.tail_cons] at hv'
 rw[hv'.len]
 refine aP (fun m ys M4=>∃ (i:Nat) (ns:List Str) (fs:List Fd) (w:AV),m=r.length - i∧ys=[St (oZ fs),N .i64 (i:Int)]∧i≤r.length∧ae [M.next,M2.next] M3 M4∧M2.next<M4.next ∧
   M4.heap M.next=some (.row [St [],w,N .i64 b.2] false TC 0)∧Ow nH M4 (M2.next + 1) 30 w fs∧lc M4 M2.next (fA ns)∧ns.length=i∧fs.length=i∧(oZ fs).length≤600 * i∧mr (r.drop i) ns fs=mr r [] []) _
  ⟨0,[],[],aF,rfl,rfl,Nat.zero_le _,ae.refl _ _,by omega,h3,.nil,c3,rfl,rfl,by simp[oZ],rfl⟩ ?_
 rintro next m ys M4 hnext ⟨i,ns,fs,w,rfl,rfl,hi,k34,n4,h4,o4,c4,hns,hfs,hal,he⟩
 have k4:ae [] M M4:=k03.fK k34 fun c hc=>.inl (by simp at hc; rcases hc with rfl | rfl <;> omega)
 dsimp only[ag]
 have hM4:M4.base=B:=k4.base.trans hM
 have hwb:=o4.blk
 rw[kJ]
 refine aY (fun h=>?_) (fun h=>?_)
 rotate_left 1
 ·have h:¬ i<r.length:=of_decide_eq_false h
  rw[List.drop_eq_nil_of_le (by omega),mr] at he
  rw[← he] at hr
  refine Wd (R:=iC) (hv.keep k4 (by simp)) hcap (by simp) fun v4 hv4=>?_
  rw[List.drop_one,List.tail_cons] at hv4
  refine hc hv4 (by omega) (by omega) fun M5 k5=>?_
  have h5:=k5.ax h4 (by omega) (by simp)
  have n5:=k5.next
  have o5:=o4.keep k5 (by simp)
  have how:∀ x:Str,([St x,w,N .i64 b.2] : List AV).all oneCell=true:=fun x=>by
   have hw1:oneCell w=true:=dC.one (Own.vR o4)
   simp[eZ,hw1]
  rw[aQ,bR (l':=[St (lS Sha.dY r (oZ fs)),w,N .i64 b.2]) h5 (by simp) rfl rfl rfl,aO (n:=3) (aA _) rfl,
   bN (n:=3) (x:=.agg [St (lS Sha.dY r (oZ fs)),w,N .i64 b.2]) (aA _) rfl rfl (how _),aO (n:=3) (aA _) rfl]
  refine hO _ w _ (((k4.trans k5).put _ (.inl (Nat.le_refl _))).put _ (.inl (Nat.le_refl _))) hr ?_
  have kA:ae [M.next] M5 (M5.put M.next (.row [St (lS Sha.dY r (oZ fs)),w,N .i64 b.2] false TC 0)):=(ae.refl _ _).put _ (.inr (by simp))
  generalize M5.put M.next (.row [St (lS Sha.dY r (oZ fs)),w,N .i64 b.2] false TC 0)=MA at *
  have kB:ae [M.next] MA (MA.put M.next (.row (AV.agg [St (lS Sha.dY r (oZ fs)),w,N .i64 b.2]).cells false TC 0)):=(ae.refl _ _).put _ (.inr (by simp))
  exact((o5.keep kA (fun c hc=>by have:=(hwb c hc).1; simp; omega)).keep kB (fun c hc=>by have:=(hwb c hc).1; simp; omega)).mono (by omega)
 have h:i<r.length:=of_decide_eq_true h
 have hv4:=hv'.keep k34 (fun c hc=>by simp at hc; rcases hc with rfl | rfl <;> omega)
 obtain⟨pw,hpw,hq,_⟩:=wQ hv4 h
 have hx:=hsz _ (List.mem_cons_of_mem _ (List.getElem_mem h))
 rw[hq,aG]
 rw[List.drop_eq_getElem_cons h,mr] at he
 generalize r[i]=x at *
 have hall:([St x.1.g,St x.1.n,pw,St x.1.v,N .i64 x.2] : List AV).all oneCell=true:=by simp[eZ,hpw.one]
 refine zv (b:=0) 5 rfl rfl _ rfl hall rfl fun M5 k5 n5 h5=>?_
 have hLB:LB 1000000 x.1:=(hx.mono (by omega)).lb
 have abr:=hx.YA
 rw[aO (n:=5) h5 rfl]
 refine hp (k5.base.trans hM4) (kE (k:=x.2) (hpw.keep k5 (by simp))) hLB (by omega) fun M6 k6=>?_
 have hpl:=KF hLB
 have hcl:=OZ ns (bB x.1).1
 have hnl:=UL (bB x.1).1 (fA ns (bB x.1).1) (by omega)
 have hcs:∀ y:Str,fA (ns++[(bB x.1).1]) y=if y=(bB x.1).1 then fA ns (bB x.1).1 + 1 else fA ns y:=fun y=>Ju ns _ y
 generalize bB x.1=p at *
 have h6:=k6.ax h5 (by omega) (by simp)
 have n6:=k6.next
 unfold nU
 rw[aG]
 refine zv (b:=0) 2 rfl rfl _ rfl rfl rfl fun M7 k7 n7 h7=>?_
 have k47:ae [] M4 M7:=(k5.trans k6).trans k7
 have h67:=k7.ax h6 (by omega) (by simp)
 rw[aQ,ay h7 rfl]
 have c7:lc M7 M2.next (fA ns):=c4.keep k47 (by simp)
 refine c7.look ?_
 refine hn (k47.base.trans hM4) (by omega) fun M8 k8=>?_
 have h8:=k8.ax h7 (by omega) (by simp)
 have h68:=k8.ax h67 (by omega) (by simp)
 have n8:=k8.next
 rw[aQ,bR (l':=[St (kR p.1 (fA ns p.1)),St p.2]) h8 (by simp) rfl rfl rfl]
 have k9:ae [] M4 (M8.put M6.next (.row [St (kR p.1 (fA ns p.1)),St p.2] false 30 0)):=(k47.trans k8).put _ (.inl (by omega))
 have h9:(M8.put M6.next (.row [St (kR p.1 (fA ns p.1)),St p.2] false 30 0)).heap M6.next=some (.row [St (kR p.1 (fA ns p.1)),St p.2] false 30 0):=aA _
 have h69:(M8.put M6.next (.row [St (kR p.1 (fA ns p.1)),St p.2] false 30 0)).heap M4.next=_:=dI h68 (by omega)
 have n9:(M8.put M6.next (.row [St (kR p.1 (fA ns p.1)),St p.2] false 30 0)).next=M8.next:=rfl
 generalize M8.put M6.next (.row [St (kR p.1 (fA ns p.1)),St p.2] false 30 0)=M9 at *
 have c9:lc M9 M2.next (fA ns):=c4.keep k9 (by simp)
 refine c9.look ?_
 rw[add1 (by omega)]
 refine c9.upd fun Ma ca ka na=>?_
 have ca' : lc Ma M2.next (fA (ns++[p.1])):=by rw[show fA (ns++[p.1])=_ from funext hcs]; exact ca
 have ha:=ka.ax h9 (by omega) (by simp; omega)
 have h6a:=ka.ax h69 (by omega) (by simp; omega)
 have h4a:=ka.ax (k9.ax h4 (by omega) (by simp)) (by omega) (by simp; omega)
 have k3a:ae [M.next,M2.next] M3 Ma:=(k34.trans (k9.mono (by simp))).trans (ka.mono (by simp))
 have oa:Ow nH Ma (M2.next + 1) 30 w fs:=(o4.keep k9 (by simp)).keep ka fun c hc=>by have:=(hwb c hc).1; simp; omega
 rw[aQ,ay ha rfl,bA,show(N .i64 (64:Int))=N .i64 ((64:Nat) : Int) from rfl,Cv]
 refine mZ (p:=decide (p.2.length > 512)) (fun hc kk hk=>?_) ?_
 ·rw[aQ,ay ha rfl,bA,show(N .i64 (512:Int))=N .i64 ((512:Nat) : Int) from rfl,Cv]; exact hk
 have hMa:ae [] M Ma:=k03.fK k3a fun c hc=>.inl (by simp at hc; rcases hc with rfl | rfl <;> omega)
 refine aY (fun hb=>?_) (fun hb=>?_)
 ·simp only[Bool.or_eq_true,decide_eq_true_eq] at hb
  rw[if_pos hb] at he
  rw[← he] at hr
  rw[jk]
  refine⟨[St [],aF,N .i64 0],rfl, ?_⟩
  rw[aQ,ay h6a rfl,bN (n:=3) (x:=.agg [St [],aF,N .i64 0]) h4a rfl rfl rfl,ay (dI h6a (by omega)) rfl]
  refine⟨rfl, ?_⟩
  rw[aO (n:=3) (aA _) rfl]
  exact hE _ _ _ (hMa.put _ (.inl (Nat.le_refl _))) hr (by decide)
 ·simp only[Bool.or_eq_false_iff,decide_eq_false_iff_not] at hb
  rw[if_neg (by omega)] at he
  generalize hnf:kR p.1 (fA ns p.1)=nf at *
  rw[aQ,ay h4a rfl,aO (n:=2) ha rfl,jV (x:=.agg [St nf,St p.2]) (size:=2) rfl rfl rfl,aG]
  refine oP (E:=nH) (a:=(nf,p.2)) oa (by omega) (by decide) (by omega) (by omega) ?_
  intro w' Mb ob kb nb hwv
  have hb4:=kb.ax h4a (by omega) (fun h=>by have:=(hwb _ h).1; omega)
  have hb9:=kb.ax ha (by omega) (fun h=>by have:=(hwb _ h).2; omega)
  have hob:=ob.blk
  have how' : oneCell w'=true:=dC.one (Own.vR ob)
  have aa0:w'.cells=[w']:=dC.cells (Own.vR ob)
  rw[aQ,bR (l':=[St [],w',N .i64 b.2]) hb4 (by simp) aa0 how' rfl]
  have kc:ae [M.next] Mb (Mb.put M.next (.row [St [],w',N .i64 b.2] false TC 0)):=(ae.refl _ _).put _ (.inr (by simp))
  have hc4:(Mb.put M.next (.row [St [],w',N .i64 b.2] false TC 0)).heap M.next=some (.row [St [],w',N .i64 b.2] false TC 0):=aA _
  have hc9:(Mb.put M.next (.row [St [],w',N .i64 b.2] false TC 0)).heap M6.next=_:=dI hb9 (by omega)
  have nc:(Mb.put M.next (.row [St [],w',N .i64 b.2] false TC 0)).next=Mb.next:=rfl
  generalize Mb.put M.next (.row [St [],w',N .i64 b.2] false TC 0)=Mc at *
  have oc:Ow nH Mc (M2.next + 1) 30 w' (fs++[(nf,p.2)]):=ob.keep kc fun c hc=>by have:=(hob c hc).1; simp; omega
  have cc' : lc Mc M2.next (fA (ns++[p.1])):=(ca'.keep kb (fun h=>by have:=(hwb _ h).1; omega)).keep kc (by simp; omega)
  rw[aQ,ay hc9 rfl,bI]
  refine⟨by simp; omega, ?_⟩
  rw[aQ,ay hc9 rfl,bI]
  refine⟨by simp; omega, ?_⟩
  rw[bI]
  refine⟨by simp; omega, ?_⟩
  rw[bI]
  refine⟨by simp; omega, ?_⟩
  rw[add1 (by omega)]
  have k3c:ae [M.next,M2.next] M3 Mc:=(k3a.fK kb fun c hc=>.inl (by have:=(hwb c hc).1; omega)).trans (kc.mono (by simp))
  exact hnext _ _ _ (by omega) ⟨i + 1,ns++[p.1],fs++[(nf,p.2)],w',rfl,by rw[Ja],by omega,k3c,by omega,hc4,oc,cc',by simp[hns],by simp[hfs],by rw[Ja]; simp; omega,he⟩
theorem Vq (s:Str) : (iN s).1.length + (iN s).2.1.length≤s.length:=by
 unfold iN
 cases hh:aN 34 s with
 | true =>
   have:=aZ hh
   rw[if_pos rfl]
   cases hb:brk 34 (s.drop 1) with
   | none=>simp
   | some x =>
     have:=Pn (a:=x.1) (b:=x.2) (by rw[hb])
     simp at this ⊢; omega
 | false =>
   rw[if_neg (by simp)]
   split
   ·simp
   ·simp; omega
theorem K8:∀ (k:Nat) (s:Str) (acc vs:List Str) (r:Str),1≤s.length→gJ k s acc=some (vs,r)→eP vs + 3 * r.length≤eP acc + 3 * s.length
 | 0,_,_,_,_,_,h=>by cases h
 | k + 1,s,acc,vs,r,h1,h=>by
   rw[gJ] at h
   have hl:=Vq (s.drop 1)
   rw[List.length_drop] at hl
   generalize iN (s.drop 1)=x at *
   obtain⟨v,q,ok⟩:=x
   dsimp only at h hl
   split at h
   ·split at h
    ·rename_i hh
     have:=K8 k q _ vs r (aZ hh) h
     rw[DX] at this
     omega
    ·cases h
     rw[DX]; omega
   ·cases h
theorem Ph (f:Str→Str) : ∀ (k:Nat) (s:Str) (acc ps:List gV) (r:Str),kS f k s acc=some (ps,r)→jo ps + 3 * r.length≤jo acc + 3 * s.length
 | 0,_,_,_,_,h=>by cases h
 | k + 1,s,acc,ps,r,h=>by
   rw[kS] at h
   split at h
   ·rename_i h59
    have hp:=aZ h59
    have hw:=wM (s.drop 1)
    rw[List.length_drop] at hw
    split at h
    ·rename_i h61
     simp only[Bool.and_eq_true] at h61
     have hq:=aZ h61.2
     cases hv:gJ ((s.drop 1).drop (wk (s.drop 1))).length ((s.drop 1).drop (wk (s.drop 1))) [] with
     | none=>rw[hv] at h; cases h
     | some x =>
       obtain⟨vs,q⟩:=x
       rw[hv] at h
       dsimp only at h
       have h1:=K8 _ _ _ _ _ hq hv
       have h2:=Ph f k q _ ps r h
       rw[O4] at h2
       simp only[show eP []=0 from rfl,List.length_drop,List.length_map,List.length_take] at h1 h2
       omega
    ·cases h
   ·cases h; omega
theorem UZ {f:Str→Str} {s:Str} {L:Ln} (h:iy f s=some L) : rQ (3 * s.length) L:=by
 unfold iy at h
 split at h
 ·have hd:∀ {g n r:Str},qP f s=some (g,n,r)→g.length≤s.length∧n.length≤s.length∧r.length≤s.length:=by
   intro g n r hh
   have h1:=wM s
   unfold qP at hh
   split at hh
   ·split at hh
    ·cases hh
     simp[cB]; omega
    ·cases hh
   ·cases hh
    simp[cB]; omega
  split at h
  ·cases h
  ·rename_i g n r hh
   obtain⟨h1,h2,h3⟩:=hd hh
   unfold tq at h
   split at h
   ·cases h
   ·rename_i ps q hp
    unfold om at hp
    have:=Ph f _ _ _ _ _ hp
    simp only[show jo []=0 from rfl] at this
    split at h
    ·cases h
     exact⟨by dsimp only; omega,by dsimp only; omega,by dsimp only; simp; omega,by dsimp only; omega⟩
    ·cases h
 ·cases h
theorem zY {f:Str→Str} (P:Li→Prop) : ∀ (l:List (Str × Int)) (acc ls:List Li),(∀ x∈acc,P x)→(∀ s k L,(s,k)∈l→s.length≤912→iy f s=some L→P (L,k))→gB f l acc=.ok ls→∀ x∈ls,P x
 | [],acc,ls,ha,_,h=>by
   cases h; exact ha
 | (s,k) :: r,acc,ls,ha,hl,h=>by
   have hl' : ∀ s k L,(s,k)∈r→s.length≤912→iy f s=some L→P (L,k):=fun s k L h=>hl s k L (List.mem_cons_of_mem _ h)
   rw[gB] at h
   split at h
   ·exact zY P r acc ls ha hl' h
   ·split at h
    ·cases h
    ·rename_i hn
     split at h
     ·cases h
     ·rename_i L hL
      refine zY P r _ ls (fun x hx=>?_) hl' h
      rcases List.mem_append.1 hx with hx | hx
      ·exact ha x hx
      ·simp at hx; subst hx; exact hl s k L (List.mem_cons_self ..) (by omega) hL
theorem Nf:∀ (xs acc:List Str) (ns:List Int) (k:Int),(∀ n∈ns,0<n)→0<k→k + xs.length<4611686018427387904→∀ n∈(kH acc ns k xs).2,0<n
 | [],acc,ns,k,h,_,_,n,hn=>h n hn
 | x :: xs,acc,ns,k,h,hk,hb,n,hn=>by
   rw[kH] at hn
   simp only[List.length_cons] at hb
   have hw:IntKind.wrap .i64 (k + 1)=k + 1:=by rw[IntKind.wrap_i64]; omega
   rw[hw] at hn
   refine Nf xs _ _ (k + 1) (fun m hm=>?_) (by omega) (by omega) n hn
   split at hm
   ·exact h m hm
   ·rcases List.mem_append.1 hm with hm | hm
    ·exact h m hm
    ·simp at hm; omega
theorem XX {s:Str} {ls:List Li} (hs:s.length≤100000000) (h:Cu bX s=.ok ls) : ∀ x∈ls,rQ 2736 x.1∧0<x.2:=by
 refine zY (fun x=>rQ 2736 x.1∧0<x.2) _ [] ls (by simp) (fun t k L hm hl hr=>⟨(UZ hr).mono (by omega), ?_⟩) h
 have:=(List.of_mem_zip hm).2
 have hr:=vI s []
 exact Nf _ _ _ _ (by simp) (by decide) (by omega) k this
theorem zT {f:Str→Str} : ∀ (l:List (Str × Int)) (acc ls:List Li),gB f l acc=.ok ls→ls.length≤acc.length + l.length
 | [],acc,ls,h=>by cases h; simp
 | (s,k) :: r,acc,ls,h=>by
   rw[gB] at h
   split at h
   ·have:=zT r acc ls h; simp; omega
   ·split at h
    ·cases h
    ·split at h
     ·cases h
     ·have:=zT r _ ls h; simp at this ⊢; omega
theorem MU {s:Str} {ls:List Li} (h:Cu bX s=.ok ls) : ls.length≤s.length + 1:=by
 have h1:=zT _ _ _ h
 have h2:=Hw (bD [] s) [] [] 1
 have h3:=vI s []
 unfold Nv at h1
 rw[List.length_zip] at h1
 simp only[List.length_nil] at h1 h2
 omega
theorem EZ {b:Int} : ∀ (l acc c r:List Li),dZ b l acc=.ok (c,r)→(∃ d,c=acc++d∧∀ x∈d,x∈l)∧(∀ x∈r,x∈l)∧c.length + r.length≤acc.length + l.length
 | [],_,_,_,h=>by cases h
 | x :: l,acc,c,r,h=>by
   rw[dZ] at h
   split at h
   ·cases h
    exact⟨⟨[],by simp,by simp⟩,fun x hx=>List.mem_cons_of_mem _ hx,by simp⟩
   ·split at h
    ·cases h
    ·obtain⟨⟨d,h1,h2⟩,h3,h4⟩:=EZ l _ c r h
     refine⟨⟨x :: d,by rw[h1]; simp,fun y hy=>?_⟩,fun y hy=>List.mem_cons_of_mem _ (h3 y hy),by simp at h4 ⊢; omega⟩
     rcases List.mem_cons.1 hy with rfl | hy
     ·exact List.mem_cons_self ..
     ·exact List.mem_cons_of_mem _ (h2 y hy)
theorem MP {b:Int} : ∀ (l acc:List Li) (e:Int),dZ b l acc=.error e→e=b∨∃ x∈l,e=x.2
 | [],_,_,h=>by cases h; exact .inl rfl
 | x :: l,acc,e,h=>by
   rw[dZ] at h
   split at h
   ·cases h
   ·split at h
    ·cases h; exact .inr ⟨x,List.mem_cons_self ..,rfl⟩
    ·rcases MP l _ e h with h | ⟨y,hy,h⟩
     ·exact .inl h
     ·exact .inr ⟨y,List.mem_cons_of_mem _ hy,h⟩
theorem KZ:∀ (k:Nat) (l:List Li) (acc css:List (List Li)),jf k l acc=.ok css→∀ c∈css,c∈acc∨(c≠[]∧c.length≤l.length∧∀ x∈c,x∈l)
 | 0,l,acc,css,h,c,hc=>by cases h; exact .inl hc
 | k + 1,[],acc,css,h,c,hc=>by cases h; exact .inl hc
 | k + 1,x :: r,acc,css,h,c,hc=>by
   rw[gF] at h
   split at h
   ·cases h
   ·cases r with
    | nil=>cases h
    | cons y r =>
      dsimp only at h
      split at h
      ·cases h
      ·cases hb:dZ x.2 r [x] with
       | error e=>rw[hb] at h; cases h
       | ok p =>
         obtain⟨c1,r'⟩:=p
         rw[hb] at h
         dsimp only at h
         obtain⟨⟨d,h1,h2⟩,h3,h4⟩:=EZ _ _ _ _ hb
         have hl:=qy _ _ _ _ hb
         rcases KZ k r' _ css h c hc with h5 | ⟨h5,h6,h7⟩
         ·rcases List.mem_append.1 h5 with h5 | h5
          ·exact .inl h5
          ·simp at h5; subst h5
           refine .inr ⟨by rw[h1]; simp,by simp at h4 ⊢; omega,fun z hz=>?_⟩
           rw[h1] at hz
           rcases List.mem_append.1 hz with hz | hz
           ·simp at hz; subst hz; exact List.mem_cons_self ..
           ·exact List.mem_cons_of_mem _ (List.mem_cons_of_mem _ (h2 z hz))
         ·exact .inr ⟨h5,by simp; omega,fun z hz=>List.mem_cons_of_mem _ (List.mem_cons_of_mem _ (h3 z (h7 z hz)))⟩
theorem KM:∀ (k:Nat) (l:List Li) (acc:List (List Li)) (e:Int),jf k l acc=.error e→∃ x∈l,e=x.2
 | 0,l,acc,e,h=>by cases h
 | k + 1,[],acc,e,h=>by cases h
 | k + 1,x :: r,acc,e,h=>by
   rw[gF] at h
   split at h
   ·cases h; exact⟨x,List.mem_cons_self ..,rfl⟩
   ·cases r with
    | nil=>cases h; exact⟨x,List.mem_cons_self ..,rfl⟩
    | cons y r =>
      dsimp only at h
      split at h
      ·cases h; exact⟨y,by simp,rfl⟩
      ·cases hb:dZ x.2 r [x] with
       | error e' =>
         rw[hb] at h; cases h
         rcases MP _ _ _ hb with h | ⟨z,hz,h⟩
         ·exact⟨x,List.mem_cons_self ..,h⟩
         ·exact⟨z,by simp[hz],h⟩
       | ok p =>
         obtain⟨c1,r'⟩:=p
         rw[hb] at h
         obtain⟨_,h3,_⟩:=EZ _ _ _ _ hb
         obtain⟨z,hz,h⟩:=KM k r' _ e h
         exact⟨z,by simp[h3 z hz],h⟩
def GX:jL Cd where
 size:=3
 rel M cs c S:=∃ v,cs=[St c.1,v,N .i64 c.2.2]∧bE nH.jQ M v c.2.1 S
 len h:=by obtain⟨v,rfl,h⟩:=h; rfl
 one h:=by obtain⟨v,rfl,h⟩:=h; simp[h.one,eZ]
 mono h hs:=by obtain⟨v,rfl,h⟩:=h; exact⟨v,rfl,h.mono hs⟩
 lt h:=by obtain⟨v,rfl,h⟩:=h; exact⟨v,rfl,h.lt⟩
 keep h hk hb:=by obtain⟨v,rfl,h⟩:=h; exact⟨v,rfl,h.keep hk hb⟩
def Ip (B:Base) (c:ak) : Prop:=∀ {M:RM} {s:Str} {Q:aj},M.base=B→s.length≤100000000→(∀ ls,Cu bX s=.ok ls→ls.length≤100000) →
 (∀ M' w cs,ae [] M M'→mM Sha.dY s=.ok cs→bE GX M' w cs (fun b=>M.next≤b)→cs.length≤s.length + 1→Q (.tup [w,N .i64 0,N .i64 0]) M') →
 (∀ M' k e,ae [] M M'→mM Sha.dY s=.error (k,e)→e≠0→Q (.tup [aF,N .i64 k,N .i64 e]) M')→c [St s] M Q
theorem CL {f:Str→Str} : ∀ (l:List (Str × Int)) (acc:List Li) {k e:Int},gB f l acc=.bad k e→e≠0
 | [],acc,k,e,h=>by cases h
 | (s,n) :: r,acc,k,e,h=>by
   rw[gB] at h
   split at h
   ·exact CL r acc h
   ·split at h
    ·cases h; decide
    ·split at h
     ·cases h; decide
     ·exact CL r _ h
theorem VN {B:Base} {TC:Nat} {cr cc cd:ak} (hr:u6 B bX cr) (hc:xV B cc) (hd:Re B cd) : Ip B fun args M Q=>∃ a0,args=[a0]∧qo cr cc cd TC a0 M Q:=by
 intro M s Q hM hlen hcnt hO hE
 refine⟨_,rfl, ?_⟩
 unfold qo
 unfold mM at hO hE
 refine hr hM hlen ?_ ?_
 rotate_left 1
 ·intro M1 k e k1 hrd
  rw[hrd] at hE
  have h0:=CL _ _ hrd
  rw[bH,bK,iK,dh,show(e != 0)=true by simpa using h0,dW]
  exact hE M1 k e k1 rfl h0
 intro v M1 ls k1 hrd hv hll
 have hall:=XX hlen hrd
 have hll':=hcnt ls hrd
 rw[hrd] at hO hE
 dsimp only at hO hE
 rw[bH,bK,iK,dh,show((0:Int) != 0)=false from rfl,dS]
 have n1:=k1.next
 refine hc (k1.base.trans hM) hv (by omega) (fun x hx=>((hall x hx).1.mono (by omega)).lb) ?_ ?_
 rotate_left 1
 ·intro M2 k k2 hcut
  obtain⟨x,hx,rfl⟩:=KM _ _ _ _ hcut
  unfold rJ at hcut
  rw[hcut] at hE
  rw[bH,bK,vW,show decide (x.2 > 0)=true from decide_eq_true (hall x hx).2,dW]
  exact hE M2 x.2 3 (k1.trans k2) rfl (by decide)
 intro M2 w css k2 hcut hw hcl
 have hcs:=KZ _ _ _ _ hcut
 unfold rJ at hcut
 rw[hcut] at hO hE
 dsimp only at hO hE
 rw[bH,bK,vW,show decide ((0:Int) > 0)=false from rfl,dS,hw.len]
 have k02:=k1.trans k2
 have hw2:=(hw.mono (S':=fun b=>M.next≤b) fun b h=>by rcases h with h | h <;> omega).lt
 refine aP (fun m ys M3=>∃ (i:Nat) (o:AV) (acc:List Cd),m=css.length - i∧ys=[o,N .i64 (i:Int)]∧i≤css.length∧acc.length=i∧ae [] M2 M3 ∧
   fB GX M3 M2.next TC o acc (fun b=>M2.next≤b∧b<M3.next∧b ∉ aH o)∧gG Sha.dY (css.drop i) acc=gG Sha.dY css []) _
  ⟨0,aF,[],rfl,rfl,Nat.zero_le _,rfl,ae.refl _ _,.nil,rfl⟩ ?_
 rintro next m ys M3 hnext ⟨i,o,acc,rfl,rfl,hi,hal,k3,ho,he⟩
 dsimp only[ag]
 have hob:=ho.blk
 have n2:=k2.next
 have n3:=k3.next
 rw[kJ]
 refine aY (fun h=>?_) (fun h=>?_)
 rotate_left 1
 ·have h:¬ i<css.length:=of_decide_eq_false h
  rw[List.drop_eq_nil_of_le (by omega),gG] at he
  refine hO M3 o acc (k02.trans k3) he.symm ?_ (by omega)
  exact(ho.mono (S':=fun b=>M.next≤b) fun b h=>by omega).Ef fun b h _=>by omega
 have h:i<css.length:=of_decide_eq_true h
 have hw3:=hw2.keep k3 (by simp)
 obtain⟨bb,oo,ds,_,_,hidx,hld,cv,rfl,hcv,hcap⟩:=bE.at hw3 1 (i:Int) h
 have c0:M3.cell bb oo=some cv:=qH hld rfl
 rw[hidx,bM,c0]
 refine⟨_,rfl, ?_⟩
 rw[List.drop_eq_getElem_cons h,gG] at he
 rcases hcs _ (List.getElem_mem h) with hbad | ⟨hne,YR,hsub⟩
 ·simp at hbad
 generalize css[i]=c at *
 refine hd ((k02.trans k3).base.trans hM) hcv hcap hne (by omega) (fun x hx=>(hall x (hsub x hx)).1.mono (by omega)) ?_ ?_
 rotate_left 1
 ·intro M4 k e k4 hcd h0
  rw[hcd] at he
  dsimp only at he
  rw[← he] at hE
  rw[bH,bK,iK,aG]
  refine zv (b:=0) 3 rfl rfl _ rfl rfl rfl fun M5 k5 n5 h5=>?_
  rw[dh,show(e != 0)=true by simpa using h0,dW]
  exact hE M5 k e (((k02.trans k3).trans k4).trans k5) rfl h0
 intro M4 fv cd k4 hcd hfv
 rw[hcd] at he
 dsimp only at he
 have hf1:oneCell fv=true:=dC.one (Own.vR hfv)
 have V7:([St cd.1,fv,N .i64 cd.2.2] : List AV).all oneCell=true:=by simp[eZ,hf1]
 have n4:=k4.next
 have hfb:=Own.blk hfv
 rw[bH,bK,iK,aG]
 refine zv (b:=0) 3 rfl rfl _ rfl V7 rfl fun M5 k5 n5 h5=>?_
 rw[dh,show((0:Int) != 0)=false from rfl,dS,aO (n:=3) h5 rfl,jV (x:=.agg [St cd.1,fv,N .i64 cd.2.2]) (size:=3) rfl V7 rfl,aG]
 have k45:=k4.trans k5
 let S' : Nat→Prop:=fun b=>M2.next≤b∧b<M5.next∧b ∉ aH o
 have ho5:fB GX M5 M2.next TC o acc S':=(ho.keep k45 (by simp) (by simp)).mono fun b h=>⟨h.1,by omega,h.2.2⟩
 have hel:GX.rel M5 [St cd.1,fv,N .i64 cd.2.2] cd S':=⟨fv,rfl,bE.Zx (dC.keep (Own.vR hfv) k5 (by simp)) fun b hb=>⟨by have:=(hfb b hb).1; omega,by have:=(hfb b hb).2; omega,fun hbo=>by have:=(hfb b hb).1; have:=(hob b hbo).2; omega⟩⟩
 refine fB.app (R:=GX) ho5 hel (by omega) (by decide) (fun b hb h=>h.2.2 hb) (fun b h=>h.2.1) (by omega) (by omega) ?_
 intro o' M6 o6 k6 n6 _ hd6
 rw[add1 (by omega)]
 refine hnext _ _ _ (by omega) ⟨i + 1,o',acc++[cd],rfl,rfl,by omega,by simp[hal],(k3.trans k45).fK k6 fun c hc=>.inl (hob c hc).1, ?_,he⟩
 exact o6.mono fun b h=>⟨h.1,by have:=h.2.1; omega,fun hb=>hd6 b hb h⟩
theorem Gj {cs:List UInt8} {ci cv cq:ak} (hcs:Asc cs) (hl:cs.length≤1000) (hi:qp ci) (hv:Aa cv) : Af cs fun args M Q=>∃ a0 a1,args=[a0,a1]∧jF ci cv cq a0 a1 M Q:=by
 intro M r Q hr hQ
 refine⟨_,_,rfl, ?_⟩
 unfold jF
 simp only[dR,dK,oI]
 by_cases h1:r<128
 ·have e1:decide ((r:Int)<128)=true:=by simp; omega
  simp only[go_sem,decide_true,e1]
  have:N .u8 (IntKind.wrap .u8 (r:Int))=By (UInt8.ofNat r):=by
   have h2:IntKind.wrap .u8 (r:Int)=(r:Int):=by unfold IntKind.wrap; simp[IntKind.bits,IntKind.signed]; omega
   rw[h2]; simp[By]; omega
  rw[this]
  refine hi ?_
  have:=hQ M (ae.refl _ _)
  rw[DR,if_pos h1] at this
  exact this
 have hm:DR cs r=-1:=by rw[DR,if_neg h1]
 rw[hm] at hQ
 have e1:decide ((r:Int)<128)=false:=by simp; omega
 simp only[go_sem,decide_true,e1]
 refine⟨fun h2=>?_,fun h2=>?_⟩
 ·refine⟨cs,rfl, ?_⟩
  simp only[go_sem]
  refine aP (fun m ys M3=>∃ pos:Nat,m=cs.length - pos∧ys=[]∧M3.heap M.next=some (.gP cs pos)∧ae [] M M3∧M.next<M3.next) _
   ⟨0,rfl,rfl,RM.aS _,(ae.refl _ _).push _,by simp[RM.push]⟩ ?_
  rintro next m ys M3 hnext ⟨pos,rfl,rfl,hh,hk,hlt⟩
  refine⟨_,_,_,rfl,hh, ?_⟩
  split
  ·rename_i hp
   rcases vM hp with⟨d1,d2⟩ | ⟨d1,_⟩
   ·rw[d2]
    simp only[go_sem]
    have e3:((bt cs pos:Int) == 65533)=false:=by simp; omega
    simp only[e3]
    refine⟨fun h=>by simp at h,fun _=>hnext _ _ _ (by omega) ⟨pos + 1,rfl,rfl,RM.kN _ _,hk.put _ (.inl (Nat.le_refl _)),by simpa [RM.nZ] using hlt⟩⟩
   ·have:=hcs.bt hp; omega
  ·simp only[go_sem]
   exact hQ M3 hk
 ·refine hv fun b=>?_
  cases b with
  | false=>simp only[go_sem]; exact hQ M (ae.refl _ _)
  | true =>
    simp only[go_sem]
    obtain⟨a,x,hax,hx,ha1,ha2⟩:=NG (r:=r) (by omega)
    rw[hax]
    have w1:IntKind.wrap .i64 (((a++[x]).length:Int) - 1)=((a.length:Nat) : Int):=by simp; rw[A8 (by omega) (by omega)]
    have hxn:x ∉ cs:=fun h=>by have:=hcs x h; omega
    rw[w1]
    refine aP (fun m ys M3=>M3=M∧∃ y,ys=[N .i64 (a.length:Int),y]) 0 ⟨rfl,_,rfl⟩ ?_
    rintro next m ys M3 hnext ⟨rfl,y,rfl⟩
    simp only[go_sem]
    refine⟨fun h3=>?_,fun h3=>hQ M3 (ae.refl _ _)⟩
    have h3:a.length<cs.length:=by simpa using h3
    have hbt:=hcs.bt h3
    refine Aw ?_
    have hla:(a++[x])[a.length]?=some x:=by simp
    refine⟨_,List.getElem?_eq_getElem h3,x,hla,fun _=>?_,fun hne=>?_⟩
    ·rw[show IntKind.wrap .i64 ((a.length:Int) + 1)=((a.length + 1:Nat) : Int) by rw[A8 (by omega) (by omega)]; omega]
     rw[bF (by omega)]
     simp only[go_sem]
     refine⟨x,hla,hi ?_⟩
     rw[J8 (fun h=>hxn (List.mem_of_mem_drop h))]
     simp only[go_sem,show decide ((-1:Int)<0)=true from rfl]
     exact hQ M3 (ae.refl _ _)
    ·rw[Km h3] at hne
     have:((bt cs a.length:Int) != (x.toNat:Int))=true:=by simp; omega
     rw[this] at hne; cases hne
theorem Np {x:UInt8} {g:Nat} {ci xx c1 c2:ak} (hi:qp ci) : Hl x fun args M Q=>∃ a0 a1,args=[a0,a1]∧fG ci g xx c1 c2 a0 a1 M Q:=by
 intro M s Q hQ
 refine⟨_,_,rfl, ?_⟩
 unfold fG
 rw[bA,dD,show((([x] : List UInt8).length:Int) == 0)=false from rfl]
 simp only[dR]
 by_cases h:[x]=s
 ·subst h
  have:Lib.indexByte [x] x=0:=by simp[Lib.indexByte]
  rw[this] at hQ
  simp only[go_sem,beq_self_eq_true]
  exact hQ
 ·have h' : (([x] : List UInt8) == s)=false:=by simp[h]
  simp only[go_sem,h']
  exact⟨fun _=>⟨by omega,x,rfl,hi hQ⟩,fun h=>absurd h (by decide)⟩
def VT (B:Base) (c:ak) : Prop:=∀ {M:RM} {s:Str} {Q:aj},M.base=B→s≠[]→s.length≤1000000→Q (.tup [N .i32 ((dec s).1:Int),N .i64 (rs s:Int)]) M→c [St s] M Q
def TQ (B:Base) (c:ak) : Prop:=(∀ {M:RM} {y:UInt8} {Q:aj},M.base=B→y∈df→Q (N .i32 ((y.toNat:Int) - 32)) M→c [N .i32 (y.toNat:Int)] M Q) ∧
 ∀ {M:RM} {y:UInt8} {Q:aj},M.base=B→y∈df→Q (N .i32 (y.toNat:Int)) M→c [N .i32 ((y.toNat:Int) - 32)] M Q
theorem letter {y:UInt8} (h:y∈df) : 97≤y.toNat∧y.toNat≤122:=by
 have:df.all (fun y=>decide (97≤y.toNat) && decide (y.toNat≤122))=true:=by decide
 have:=List.all_eq_true.1 this y h
 simpa using this
theorem Xh:∀ x:Fin 256,∀ y∈df,decide (FW .u8 (x.val:Int) (y.toNat:Int) ≥ 128)=decide (128≤x.val):=by decide +kernel
theorem Uk {c y:UInt8} (hy:y∈df) (h:128≤c.toNat) : bW c≠y:=by
 have:=letter hy
 unfold bW
 rw[if_neg (by omega)]
 intro e; rw[e] at h; omega
theorem add32 {c:UInt8} (h:c.toNat≤90) : (c + 32).toNat=c.toNat + 32:=by
 rw[UInt8.toNat_add,show(32:UInt8).toNat=32 from rfl,Nat.mod_eq_of_lt (by omega)]
theorem Hz {c y:UInt8} (hy:y∈df) : bW c=y↔c=y∨(65≤c.toNat∧c.toNat≤90∧y.toNat=c.toNat + 32):=by
 have hl:=letter hy
 unfold bW
 split
 ·rename_i h
  constructor
  ·intro e
   right
   refine⟨h.1,h.2, ?_⟩
   rw[← e]; first | exact add32 h.2 | (rw[UInt8.toNat_ofNat',Nat.mod_eq_of_lt (by omega)])
  ·rintro(rfl | ⟨_,_,e⟩)
   ·omega
   ·apply UInt8.toNat_inj.1
    first | (rw[add32 h.2,e]) | (rw[UInt8.toNat_ofNat',Nat.mod_eq_of_lt (by omega),e])
 ·rename_i h
  constructor
  ·exact fun e=>.inl e
  ·rintro(rfl | ⟨h1,h2,_⟩)
   ·rfl
   ·exact absurd ⟨h1,h2⟩ h
theorem Jb {c:UInt8} {r:Str} (h:c.toNat<128) : dec (c :: r)=(c.toNat,1):=by
 unfold dec
 have hb:bt (c :: r) 0=c.toNat:=rfl
 rw[hb]
 simp[Lib.decodeN,h]
theorem aa7 {a b:Nat} {K:AV→Prop} : Ia false (N .i64 (a:Int)) (N .i64 (b:Int)) K=K (N .i64 ((min a b:Nat) : Int)):=by
 rw[XO]
 have:(if false=true then(if (b:Int) > a then(b:Int) else a) else(if (b:Int)<a then(b:Int) else a))=((min a b:Nat) : Int):=by
  rw[if_neg (by simp)]; split <;> omega
 rw[this]
theorem Oc {B:Base} {cd cs:ak} (hd:VT B cd) (hs:TQ B cs) : Hr B fun args M Q=>∃ a0 a1,args=[a0,a1]∧mg cd cs a0 a1 M Q:=by
 intro M s Q hM hl hQ
 refine⟨_,_,rfl, ?_⟩
 unfold mg
 simp only[dR,dK]
 rw[bA,bA,aa7,show df.length=5 from rfl]
 have hno:(∃ i,i<s.length∧∃ h:i<5,bW (s.getD i 0)≠df.getD i 0)→∀ M',ae [] M M'→Q (Bo false) M':=by
  rintro⟨i,h1,h2,h3⟩ M' k'
  refine hQ M' false k' ?_
  rw[Bool.false_and]
  refine(decide_eq_false fun e=>h3 ?_).symm
  have:=congrArg (fun l:Str=>l.getD i 0) e
  simp only[List.getD_eq_getElem?_getD,List.getElem?_map,List.getElem?_eq_getElem h1,Option.map_some,Option.getD_some] at this ⊢
  exact this
 refine aP (fun m ys M1=>∃ i:Nat,m=5 - i∧ys=[N .i64 (i:Int)]∧i≤min s.length 5∧M1=M∧(s.take i).map bW=df.take i) _
  ⟨0,rfl,rfl,Nat.zero_le _,rfl,rfl⟩ ?_
 rintro next m ys M1 hnext ⟨i,rfl,rfl,hi,rfl,he⟩
 dsimp only[ag]
 rw[kJ]
 refine aY (fun h=>?_) (fun h=>?_)
 rotate_left 1
 ·have h:¬ i<min s.length 5:=of_decide_eq_false h
  rw[bA,bA,show df.length=5 from rfl,dD]
  have hi:i=min s.length 5:=by omega
  refine hQ _ _ (ae.refl _ _) ?_
  by_cases h5:s.length=5
  ·have:i=5:=by omega
   subst this
   have e1:((s.length:Int) == (5:Nat))=true:=by simp[h5]
   rw[e1,decide_eq_true h5]
   rw[List.take_of_length_le (by omega),show df.take 5=df from rfl] at he
   rw[decide_eq_true he]; rfl
  ·rw[decide_eq_false h5,Bool.and_false]
   refine(decide_eq_false fun e=>h5 ?_).symm
   have:=congrArg List.length e
   simpa using this
 have h:i<min s.length 5:=of_decide_eq_true h
 have h1:i<s.length:=by omega
 have h2:i<df.length:=by show i<5; omega
 have hy:df[i]∈df:=List.getElem_mem h2
 have hgs:s.getD i 0=s[i]:=by rw[List.getD_eq_getElem?_getD,List.getElem?_eq_getElem h1]; rfl
 have hgt:df.getD i 0=df[i]:=by rw[List.getD_eq_getElem?_getD,List.getElem?_eq_getElem h2]; rfl
 have hne:bW s[i]≠df[i]→∀ M',ae [] M1 M'→Q (Bo false) M':=fun hn=>hno ⟨i,h1,h2,by rw[hgs,hgt]; exact hn⟩
 have hst:bW s[i]=df[i]→(s.take (i + 1)).map bW=df.take (i + 1):=by
  intro e
  rw[List.take_succ_eq_append_getElem h1,List.take_succ_eq_append_getElem h2,List.map_append,he,List.map_singleton,e]
 have hdt:df.drop i=df[i] :: df.drop (i + 1):=List.drop_eq_getElem_cons h2
 have hds:s.drop i=s[i] :: s.drop (i + 1):=List.drop_eq_getElem_cons h1
 refine bO (fun ys M'=>M'=M1∧bW s[i]=df[i]) ?_ ?_
 ·rintro ys M' ⟨rfl,e⟩
  rw[add1 (by omega)]
  exact hnext _ _ _ (by omega) ⟨i + 1,rfl,rfl,by omega,rfl,hst e⟩
 intro J hJ
 rw[uo h1,uo h2,By,By,jI,fM]
 generalize s[i]=x at *
 generalize df[i]=y at *
 have hor:=Xh ⟨x.toNat,x.toNat_lt⟩ y hy
 dsimp only at hor
 rw[hor]
 have hly:=letter hy
 refine aY (fun hc=>?_) (fun hc=>?_)
 ·have hc:128≤x.toNat:=of_decide_eq_true hc
  have hn:=hne (Uk hy hc)
  rw[bF (by omega),dM,bF (by omega),dM,hds,hdt]
  refine⟨_,rfl, ?_⟩
  dsimp only
  rw[aG]
  refine aP (fun m ys M2=>ys=[St (y :: df.drop (i + 1))]∧M2=M1.push (.gP (x :: s.drop (i + 1)) 0)) 0 ⟨rfl,rfl⟩ ?_
  rintro AP m ys M2 jU ⟨rfl,rfl⟩
  dsimp only[ag]
  refine⟨_,_,_,rfl,RM.aS _, ?_⟩
  rw[if_pos (by simp)]
  rcases vM (s:=x :: s.drop (i + 1)) (i:=0) (by simp) with⟨d1,_⟩ | ⟨_,d2,d3,_,_⟩
  ·have:bt (x :: s.drop (i + 1)) 0=x.toNat:=rfl
   omega
  generalize Utf8.decode ⟨⟨x :: s.drop (i + 1)⟩⟩ 0=rr at *
  obtain⟨r,n⟩:=rr
  dsimp only at d2 d3 ⊢
  have k2:ae [] M1 ((M1.push (.gP (x :: s.drop (i + 1)) 0)).put M1.next (.gP (x :: s.drop (i + 1)) (0 + n))):=((ae.refl _ _).push _).put _ (.inl (Nat.le_refl _))
  generalize (M1.push (.gP (x :: s.drop (i + 1)) 0)).put M1.next (.gP (x :: s.drop (i + 1)) (0 + n))=M2 at *
  rw[bH,dW,iK,bA,dD,show(((y :: df.drop (i + 1)).length:Int) == 0)=false by simp; omega,dS]
  have hB2:M2.base=B:=k2.base.trans hM
  refine hd hB2 (by simp) (by simp; omega) ?_
  have hrs:rs (y :: df.drop (i + 1))=1:=by rw[rs,if_neg (by simp),Jb (by omega)]
  rw[Jb (by omega),hrs,bH,bK,bF (by simp),dM,dD]
  have e1:((y.toNat:Int) == (r:Int))=false:=by simp; omega
  rw[e1,dS]
  refine bO (fun ys M'=>M'=M2∧ys=[N .i32 (y.toNat:Int),N .i32 (r:Int)]) ?_ ?_
  rotate_left 1
  ·intro J2 hJ2
   rw[ku,show decide ((y.toNat:Int)<(r:Int))=true from decide_eq_true (by omega),dW]
   exact hJ2 _ _ ⟨rfl,rfl⟩
  rintro _ M3 ⟨rfl,rfl⟩
  dsimp only[ag]
  rw[ku,show decide ((r:Int)<128)=false from decide_eq_false (by omega),dS]
  refine hs.1 hB2 hy ?_
  refine aP (fun m ys M4=>M4=M3∧((m=1∧ys=[N .i32 ((y.toNat:Int) - 32)])∨(m=0∧ys=[N .i32 (y.toNat:Int)]))) 1 ⟨rfl,.inl ⟨rfl,rfl⟩⟩ ?_
  rintro ZR m ys M4 LC ⟨rfl,hys⟩
  rcases hys with⟨rfl,rfl⟩ | ⟨rfl,rfl⟩
  ·dsimp only[ag]
   rw[dh,show(((y.toNat:Int) - 32) != (y.toNat:Int))=true by simp; omega]
   simp only[rq]
   rw[ku,show decide (((y.toNat:Int) - 32)<(r:Int))=true from decide_eq_true (by omega),fq,dW]
   exact hs.2 hB2 hy (LC _ _ _ (by omega) ⟨rfl,.inr ⟨rfl,rfl⟩⟩)
  ·dsimp only[ag]
   rw[dh,show((y.toNat:Int) != (y.toNat:Int))=false by simp]
   simp only[wJ,iw,dS]
   rw[dD,e1,dS]
   exact hn _ k2
 ·have hc:x.toNat<128:=by have:=of_decide_eq_false hc; omega
  rw[dD]
  refine aY (fun hq=>?_) (fun hq=>?_)
  ·have hq:y=x:=by
    have:(y.toNat:Int)=(x.toNat:Int):=by simpa using hq
    exact UInt8.toNat_inj.1 (by omega)
   exact hJ _ _ ⟨rfl,(Hz hy).2 (.inl hq.symm)⟩
  have hxy:x≠y:=fun e=>by rw[e] at hq; simp at hq
  refine bO (fun ys M'=>M'=M1∧ys=[N .u8 (min (x.toNat:Int) y.toNat),N .u8 (max (x.toNat:Int) y.toNat)]) ?_ ?_
  rotate_left 1
  ·intro J2 hJ2
   rw[ku]
   refine aY (fun h=>?_) (fun h=>?_)
   ·have h:=of_decide_eq_true h
    exact hJ2 _ _ ⟨rfl,by congr 2 <;> first | omega | (congr 1; omega) | (congr 2; omega)⟩
   ·have h:=of_decide_eq_false h
    exact hJ2 _ _ ⟨rfl,by congr 2 <;> first | omega | (congr 1; omega) | (congr 2; omega)⟩
  rintro _ M2 ⟨rfl,rfl⟩
  dsimp only[ag]
  have hxn:x.toNat≠y.toNat:=fun e=>hxy (UInt8.toNat_inj.1 e)
  have aa3:¬ (65≤x.toNat∧x.toNat≤90∧y.toNat=x.toNat + 32)→∀ M',ae [] M2 M'→Q (Bo false) M':=fun hh=>hne (fun e=>by
   rcases(Hz hy).1 e with e | e
   ·exact hxy e
   ·exact hh e)
  rw[oI]
  refine wC (p:=decide (min (x.toNat:Int) y.toNat≤90)) (fun hc kk hk=>?_) ?_
  ·rw[oI]; exact hk
  refine wC (p:=decide ((max (x.toNat:Int) y.toNat)=IntKind.wrap .u8 (IntKind.wrap .u8 (min (x.toNat:Int) y.toNat + 97) - 65))) (fun hc kk hk=>?_) ?_
  ·rw[eH,mY,dD]
   have:((max (x.toNat:Int) y.toNat) == IntKind.wrap .u8 (IntKind.wrap .u8 (min (x.toNat:Int) y.toNat + 97) - 65))=decide ((max (x.toNat:Int) y.toNat)=IntKind.wrap .u8 (IntKind.wrap .u8 (min (x.toNat:Int) y.toNat + 97) - 65)):=by
    by_cases h:(max (x.toNat:Int) y.toNat)=IntKind.wrap .u8 (IntKind.wrap .u8 (min (x.toNat:Int) y.toNat + 97) - 65) <;> simp[h]
   rw[this] at *
   exact hk
  refine aY (fun h=>?_) (fun h=>?_)
  ·simp only[Bool.and_eq_true,decide_eq_true_eq] at h
   obtain⟨⟨a1,a2⟩,a3⟩:=h
   have hw:IntKind.wrap .u8 (IntKind.wrap .u8 (min (x.toNat:Int) y.toNat + 97) - 65)=min (x.toNat:Int) y.toNat + 32:=by
    rw[IntKind.wrap_u8,IntKind.wrap_u8]; omega
   rw[hw] at a3
   exact hJ _ _ ⟨rfl,(Hz hy).2 (.inr (by omega))⟩
  ·refine aa3 (fun⟨b1,b2,b3⟩=>?_) _ (ae.refl _ _)
   have hw:IntKind.wrap .u8 (IntKind.wrap .u8 (min (x.toNat:Int) y.toNat + 97) - 65)=min (x.toNat:Int) y.toNat + 32:=by
    rw[IntKind.wrap_u8,IntKind.wrap_u8]; omega
   rw[hw] at h
   simp only[Bool.and_eq_false_iff,decide_eq_false_iff_not] at h
   omega
end Go.Ab.Vc
set_option maxRecDepth 100000
namespace Go.Ab.Vc
open Go Go.Ab Go.Ab.Vl
abbrev kT1:Str:=[66,69,71,73,78,58,86,67,65,82,68,10,86,69,82,83,73,79,78,58,52,46,48,10,70,78,58,65,110,110,92,44,32,66,10,84,69,76,59,84,89,80,69,61,104,111,109,101,58,49,10,84,69,76,59,84,89,80,69,61,104,111,109,101,58,50,10,69,78,68,58,86,67,65,82,68,10]
abbrev VV:Str:=[66,69,71,73,78,58,86,67,65,82,68,13,10,86,69,82,83,73,79,78,58,52,46,48,13,10,70,78,58,65,110,110,92,44,32,66,13,10,84,69,76,59,84,89,80,69,61,104,111,109,101,58,49,13,10,84,69,76,59,84,89,80,69,61,104,111,109,101,58,50,13,10,69,78,68,58,86,67,65,82,68,13,10]
abbrev kF:List Fd:=[([102,110],[65,110,110,44,32,66]),([116,101,108,59,116,121,112,101,61,104,111,109,101],[49]),([116,101,108,59,116,121,112,101,61,104,111,109,101,35,50],[50])]
abbrev U5:Str:=[102,110,0,65,110,110,44,32,66,0,116,101,108,59,116,121,112,101,61,104,111,109,101,0,49,0,116,101,108,59,116,121,112,101,61,104,111,109,101,35,50,0,50,0]
abbrev kP:Fd:=([116,101,108,59,116,121,112,101,61,104,111,109,101,35,50],[50])
abbrev kL:Ln:=⟨[],[116,101,108],[([116,121,112,101],[[104,111,109,101]])],[50]⟩
theorem XR (h:Str→Str) : mM h kT1=.ok [([99,45]++(h U5).take 16,kF,1)]:=by kernel_rfl
theorem ZB:wZ kF=some VV:=by kernel_rfl
theorem XM (h:Str→Str) : mM h VV=.ok [([99,45]++(h U5).take 16,kF,1)]:=by kernel_rfl
theorem Ye:bY kP=(kL,1,true):=by kernel_rfl
theorem Xx:jC kL 1=(kP,true):=by kernel_rfl
theorem YE:qQ kP=true:=by kernel_rfl
end Go.Ab.Vc
set_option maxRecDepth 10000
namespace Go.Ab.Vc
open Go Go.Ab Go.Ab.Vl Go.Ab.Sm
theorem mo {M:RM} {c p:Bool} {f:KR→Prop} {G:AV→RM→Prop} (hf:c=true→∀ k:KR,k (Bo p) M none→f k) (hG:G (Bo (c && p)) M) :
  az (Bo c) true f (fun k=>k .undef M none) (fun t M' b=>aD (Bo c) t (Bo false) fun u=>G u M'):=by
 cases c with
 | false=>rw[oN]; dsimp only; rw[Go.Ab.iw]; exact hG
 | true=>rw[mK]; exact hf rfl _ (by rw[Go.Ab.fq]; exact hG)
theorem Wz {M:RM} {v:AV} {cs:List Cd} {S:Nat→Prop} (h:bE GX M v cs S) {i:Nat} (hi:i<cs.length) :
  ∃ w,bE nH.jQ M w cs[i].2.1 S∧(∀ K:AV→Prop,(aW v (N .i64 (i:Int)) 3 fun p=>aK M p 3 K)=K (.agg [St cs[i].1,w,N .i64 cs[i].2.2])) ∧
    (∀ K:AV→Prop,(aW v (N .i64 (i:Int)) 3 fun p=>aB p 0 fun q=>ah M q K)=K (St cs[i].1)) ∧
    (∀ K:AV→Prop,(aW v (N .i64 (i:Int)) 3 fun p=>aB p 1 fun q=>ah M q K)=K w) ∧
    (∀ K:AV→Prop,(aW v (N .i64 (i:Int)) 3 fun p=>aB p 2 fun q=>ah M q K)=K (N .i64 cs[i].2.2)):=by
 obtain⟨b,o,ds,hb,hbm,hidx,hld,w,rfl,hw⟩:=bE.at h 3 (i:Int) hi
 have c0:M.cell b (o + 0)=some (St cs[i].1):=dB hld (j:=0) rfl
 have c1:M.cell b (o + 1)=some w:=dB hld (j:=1) rfl
 have c2:M.cell b (o + 2)=some (N .i64 cs[i].2.2):=dB hld (j:=2) rfl
 refine⟨w,hw,fun K=>?_,fun K=>?_,fun K=>?_,fun K=>?_⟩
 ·rw[hidx,rP,hld]; simp
 ·rw[hidx,dP,bM,c0]; simp
 ·rw[hidx,dP,bM,c1]; simp
 ·rw[hidx,dP,bM,c2]; simp
theorem Da {M:RM} {v:AV} {c:Cd} {S:Nat→Prop} (h:bE GX M v [c] S) :
  ∃ w,bE nH.jQ M w c.2.1 S∧(∀ K:AV→Prop,(aW v (N .i64 (0:Int)) 3 fun p=>aK M p 3 K)=K (.agg [St c.1,w,N .i64 c.2.2])) ∧
    (∀ K:AV→Prop,(aW v (N .i64 (0:Int)) 3 fun p=>aB p 0 fun q=>ah M q K)=K (St c.1)) ∧
    (∀ K:AV→Prop,(aW v (N .i64 (0:Int)) 3 fun p=>aB p 1 fun q=>ah M q K)=K w):=by
 obtain⟨w,h1,h2,h3,h4,_⟩:=Wz h (i:=0) (by simp)
 exact⟨w,h1,h2,h3,h4⟩
theorem X4 {M:RM} {v:AV} {xs:List Fd} (h:Sl nH M v xs) {i:Nat} (hi:i<xs.length) :
  (∀ K:AV→Prop,(aW v (N .i64 (i:Int)) 2 fun p=>aB p 0 fun q=>ah M q K)=K (St xs[i].1))∧(∀ K:AV→Prop,(aW v (N .i64 (i:Int)) 2 fun p=>aB p 1 fun q=>ah M q K)=K (St xs[i].2)):=by
 obtain⟨b,o,hb,_,hidx,hld⟩:=Sl.elem h hi
 have c0:M.cell b (o + 0)=some (St xs[i].1):=dB hld (j:=0) rfl
 have c1:M.cell b (o + 1)=some (St xs[i].2):=dB hld (j:=1) rfl
 refine⟨fun K=>?_,fun K=>?_⟩
 ·rw[show(2:Nat)=nH.size from rfl,hidx,dP,bM,c0]; simp
 ·rw[show(2:Nat)=nH.size from rfl,hidx,dP,bM,c1]; simp
theorem Ke {B:Base} {c:ak} (h:Ip B c) {M:RM} {s:Str} {Q:aj} {cs:List Cd} (hM:M.base=B) (hs:s.length≤90000) (he:mM Sha.dY s=.ok cs)
  (hQ:∀ M' w,ae [] M M'→bE GX M' w cs (fun b=>M.next≤b)→Q (.tup [w,N .i64 0,N .i64 0]) M') : c [St s] M Q:=by
 refine h hM (by omega) (fun ls hl=>by have:=MU hl; omega) (fun M' w cs' k h1 h2 _=>?_) (fun M' k e _ h1 _=>?_)
 ·rw[he] at h1; cases h1; exact hQ M' w k h2
 ·rw[he] at h1; cases h1
theorem b2 (x y:Str) {K:AV→Prop} (h:K (.agg [St x,St y])) : eT [(St []),(St [])] [(0,1,(St x)),(1,1,(St y))] K:=by
 rw[jk]; exact⟨_,by simp[mH,known,AV.cells,oneCell],h⟩
def Yl (B:Base) (c:ak) : Prop:=∀ {M:RM} {Q:aj},M.base=B→(∀ M',ae [] M M'→Q (Bo true) M')→c [] M Q
theorem n18 (h:Str) (hh:h.length=64) : ([99,45]++h.take 16).length=18:=by simp; omega
set_option maxHeartbeats 1000000 in
theorem PQ {B:Base} {TL TP:Nat} {ci ce cl cf cg:ak} (hi:Ip B ci) (he:PR B ce) (hl:Gq B cl) (hf:GJ B cf) (hg:Kc B cg) : Yl B fun args M Q=>args=[]∧sH ci ce cl TL cf TP cg M Q:=by
 intro M Q hM hQ
 refine⟨rfl, ?_⟩
 unfold sH
 simp only[dR,Ki]
 generalize hct:([99,45]++(Sha.dY U5).take 16:Str)=ct
 have aas:ct.length=18:=by rw[← hct]; exact n18 _ (Sha.I8 _)
 have i1:=XR Sha.dY
 have i2:=XM Sha.dY
 rw[hct] at i1 i2
 refine Ke hi (s:=kT1) hM (by decide) i1 fun M1 v k1 hv=>?_
 rw[bH,bK,iK,dh]
 refine mZ (p:=false) (fun _ kk hk=>by rw[dh]; exact hk) ?_
 refine mZ (p:=false) (fun _ kk hk=>by rw[hv.len,dh]; exact hk) ?_
 obtain⟨w,hw,q3,q0,q1⟩:=Da hv
 have hw:bE nH.jQ M1 w kF _:=hw
 refine mZ (p:=false) (fun _ kk hk=>by rw[q1,hw.len,dh]; exact hk) ?_
 rw[show(((((0:Int) != 0) || false) || false) || false)=false from rfl,dS]
 rw[q3]
 have kFs:∀ p∈kF,p.1.length≤10000000∧p.2.length≤10000000:=by decide
 refine he (ct:=ct) (k1.base.trans hM) hw.sl (by decide) kFs fun M2 k2=>?_
 rw[show wZ kF=some VV from ZB]
 dsimp only
 rw[bH,bK]
 have k02:=k1.trans k2
 refine Ke hi (s:=VV) (k02.base.trans hM) (by decide) i2 fun M3 v2 k3 hv2=>?_
 have k03:=k02.trans k3
 have k13:=k2.trans k3
 have hv3:=hv.keep k13 (by simp)
 obtain⟨w3,hw3,_,_,r1⟩:=Da hv3
 have hw3:bE nH.jQ M3 w3 kF _:=hw3
 rw[bH,bK,iK,r1]
 rw[show(N .i64 (2:Int))=N .i64 ((2:Nat) : Int) from rfl,Kq hw3.sl (i:=2) (by decide)]
 rw[show(kF)[2]=kP from rfl]
 refine hl (p:=kP) (k03.base.trans hM) (by decide) (by decide) fun M4 cs k4 hrel=>?_
 rw[Ye] at hrel ⊢
 dsimp only at hrel ⊢
 rw[if_pos rfl] at hrel ⊢
 obtain⟨pw,rfl,hpw,hall,_⟩:=AB hrel
 rw[bH,bK,aG]
 refine zv (b:=0) 5 rfl rfl _ rfl hall rfl fun M5 k5 n5 h5=>?_
 rw[aO (n:=5) h5 rfl]
 have k05:=(k03.trans k4).trans k5
 have hkL:rQ 1000 kL:=⟨by decide,by decide,by decide,by decide⟩
 refine hf (j:=1) (k05.base.trans hM) (kE (hpw.keep k5 (by simp))) (hkL.mono (by omega)).lb (by have:=hkL.laid; omega) fun M6 k6=>?_
 rw[Xx]
 dsimp only[nU]
 rw[bH,bK,aG]
 refine zv (b:=0) 2 rfl rfl _ rfl rfl rfl fun M7 k7 n7 h7=>?_
 have k07:=(k05.trans k6).trans k7
 have k37:ae [] M3 M7:=((k4.trans k5).trans k6).trans k7
 have h57:=(k6.trans k7).ax h5 (by omega) (by simp)
 have hv7:=hv3.keep k37 (by simp)
 have hv27:=hv2.keep k37 (by simp)
 obtain⟨w7,hw7,_,s0,s1⟩:=Da hv7
 have hw7:bE nH.jQ M7 w7 kF _:=hw7
 obtain⟨x7,hx7,_,t0,t1⟩:=Da hv27
 have hx7:bE nH.jQ M7 x7 kF _:=hx7
 have l0:∀ K:AV→Prop,(aW w7 (N .i64 (0:Int)) 2 fun p=>aK M7 p 2 K)=K (nU ([102,110],[65,110,110,44,32,66])):=fun K=>Kq hw7.sl (i:=0) (by decide)
 have l2:∀ K:AV→Prop,(aW w7 (N .i64 ((2:Nat) : Int)) 2 fun p=>aK M7 p 2 K)=K (nU kP):=fun K=>Kq hw7.sl (i:=2) (by decide)
 rw[s1,l0]
 refine b2 _ _ ?_
 rw[nU,wL (r:=true) rfl rfl (Kk ([102,110],[65,110,110,44,32,66]) ([102,110],[65,110,110,44,32,66]) |>.trans (by simp)),show(true != false)=true from rfl]
 have e0:(N .i64 (0:Int))=N .i64 ((0:Nat) : Int):=rfl
 refine mo (p:=true) (fun _ kk hk=>?_) ?_
 ·rw[s1,l2]
  refine b2 _ _ ?_
  rw[nU,wL (r:=true) rfl rfl ((Kk kP kP).trans (by simp))]; exact hk
 refine mo (p:=true) (fun _ kk hk=>by rw[dD]; exact hk) ?_
 refine mo (p:=true) (fun _ kk hk=>by rw[dD]; exact hk) ?_
 refine mo (p:=true) (fun _ kk hk=>by rw[hv27.len,dD]; exact hk) ?_
 refine mo (p:=true) (fun _ kk hk=>by rw[t1,hx7.len,dD]; exact hk) ?_
 refine mo (p:=true) (fun _ kk hk=>by rw[t0,s0,gy,beq_self_eq_true]; exact hk) ?_
 refine mo (p:=true) (fun _ kk hk=>by rw[s0,bA,dD,show((ct.length:Int) == 18)=true by simp[aas]]; exact hk) ?_
 refine mo (p:=true) (fun _ kk hk=>by rw[dD]; exact hk) ?_
 refine mo (p:=true) (fun _ kk hk=>by rw[aQ,ay h57 rfl,gy]; exact hk) ?_
 refine mo (p:=true) (fun _ kk hk=>hk) ?_
 refine mo (p:=true) (fun _ kk hk=>?_) ?_
 ·rw[aO (n:=2) h7 rfl,s1,l2]
  rw[nU,wL (r:=true) rfl rfl ((Kk kP kP).trans (by simp))]; exact hk
 simp only[Bool.and_self,mK,rq]
 rw[aO (n:=2) h7 rfl]
 refine hg (p:=kP) (k07.base.trans hM) (by decide) (by decide) fun M8 k8=>?_
 rw[fq,YE]
 exact hQ _ (k07.trans k8)
end Go.Ab.Vc
namespace Go.Ab
open Go Go.RowKit
variable {H:Type} {enc:TypeId × Value→H}
end Go.Ab
namespace Go.Ab.Vc
open Go Go.Ab Go.Ab.Vl
def gQ:List Str→Option (List Ln)
 | []=>some []
 | s :: r=>if s=[] then gQ r else if 912<s.length then none else match iy bX s with
   | none=>none
   | some L=>(gQ r).map (L :: ·)
theorem LQ:∀ (l:List (Str × Int)) (acc ls:List Li),gB bX l acc=.ok ls→∃ t,gQ (l.map Prod.fst)=some t∧ls.map Prod.fst=acc.map Prod.fst++t
 | [],acc,ls,h=>by cases h; exact⟨[],rfl,by simp⟩
 | (s,k) :: r,acc,ls,h=>by
   rw[gB] at h
   rw[List.map_cons,gQ]
   dsimp only
   split at h
   ·rename_i h0; rw[if_pos h0]; exact LQ r acc ls h
   ·rename_i h0; rw[if_neg h0]
    split at h
    ·cases h
    ·rename_i h1; rw[if_neg h1]
     cases hL:iy bX s with
     | none=>rw[hL] at h; cases h
     | some L =>
       rw[hL] at h
       obtain⟨t,h2,h3⟩:=LQ r _ ls h
       exact⟨L :: t,by rw[h2]; rfl,by rw[h3]; simp⟩
theorem K4:∀ (l:List (Str × Int)) (acc:List Li) (t:List Ln),gQ (l.map Prod.fst)=some t→∃ ls,gB bX l acc=.ok ls∧ls.map Prod.fst=acc.map Prod.fst++t
 | [],acc,t,h=>by cases h; exact⟨acc,rfl,by simp⟩
 | (s,k) :: r,acc,t,h=>by
   rw[gB]
   rw[List.map_cons,gQ] at h
   dsimp only at h
   split at h
   ·rename_i h0; rw[if_pos h0]; exact K4 r acc t h
   ·rename_i h0; rw[if_neg h0]
    split at h
    ·cases h
    ·rename_i h1; rw[if_neg h1]
     cases hL:iy bX s with
     | none=>rw[hL] at h; cases h
     | some L =>
       rw[hL] at h
       dsimp only at h ⊢
       obtain⟨t',h2,rfl⟩:=Option.map_eq_some_iff.1 h
       obtain⟨ls,h3,h4⟩:=K4 r (acc++[(L,k)]) t' h2
       exact⟨ls,h3,by rw[h4]; simp⟩
theorem yM:∀ (a b:List Str),gQ (a++b)=(gQ a).bind fun x=>(gQ b).map (x ++ ·)
 | [],b=>by cases h:gQ b <;> simp[gQ,h]
 | s :: a,b=>by
   rw[List.cons_append,gQ,gQ]
   split
   ·exact yM a b
   ·split
    ·rfl
    ·cases hL:iy bX s with
     | none=>rfl
     | some L =>
       dsimp only
       rw[yM a b]
       cases gQ a with
       | none=>rfl
       | some x=>cases gQ b <;> rfl
def U (s:Str) : List Str:=(bD [] s).foldl glue []
theorem Lx (s:Str) : (Nv s).map Prod.fst=U s:=by
 unfold Nv U
 rw[List.map_fst_zip,KH]
 have:=Fx (bD [] s) [] [] 1 rfl
 omega
abbrev nn (l:List Li) : List Ln:=l.map Prod.fst
theorem OC {b b' : Int} : ∀ (l l' acc acc' c r:List Li),nn l=nn l'→nn acc=nn acc'→dZ b l acc=.ok (c,r)→∃ c' r',dZ b' l' acc'=.ok (c',r')∧nn c=nn c'∧nn r=nn r'
 | [],l',acc,acc',c,r,h1,h2,h=>by cases h
 | x :: l,l',acc,acc',c,r,h1,h2,h=>by
   cases l' with
   | nil=>simp[nn] at h1
   | cons y l' =>
     simp only[nn,List.map_cons,List.cons.injEq] at h1
     obtain⟨e,h1⟩:=h1
     rw[dZ] at h ⊢
     rw[← e]
     split at h
     ·rename_i h0; rw[if_pos h0]; cases h; exact⟨_,_,rfl,h2,h1⟩
     ·rename_i h0; rw[if_neg h0]
      split at h
      ·cases h
      ·rename_i h3; rw[if_neg h3]
       exact OC l l' _ _ c r h1 (by simp only[nn,List.map_append,List.map_cons,List.map_nil]; rw[show acc.map Prod.fst=acc'.map Prod.fst from h2,e]) h
theorem Pm:∀ (k:Nat) (l l' : List Li) (acc acc' css:List (List Li)),nn l=nn l'→acc.map nn=acc'.map nn→jf k l acc=.ok css→∃ QG,jf k l' acc'=.ok QG∧css.map nn=QG.map nn
 | 0,l,l',acc,acc',css,h1,h2,h=>by cases h; exact⟨acc',rfl,h2⟩
 | k + 1,[],l',acc,acc',css,h1,h2,h=>by
   cases l' with
   | nil=>cases h; exact⟨acc',rfl,h2⟩
   | cons y l'=>simp[nn] at h1
 | k + 1,x :: r,l',acc,acc',css,h1,h2,h=>by
   cases l' with
   | nil=>simp[nn] at h1
   | cons x' r' =>
     simp only[nn,List.map_cons,List.cons.injEq] at h1
     obtain⟨e,h1⟩:=h1
     rw[gF] at h ⊢
     rw[← e]
     split at h
     ·cases h
     ·rename_i h0; rw[if_neg h0]
      cases r with
      | nil=>cases h
      | cons y r =>
        cases r' with
        | nil=>simp at h1
        | cons y' r' =>
          simp only[List.map_cons,List.cons.injEq] at h1
          obtain⟨e2,h1⟩:=h1
          dsimp only at h ⊢
          rw[← e2]
          split at h
          ·cases h
          ·rename_i h3; rw[if_neg h3]
           cases hb:dZ x.2 r [x] with
           | error e=>rw[hb] at h; cases h
           | ok p =>
             obtain⟨c,q⟩:=p
             rw[hb] at h
             obtain⟨c',q',hb',g1,g2⟩:=OC (b':=x'.2) r r' [x] [x'] c q h1 (by simp[nn,e]) hb
             rw[hb']
             exact Pm k q q' _ _ css g2 (by simp only[List.map_append,List.map_cons,List.map_nil]; rw[h2,g1]) h
theorem MH {b:Int} : ∀ (l acc c r m:List Li),dZ b l acc=.ok (c,r)→dZ b (l++m) acc=.ok (c,r++m)
 | [],acc,c,r,m,h=>by cases h
 | x :: l,acc,c,r,m,h=>by
   rw[List.cons_append,dZ] at *
   split at h
   ·rename_i h0; rw[if_pos h0]; cases h; rfl
   ·rename_i h0; rw[if_neg h0]
    split at h
    ·cases h
    ·rename_i h3; rw[if_neg h3]; exact MH l _ c r m h
theorem Lj:∀ (n:Nat) (l m:List Li) (acc css:List (List Li)) (k:Nat),l.length≤n→jf (l.length + 1) l acc=.ok css→l.length + m.length<k→jf k (l++m) acc=jf (m.length + 1) m css
 | n,[],m,acc,css,k,hn,h,hk=>by
   cases h
   exact wK m.length m _ _ _ (Nat.le_refl _) (by simpa using hk) (by omega)
 | 0,x :: r,m,acc,css,k,hn,h,hk=>by simp at hn
 | n + 1,x :: r,m,acc,css,k,hn,h,hk=>by
   obtain⟨k,rfl⟩ : ∃ j,k=j + 1:=⟨k - 1,by simp at hk; omega⟩
   rw[List.cons_append,gF]
   rw[gF] at h
   split at h
   ·cases h
   ·rename_i h0; rw[if_neg h0]
    cases r with
    | nil=>cases h
    | cons y r =>
      dsimp only[List.cons_append] at h ⊢
      split at h
      ·cases h
      ·rename_i h3; rw[if_neg h3]
       cases hb:dZ x.2 r [x] with
       | error e=>rw[hb] at h; cases h
       | ok p =>
         obtain⟨c,q⟩:=p
         rw[hb] at h
         have hq:=qy _ _ _ _ hb
         rw[MH _ _ _ _ m hb]
         dsimp only at h ⊢
         simp only[List.length_cons] at hn hk
         rw[wK q.length q _ _ (q.length + 1) (Nat.le_refl _) (by simp; omega) (by omega)] at h
         exact Lj n q m _ css k (by omega) h (by omega)
theorem UC:∀ (k:Nat) (l:List Li) (acc css:List (List Li)),jf k l []=.ok css→jf k l acc=.ok (acc++css):=by
 have gen:∀ (k:Nat) (l:List Li) (a b css:List (List Li)),jf k l b=.ok css→jf k l (a++b)=.ok (a++css):=by
  intro k
  induction k with
  | zero=>intro l a b css h; cases h; rfl
  | succ k ih =>
    intro l a b css h
    cases l with
    | nil=>cases h; rfl
    | cons x r =>
      rw[gF] at h ⊢
      split at h
      ·cases h
      ·rename_i h0; rw[if_neg h0]
       cases r with
       | nil=>cases h
       | cons y r =>
         dsimp only at h ⊢
         split at h
         ·cases h
         ·rename_i h3; rw[if_neg h3]
          cases hb:dZ x.2 r [x] with
          | error e=>rw[hb] at h; cases h
          | ok p =>
            obtain⟨c,q⟩:=p
            rw[hb] at h
            dsimp only at h ⊢
            rw[List.append_assoc]
            exact ih q a (b++[c]) css h
 intro k l acc css h
 have:=gen k l acc [] css h
 simpa using this
theorem OG:∀ (l l' : List Li) (ns:List Str) (acc fs:List Fd),nn l=nn l'→mr l ns acc=.ok fs→mr l' ns acc=.ok fs
 | [],l',ns,acc,fs,h1,h=>by
   cases l' with
   | nil=>exact h
   | cons y l'=>simp[nn] at h1
 | x :: l,l',ns,acc,fs,h1,h=>by
   cases l' with
   | nil=>simp[nn] at h1
   | cons y l' =>
     simp only[nn,List.map_cons,List.cons.injEq] at h1
     obtain⟨e,h1⟩:=h1
     rw[mr] at h ⊢
     rw[← e]
     split at h
     ·cases h
     ·rename_i h0; rw[if_neg h0]; exact OG l l' _ _ fs h1 h
theorem Xd (h:Str→Str) (all:Str) : ∀ (l l' : List Li),nn l=nn l'→lS h l all=lS h l' all:=by
 have hf:∀ (l l' : List Li),nn l=nn l'→(l.find? fun x=>decide (x.1.n=xB) && decide (x.1.g=[])).map Prod.fst=(l'.find? fun x=>decide (x.1.n=xB) && decide (x.1.g=[])).map Prod.fst:=by
  intro l
  induction l with
  | nil=>intro l' h; cases l' with
    | nil=>rfl
    | cons y l'=>simp[nn] at h
  | cons x l ih =>
    intro l' h
    cases l' with
    | nil=>simp[nn] at h
    | cons y l' =>
      simp only[nn,List.map_cons,List.cons.injEq] at h
      obtain⟨e,h⟩:=h
      rw[List.find?_cons,List.find?_cons,← e]
      cases(decide (x.1.n=xB) && decide (x.1.g=[])) with
      | true=>simp[e]
      | false=>exact ih l' h
 intro l l' hl
 have:=hf l l' hl
 unfold lS
 cases h1:l.find? (fun x=>decide (x.1.n=xB) && decide (x.1.g=[])) with
 | none =>
   rw[h1] at this
   cases h2:l'.find? (fun x=>decide (x.1.n=xB) && decide (x.1.g=[])) with
   | none=>rfl
   | some y=>rw[h2] at this; cases this
 | some x =>
   rw[h1] at this
   cases h2:l'.find? (fun x=>decide (x.1.n=xB) && decide (x.1.g=[])) with
   | none=>rw[h2] at this; cases this
   | some y =>
     rw[h2] at this
     simp only[Option.map_some,Option.some.injEq] at this
     dsimp only
     rw[this]
abbrev cc (c:Cd) : Str × List Fd:=(c.1,c.2.1)
theorem Xn (h:Str→Str) (l l' : List Li) (c:Cd) (hl:nn l=nn l') (hc:oq h l=.ok c) : ∃ c',oq h l'=.ok c'∧cc c=cc c':=by
 cases l with
 | nil=>cases hc
 | cons b l =>
   cases l' with
   | nil=>simp[nn] at hl
   | cons b' l' =>
     simp only[nn,List.map_cons,List.cons.injEq] at hl
     obtain⟨e,hl⟩:=hl
     unfold oq at hc ⊢
     dsimp only at hc ⊢
     cases hf:mr l [] [] with
     | error e=>rw[hf] at hc; cases hc
     | ok fs =>
       rw[hf] at hc
       rw[OG l l' [] [] fs hl hf]
       cases hc
       exact⟨_,rfl,by simp only[cc]; rw[Xd h _ l l' hl]⟩
theorem Nj (h:Str→Str) : ∀ (l l' : List (List Li)) (acc acc' cs:List Cd),l.map nn=l'.map nn→acc.map cc=acc'.map cc→gG h l acc=.ok cs→∃ cs',gG h l' acc'=.ok cs'∧cs.map cc=cs'.map cc
 | [],l',acc,acc',cs,h1,h2,hc=>by
   cases l' with
   | nil=>cases hc; exact⟨_,rfl,h2⟩
   | cons y l'=>simp at h1
 | x :: l,l',acc,acc',cs,h1,h2,hc=>by
   cases l' with
   | nil=>simp at h1
   | cons y l' =>
     simp only[List.map_cons,List.cons.injEq] at h1
     obtain⟨e,h1⟩:=h1
     rw[gG] at hc ⊢
     cases hx:oq h x with
     | error e=>rw[hx] at hc; cases hc
     | ok c =>
       rw[hx] at hc
       obtain⟨c',g1,g2⟩:=Xn h x y c e hx
       rw[g1]
       exact Nj h l l' _ _ cs h1 (by simp only[List.map_append,List.map_cons,List.map_nil]; rw[h2,g2]) hc
theorem JL (h:Str→Str) : ∀ (a b:List (List Li)) (acc x y:List Cd),gG h a acc=.ok x→gG h b []=.ok y→gG h (a++b) acc=.ok (x++y)
 | [],b,acc,x,y,h1,h2=>by
   cases h1
   have gen:∀ (b:List (List Li)) (u v y:List Cd),gG h b v=.ok y→gG h b (u++v)=.ok (u++y):=by
    intro b
    induction b with
    | nil=>intro u v y hh; cases hh; rfl
    | cons c b ih =>
      intro u v y hh
      rw[gG] at hh ⊢
      cases hx:oq h c with
      | error e=>rw[hx] at hh; cases hh
      | ok d=>rw[hx] at hh; dsimp only at hh ⊢; rw[List.append_assoc]; exact ih u _ y hh
   have:=gen b acc [] y h2
   simpa using this
 | c :: a,b,acc,x,y,h1,h2=>by
   rw[List.cons_append,gG] at *
   cases hx:oq h c with
   | error e=>rw[hx] at h1; cases h1
   | ok d=>rw[hx] at h1; exact JL h a b _ x y h1 h2
theorem Mj:∀ (k:Nat) (l:List Li) (acc css:List (List Li)),jf k l acc=.ok css→css.length≤acc.length + l.length
 | 0,l,acc,css,h=>by cases h; omega
 | k + 1,[],acc,css,h=>by cases h; simp
 | k + 1,x :: r,acc,css,h=>by
   rw[gF] at h
   split at h
   ·cases h
   ·cases r with
    | nil=>cases h
    | cons y r =>
      dsimp only at h
      split at h
      ·cases h
      ·cases hb:dZ x.2 r [x] with
       | error e=>rw[hb] at h; cases h
       | ok p =>
         obtain⟨c,q⟩:=p
         rw[hb] at h
         have h1:=Mj k q _ css h
         have h2:=qy _ _ _ _ hb
         simp at h1 ⊢; omega
theorem JF (h:Str→Str) : ∀ (css:List (List Li)) (acc cs:List Cd),gG h css acc=.ok cs→cs.length=acc.length + css.length
 | [],acc,cs,hc=>by cases hc; simp
 | l :: css,acc,cs,hc=>by
   rw[gG] at hc
   cases hx:oq h l with
   | error e=>rw[hx] at hc; cases hc
   | ok d=>rw[hx] at hc; have:=JF h css _ cs hc; simp at this ⊢; omega
theorem Qk {h:Str→Str} {s:Str} {cs:List Cd} (hi:mM h s=.ok cs) : cs.length≤s.length + 1:=by
 unfold mM at hi
 cases hr:Cu bX s with
 | bad k e=>rw[hr] at hi; cases hi
 | ok ls =>
   rw[hr] at hi
   dsimp only at hi
   have hl:=MU hr
   cases hcu:jf (ls.length + 1) ls [] with
   | error e=>rw[hcu] at hi; cases hi
   | ok css =>
     rw[hcu] at hi
     have h1:=Mj _ _ _ _ hcu
     have h2:=JF h _ _ _ hi
     simp at h1 h2; omega
def Ih (h:Str→Str) (t:List Ln) (cs:List Cd) : Prop:=∃ ls css,nn ls=t∧rJ ls=.ok css∧gG h css []=.ok cs
theorem X5 {h:Str→Str} {s:Str} {cs:List Cd} (hi:mM h s=.ok cs) : ∃ t,gQ (U s)=some t∧Ih h t cs:=by
 unfold mM at hi
 cases hr:Cu bX s with
 | bad k e=>rw[hr] at hi; cases hi
 | ok ls =>
   rw[hr] at hi
   dsimp only at hi
   obtain⟨t,h1,h2⟩:=LQ _ _ _ hr
   rw[Lx] at h1
   refine⟨t,h1,ls, ?_⟩
   cases hc:jf (ls.length + 1) ls [] with
   | error e=>rw[hc] at hi; cases hi
   | ok css=>rw[hc] at hi; exact⟨css,by simpa using h2,hc,hi⟩
theorem SX {h:Str→Str} {s:Str} {cs:List Cd} {t:List Ln} (h1:gQ (U s)=some t) (h2:Ih h t cs) : ∃ cs',mM h s=.ok cs'∧cs'.map cc=cs.map cc:=by
 obtain⟨ls,css,g1,g2,g3⟩:=h2
 rw[← Lx] at h1
 obtain⟨ls',e1,e2⟩:=K4 _ [] t h1
 have e2:nn ls'=t:=by simpa using e2
 unfold mM Cu
 rw[e1]
 dsimp only
 have hl:ls'.length=ls.length:=by
  have:=congrArg List.length (e2.trans g1.symm)
  simpa using this
 obtain⟨QG,e3,e4⟩:=Pm (ls.length + 1) ls ls' [] [] css (g1.trans e2.symm) rfl g2
 rw[hl,e3]
 dsimp only
 obtain⟨cs',e5,e6⟩:=Nj h css QG [] [] cs e4 rfl g3
 exact⟨cs',e5,e6.symm⟩
theorem VD {h:Str→Str} {t1 t2:List Ln} {x y:List Cd} (h1:Ih h t1 x) (h2:Ih h t2 y) : Ih h (t1++t2) (x++y):=by
 obtain⟨l1,c1,a1,a2,a3⟩:=h1
 obtain⟨l2,c2,b1,b2,b3⟩:=h2
 refine⟨l1++l2,c1++c2,by simp only[nn,List.map_append] at *; rw[a1,b1], ?_,JL h c1 c2 [] x y a3 b3⟩
 unfold rJ
 rw[Lj l1.length l1 l2 [] c1 _ (Nat.le_refl _) a2 (by simp),UC _ _ _ _ b2]
def Fs:Str→Str→List Str
 | cur,[]=>[strip cur]
 | cur,c :: t=>if c.toNat=10 then strip cur :: Fs [] t else Fs (cur++[c]) t
theorem yT:∀ (a cur b:Str),bD cur (a++10 :: b)=Fs cur a++bD [] b
 | [],cur,b=>by simp[bD,Fs]
 | c :: a,cur,b=>by
   rw[List.cons_append,bD,Fs]
   split
   ·rw[yT a [] b]; rfl
   ·exact yT a _ b
theorem zR:∀ (a cur:Str),∃ P e,Fs cur a=P++[strip e]∧bD cur a=P++(if e=[] then[] else[e])
 | [],cur=>⟨[],cur,rfl,by simp[bD]⟩
 | c :: a,cur=>by
   rw[Fs,bD]
   split
   ·obtain⟨P,e,h1,h2⟩:=zR a []
    exact⟨strip cur :: P,e,by rw[h1]; rfl,by rw[h2]; rfl⟩
   ·exact zR a _
theorem UY (a b:Str) : bD [] (a++10 :: b)=bD [] (a++[10])++bD [] b:=by
 rw[yT,yT]; simp[bD]
theorem WC {acc:List Str} (h:acc≠[]) (pre:List Str) (x:Str) : glue (pre++acc) x=pre++glue acc x:=by
 unfold glue
 by_cases hx:isSp x=true
 ·rw[if_pos ⟨by simp[h],hx⟩,if_pos ⟨h,hx⟩]
  have hl:1≤acc.length:=List.length_pos_iff.2 h
  rw[List.length_append,show pre.length + acc.length - 1=pre.length + (acc.length - 1) by omega,List.set_append_right _ _ (by omega),Nat.add_sub_cancel_left]
  congr 3
  rw[List.getD_eq_getElem?_getD,List.getD_eq_getElem?_getD,List.getElem?_append_right (by omega),Nat.add_sub_cancel_left]
 ·rw[if_neg (fun h=>hx h.2),if_neg (fun h=>hx h.2),List.append_assoc]
theorem VR (acc:List Str) (x:Str) : glue acc x≠[]:=by
 unfold glue
 split
 ·rename_i h
  intro e
  have:=congrArg List.length e
  simp at this
  exact h.1 this
 ·simp
theorem Rp {acc:List Str} (h:acc≠[]) (pre:List Str) : ∀ xs:List Str,xs.foldl glue (pre++acc)=pre++xs.foldl glue acc:=by
 intro xs
 induction xs generalizing acc with
 | nil=>rfl
 | cons x xs ih =>
   rw[List.foldl_cons,List.foldl_cons,WC h]
   exact ih (VR acc x)
def Qi:List Str→Prop
 | []=>True
 | x :: _=>isSp x=false
theorem Py (acc:List Str) : ∀ {xs:List Str},Qi xs→xs.foldl glue acc=acc++xs.foldl glue []
 | [],_=>by simp
 | x :: xs,h=>by
   have hx:isSp x=false:=h
   rw[List.foldl_cons,List.foldl_cons]
   have e1:glue acc x=acc++[x]:=by unfold glue; rw[if_neg (fun h=>by rw[hx] at h; exact absurd h.2 (by simp))]
   have e2:glue [] x=[x]:=by unfold glue; rw[if_neg (fun h=>h.1 rfl)]; rfl
   rw[e1,e2]
   exact Rp (by simp) acc xs
theorem V9 {a b:Str} (h:Qi (bD [] b)) : U (a++10 :: b)=U (a++[10])++U b:=by
 unfold U
 rw[UY,List.foldl_append,Py _ h]
theorem Zi {c:UInt8} {t:Str} (h:c.toNat=32∨c.toNat=9) : wk (c :: t)=0:=by
 rw[sU]
 unfold wn
 have:nI c=false:=by
  unfold nI
  rcases h with h | h <;> simp[h]
 rw[List.takeWhile_cons,if_neg (by rw[this]; simp)]; rfl
theorem Xp {c:UInt8} {t:Str} (h:c.toNat=32∨c.toNat=9) : iy bX (c :: t)=none:=by
 unfold iy
 split
 ·have hw:=Zi (t:=t) h
  have hh:∀ x:UInt8,x.toNat≠32→x.toNat≠9→aN x (c :: t)=false:=by
   intro x h1 h2
   show(c == x)=false
   rw[beq_eq_false_iff_ne]
   intro e; subst e
   rcases h with h | h
   ·exact h1 h
   ·exact h2 h
  unfold qP
  rw[hw,List.drop_zero,if_neg (by rw[hh 46 (by decide) (by decide)]; simp)]
  dsimp only
  unfold tq om
  rw[kS,if_neg (by rw[hh 59 (by decide) (by decide)]; simp)]
  dsimp only
  have:gT bX (cB (c :: t))=false:=by
   unfold gT cB
   rw[hw]; rfl
  rw[this]; rfl
 ·rfl
theorem TJ {b:Str} {t:List Ln} (h:gQ (U b)=some t) : Qi (bD [] b):=by
 cases hr:bD [] b with
 | nil=>trivial
 | cons x xs =>
   show isSp x=false
   cases hx:isSp x with
   | false=>rfl
   | true =>
     exfalso
     unfold U at h
     rw[hr,List.foldl_cons] at h
     have e2:glue [] x=[x]:=by unfold glue; rw[if_neg (fun h=>h.1 rfl)]; rfl
     rw[e2] at h
     have hf:∀ (xs:List Str) (y z:Str) (r:List Str),∃ z' r',xs.foldl glue ((y++z) :: r)=(y++z') :: r':=by
      intro xs
      induction xs with
      | nil=>intro y z r; exact⟨z,r,rfl⟩
      | cons v xs ih =>
        intro y z r
        rw[List.foldl_cons]
        have:∃ z1 r1,glue ((y++z) :: r) v=(y++z1) :: r1:=by
         unfold glue
         split
         ·cases r with
          | nil=>exact⟨z++v.drop 1,[],by simp⟩
          | cons u r=>exact⟨z,_,by simp; rfl⟩
         ·exact⟨z,r++[v],by simp⟩
        obtain⟨z1,r1,e⟩:=this
        rw[e]
        exact ih y z1 r1
     obtain⟨z,r,hz⟩:=hf xs x [] []
     rw[List.append_nil] at hz
     rw[hz,gQ] at h
     cases x with
     | nil=>cases hx
     | cons c x =>
       have hc:c.toNat=32∨c.toNat=9:=by simpa [isSp] using hx
       rw[if_neg (by simp)] at h
       split at h
       ·cases h
       ·rw[show(c :: x)++z=c :: (x++z) from rfl,Xp hc] at h
        cases h
def Pl (s:Str) : Prop:=∀ c∈s,bZ c=true
theorem Pl.nil:Pl []:=by simp[Pl]
theorem Pl.app {a b:Str} (h:Pl a) (k:Pl b) : Pl (a++b):=fun c hc=>(List.mem_append.1 hc).elim (h c) (k c)
theorem Pl.cons {c:UInt8} {a:Str} (h:bZ c=true) (k:Pl a) : Pl (c :: a):=fun d hd=>by
 rcases List.mem_cons.1 hd with rfl | hd
 ·exact h
 ·exact k d hd
theorem Pl.good {x s:Str} (h:fP x s=true) : Pl s:=fun c hc=>by
 unfold fP at h
 simp only[Bool.and_eq_true] at h
 have:=List.all_eq_true.1 h.1 c hc
 unfold okB at this
 simp only[Bool.and_eq_true] at this
 exact this.1
theorem TV {c:UInt8} (h:nI c=true) : bZ c=true:=by
 have h1:=IV h
 unfold nI at h
 unfold bZ
 simp only[Bool.or_eq_true,Bool.and_eq_true,decide_eq_true_eq] at h ⊢
 omega
theorem Pl.word (s:Str) : Pl (s.take (wk s)):=fun c hc=>by
 rw[sU,Hm] at hc
 exact TV (all_takeWhile _ s c hc)
theorem WS {s v r:Str} (h:iN s=(v,r,true)) : ∃ p,s=p++r∧Pl p:=by
 unfold iN at h
 cases hh:aN 34 s with
 | true =>
   rw[if_pos hh] at h
   have hs:=jh hh
   rcases qA 34 (s.drop 1) with⟨h1,_⟩ | ⟨a,b,h1,_,h3,_⟩
   ·rw[h1] at h; cases h
   ·rw[h1] at h
    dsimp only at h
    injection h with e1 e2
    injection e2 with e2 e3
    subst e1 e2
    refine⟨34 :: (a++[34]), ?_,Pl.cons (by decide) ((Pl.good e3).app (Pl.cons (by decide) Pl.nil))⟩
    rw[hs,h3]; simp
 | false =>
   rw[if_neg (by rw[hh]; simp)] at h
   split at h
   ·cases h
   ·injection h with e1 e2
    injection e2 with e2 e3
    subst e2
    exact⟨_,(List.take_append_drop _ s).symm,Pl.good e3⟩
theorem Nc:∀ (k:Nat) (c:UInt8) (t:Str) (acc vs:List Str) (r:Str),bZ c=true→gJ k (c :: t) acc=some (vs,r)→∃ p,c :: t=p++r∧Pl p
 | 0,_,_,_,_,_,_,h=>by cases h
 | k + 1,c,t,acc,vs,r,hc,h=>by
   rw[gJ,List.drop_one,List.tail_cons] at h
   cases hv:iN t with
   | mk v x =>
     obtain⟨q,ok⟩:=x
     rw[hv] at h
     dsimp only at h
     split at h
     ·rename_i hok
      have hok:ok=true:=hok
      subst hok
      obtain⟨p,e,hp⟩:=WS hv
      split at h
      ·rename_i hh
       have hq:=jh hh
       rw[hq] at h
       obtain⟨p2,e2,hp2⟩:=Nc k 44 (q.drop 1) _ vs r (by decide) h
       refine⟨c :: (p++p2), ?_,Pl.cons hc (hp.app hp2)⟩
       rw[e,hq,e2]; simp
      ·cases h
       exact⟨c :: p,by rw[e]; rfl,Pl.cons hc hp⟩
     ·cases h
theorem Po:∀ (k:Nat) (s:Str) (acc ps:List gV) (r:Str),kS bX k s acc=some (ps,r)→∃ p,s=p++r∧Pl p
 | 0,_,_,_,_,h=>by cases h
 | k + 1,s,acc,ps,r,h=>by
   rw[kS] at h
   split at h
   ·rename_i h59
    obtain⟨t,rfl⟩ : ∃ t,s=59 :: t:=⟨s.drop 1,jh h59⟩
    rw[show(59 :: t).drop 1=t from rfl] at h
    have e3:=(List.take_append_drop (wk t) t).symm
    have hpl:=Pl.word t
    generalize t.take (wk t)=w1 at *
    generalize t.drop (wk t)=w2 at *
    split at h
    ·rename_i h61
     simp only[Bool.and_eq_true] at h61
     obtain⟨u,rfl⟩ : ∃ u,w2=61 :: u:=⟨w2.drop 1,jh h61.2⟩
     cases hv:gJ (61 :: u).length (61 :: u) [] with
     | none=>rw[hv] at h; cases h
     | some x =>
       obtain⟨vs,q⟩:=x
       rw[hv] at h
       dsimp only at h
       obtain⟨p,e,hp⟩:=Nc _ _ _ _ _ _ (by decide) hv
       obtain⟨p2,e2,hp2⟩:=Po k q _ ps r h
       refine⟨59 :: (w1++(p++p2)), ?_,Pl.cons (by decide) (hpl.app (hp.app hp2))⟩
       rw[e3,e,e2]; simp
    ·cases h
   ·cases h; exact⟨[],rfl,Pl.nil⟩
theorem WO {s:Str} {L:Ln} (h:iy bX s=some L) : Pl s:=by
 unfold iy at h
 split at h
 ·have tail:∀ {g n r:Str},tq bX g n r=some L→Pl r:=by
   intro g n r ht
   unfold tq at ht
   split at ht
   ·cases ht
   ·rename_i ps q hp
    unfold om at hp
    obtain⟨p,e,hp⟩:=Po _ _ _ _ _ hp
    split at ht
    ·rename_i hc
     simp only[Bool.and_eq_true] at hc
     have hq:=jh hc.1.2
     rw[e]
     refine hp.app ?_
     rw[hq]
     exact Pl.cons (by decide) (Pl.good hc.2)
    ·cases ht
  have hw:s=s.take (wk s)++s.drop (wk s):=(List.take_append_drop _ s).symm
  unfold qP at h
  split at h
  ·cases h
  ·rename_i g n r hh
   split at hh
   ·rename_i h46
    have hq:=jh h46
    split at hh
    ·cases hh
     have ht:=tail h
     rw[hw]
     refine(Pl.word s).app ?_
     rw[hq]
     refine Pl.cons (by decide) ?_
     rw[← List.take_append_drop (wk ((s.drop (wk s)).drop 1)) ((s.drop (wk s)).drop 1)]
     exact(Pl.word _).app ht
    ·cases hh
   ·cases hh
    rw[hw]
    exact(Pl.word s).app (tail h)
 ·cases h
theorem LV:∀ (l:List Str) (t:List Ln),gQ l=some t→∀ x∈l,Pl x
 | [],t,_,x,hx=>by cases hx
 | s :: r,t,h,x,hx=>by
   rw[gQ] at h
   split at h
   ·rename_i h0
    rcases List.mem_cons.1 hx with rfl | hx
    ·rw[h0]; exact Pl.nil
    ·exact LV r t h x hx
   ·split at h
    ·cases h
    ·cases hL:iy bX s with
     | none=>rw[hL] at h; cases h
     | some L =>
       rw[hL] at h
       obtain⟨t',h2,_⟩:=Option.map_eq_some_iff.1 h
       rcases List.mem_cons.1 hx with rfl | hx
       ·exact WO hL
       ·exact LV r t' h2 x hx
theorem KG {e:Str} (h:∀ c∈e,c.toNat≠13) : strip e=e:=Ns h
theorem Uf {P:List Str} {e:Str} {c:UInt8} (hc:c∈e) (h1:c.toNat≠32) (h2:c.toNat≠9) : ∃ y∈(P++[e]).foldl glue [],c∈y:=by
 rw[List.foldl_append,List.foldl_cons,List.foldl_nil]
 generalize P.foldl glue []=acc
 unfold glue
 split
 ·refine⟨acc.getD (acc.length - 1) []++e.drop 1,List.mem_set (by rename_i h; have:=List.length_pos_iff.2 h.1; omega) _,List.mem_append_right _ ?_⟩
  rename_i h
  cases e with
  | nil=>cases hc
  | cons d e =>
    rcases List.mem_cons.1 hc with rfl | hc
    ·have:c.toNat=32∨c.toNat=9:=by simpa [isSp] using h.2
     omega
    ·exact hc
 ·exact⟨e,List.mem_append_right _ (by simp),hc⟩
theorem RA {a:Str} {t:List Ln} (h:gQ (U a)=some t) : gQ (U (a++[10]))=some t:=by
 obtain⟨P,e,h1,h2⟩:=zR a []
 have hE:bD [] (a++[10])=P++[strip e]:=by rw[yT,h1]; simp[bD]
 by_cases he:e=[]
 ·subst he
  rw[if_pos rfl,List.append_nil] at h2
  unfold U at h ⊢
  rw[hE,show strip []=[] from rfl,List.foldl_append,List.foldl_cons,List.foldl_nil]
  rw[h2] at h
  have:glue (P.foldl glue []) []=P.foldl glue []++[[]]:=by
   unfold glue; rw[if_neg (fun h=>by cases h.2)]
  rw[this,yM,h]
  simp[gQ]
 ·rw[if_neg he] at h2
  have h13:∀ c∈e,c.toNat≠13:=by
   intro c hc h13
   obtain⟨y,hy,hcy⟩:=Uf (P:=P) hc (by omega) (by omega)
   have hp:=LV _ _ h y (by unfold U; rw[h2]; exact hy) c hcy
   exact(Db hp).2 h13
  unfold U at h ⊢
  rw[hE,KG h13,← h2]; exact h
theorem Xg {a b:Str} {t1 t2:List Ln} (h1:gQ (U a)=some t1) (h2:gQ (U b)=some t2) : gQ (U (a++10 :: b))=some (t1++t2):=by
 rw[V9 (TJ h2),yM,RA h1,h2]; rfl
abbrev bL:Ln:=⟨[],rC,[],[86,67,65,82,68]⟩
abbrev vL:Ln:=⟨[],iH,[],Si⟩
abbrev eL:Ln:=⟨[],CX,[],[86,67,65,82,68]⟩
def pr (p:Fd) : Str:=(fV bX (lU p)).1
structure Yj (L:Ln) : Prop where
 print:(fV bX L).2=0
 g:L.g≠lg
 n:xX L.n=false
theorem vV:∀ (fs:List Fd) (ns:List Str) (acc s:Str),sS fs ns acc=some s→s=acc++fs.flatMap pr++wO∧(∀ p∈fs,Yj (lU p)∧qQ p=true)∧∀ (ls:List Li) (a0:List Fd),nn ls=fs.map lU→mr ls ns a0=.ok (a0++fs)
 | [],ns,acc,s,h=>by
   cases h
   refine⟨by simp,by simp,fun ls a0 hl=>?_⟩
   cases ls with
   | nil=>simp[mr]
   | cons y ls=>simp[nn] at hl
 | p :: r,ns,acc,s,h=>by
   rw[sS] at h
   split at h
   ·cases h
   ·rename_i hg
    have hg:qQ p=true:=by simpa using hg
    obtain⟨g1,g2,g3⟩:=UB hg
    have hf:=Lc (OB g1)
    split at h
    ·cases h
    ·rename_i hc
     have hc:(fA ns (bB (bY p).1).1:Int)=(bY p).2.1:=Classical.not_not.1 hc
     obtain⟨h1,h2,h3⟩:=vV r _ _ s h
     refine⟨by rw[h1]; simp[pr,lU],fun q hq=>?_,fun ls a0 hl=>?_⟩
     ·rcases List.mem_cons.1 hq with rfl | hq
      ·exact⟨⟨hf.1,hf.2.1,hf.2.2.1⟩,hg⟩
      ·exact h2 q hq
     ·cases ls with
      | nil=>simp[nn] at hl
      | cons y ls =>
        simp only[nn,List.map_cons,List.cons.injEq] at hl
        obtain⟨e,hl⟩:=hl
        have hp:=hf.2.2.2.2
        rw[mr,e,show lU p=(bY p).1 from rfl,hc]
        rw[← show p.1=kR (bB (bY p).1).1 (bY p).2.1 from congrArg Prod.fst hp,← show p.2=(bB (bY p).1).2 from(congrArg Prod.snd hp :)]
        rw[if_neg (by omega),h3 ls _ hl]
        simp
theorem piece {x rest:Str} {tx t:List Ln} (h1:gQ (U (x++[13,10]))=some tx) (h2:gQ (U rest)=some t) : gQ (U (x++[13,10]++rest))=some (tx++t):=by
 have e1:x++[13,10]++rest=(x++[13])++10 :: rest:=by simp
 have e2:x++[13,10]=(x++[13])++[10]:=by simp
 rw[e1,V9 (TJ h2),← e2,yM,h1,h2]; rfl
theorem Xw {L:Ln} (h:(fV bX L).2=0) : gQ (U ((fV bX L).1))=some [L]∧(fV bX L).1=fo 0 (ed L)++[13,10]:=by
 obtain⟨h1,h2,h3⟩:=nV h
 refine⟨?_,h3⟩
 rw[h3]
 unfold U
 rw[Tc h1,gQ,if_neg (Xl L),if_neg (by omega),WZ,Vu h1]; rfl
theorem OY:∀ (fs:List Fd) (rest:Str) (t:List Ln),(∀ p∈fs,Yj (lU p))→gQ (U rest)=some t→gQ (U (fs.flatMap pr++rest))=some (fs.map lU++t)
 | [],rest,t,_,h=>by simpa using h
 | p :: fs,rest,t,hp,h=>by
   have ih:=OY fs rest t (fun q hq=>hp q (List.mem_cons_of_mem _ hq)) h
   obtain⟨h1,h2⟩:=Xw (hp p (List.mem_cons_self ..)).print
   rw[List.flatMap_cons,List.append_assoc]
   show gQ (U ((fV bX (lU p)).1++_))=_
   rw[h2] at h1 ⊢
   have:=piece h1 ih
   simpa using this
theorem WT:gQ (U wO)=some [eL]:=by kernel_rfl
abbrev Sc:Str:=[66,69,71,73,78,58,86,67,65,82,68,13,10,86,69,82,83,73,79,78,58,52,46,48]
theorem WM:gQ (U (Sc++[13,10]))=some [bL,vL]:=by kernel_rfl
theorem Yx {fs:List Fd} {s:Str} (h:wZ fs=some s) : gQ (U s)=some ([bL,vL]++(fs.map lU++[eL])):=by
 obtain⟨h1,h2,_⟩:=vV _ _ _ _ h
 rw[h1,show P5++fs.flatMap pr++wO=Sc++[13,10]++(fs.flatMap pr++wO) by simp]
 exact piece WM (OY fs wO [eL] (fun p hp=>(h2 p hp).1) WT)
theorem Pj {b:Int} : ∀ (ls acc:List Li),(∀ x∈ls,x.1.g≠lg∧xX x.1.n=false)→dZ b (ls++[(eL,0)]) acc=.ok (acc++ls,[])
 | [],acc,_=>by
   rw[List.nil_append,dZ,if_pos (by kernel_rfl),List.append_nil]
 | x :: ls,acc,h=>by
   obtain⟨h1,h2⟩:=h x (List.mem_cons_self ..)
   have he:fJ x.1 CX=false:=by
    unfold fJ
    have:¬ x.1.n=CX:=fun e=>by
     unfold xX at h2
     rw[e] at h2
     simp at h2
    rw[decide_eq_false this]; simp
   rw[List.cons_append,dZ,if_neg (by rw[he]; simp),if_neg (by rw[h2,decide_eq_false h1]; simp),Pj ls _ (fun y hy=>h y (List.mem_cons_of_mem _ hy))]
   simp
def z0 (t:List Ln) : List Li:=t.map fun L=>(L,0)
theorem Y1 (t:List Ln) : nn (z0 t)=t:=by
 unfold nn z0
 rw[List.map_map]
 exact List.map_id t
def Cm (h:Str→Str) (fs:List Fd) : Cd:=(lS h (z0 (fs.map lU)) (oZ fs),fs,0)
theorem Xz (h:Str→Str) {fs:List Fd} {s:Str} (he:wZ fs=some s) : Ih h ([bL,vL]++(fs.map lU++[eL])) [Cm h fs]:=by
 obtain⟨_,h2,h3⟩:=vV _ _ _ _ he
 have hb:∀ x∈z0 (fs.map lU),x.1.g≠lg∧xX x.1.n=false:=by
  intro x hx
  simp only[z0,List.map_map,List.mem_map] at hx
  obtain⟨p,hp,rfl⟩:=hx
  exact⟨(h2 p hp).1.g,(h2 p hp).1.n⟩
 refine⟨(bL,0) :: (vL,0) :: (z0 (fs.map lU)++[(eL,0)]),[(bL,0) :: z0 (fs.map lU)], ?_, ?_, ?_⟩
 ·simp[nn,z0]
 ·unfold rJ
  rw[gF,if_neg (by decide)]
  dsimp only
  rw[if_neg (by decide),Pj _ _ hb]
  rfl
 ·rw[gG]
  unfold oq
  dsimp only
  rw[h3 _ [] (Y1 _)]
  rfl
def mX (s:Str) : Str:=s.filter fun c=>decide (c.toNat≠13)
def gq:Str→Prop
 | []=>True
 | c :: t=>(c.toNat=13→∃ d u,t=d :: u∧d.toNat=10)∧gq t
def N13 (s:Str) : Prop:=∀ c∈s,c.toNat≠13
theorem gq.pre:∀ {a b:Str},N13 a→gq b→gq (a++b)
 | [],b,_,h=>h
 | c :: a,b,hn,h=>⟨fun e=>absurd e (hn c (List.mem_cons_self ..)),gq.pre (fun d hd=>hn d (List.mem_cons_of_mem _ hd)) h⟩
theorem gq.crlf {b:Str} (h:gq b) : gq (13 :: 10 :: b):=⟨fun _=>⟨10,b,rfl,rfl⟩,⟨fun e=>absurd e (by decide),h⟩⟩
theorem Qq:∀ (n u:Nat) (s t:Str),s.length≤n→N13 s→gq t→gq (fo u s++t)
 | n,u,s,t,hn,h,ht=>by
   by_cases hne:s=[]
   ·subst hne; rw[yX]; exact ht
   have hlt:(s.drop (rs s)).length<s.length:=uj hne (nY hne)
   have hd:N13 (s.drop (rs s)):=fun c hc=>h c (List.mem_of_mem_drop hc)
   have htk:N13 (s.take (rs s)):=fun c hc=>h c (List.mem_of_mem_take hc)
   cases n with
   | zero=>have:=List.length_pos_iff.2 hne; omega
   | succ n =>
     by_cases hb:75<u + rs s
     ·rw[Ai hne hb]
      have:=Qq n (1 + rs s) (s.drop (rs s)) t (by omega) hd ht
      rw[List.append_assoc,List.append_assoc]
      exact gq.crlf (gq.pre (a:=[32]) (by simp[N13]) (gq.pre htk this))
     ·rw[yG hne (by omega)]
      have:=Qq n (u + rs s) (s.drop (rs s)) t (by omega) hd ht
      rw[List.append_assoc]
      exact gq.pre htk this
theorem wG:∀ (n:Nat) (s cur:Str),s.length≤n→N13 cur→gq s→bD cur (mX s)=bD cur s
 | _,[],cur,_,_,_=>rfl
 | 0,c :: s,cur,hn,_,_=>by simp at hn
 | n + 1,c :: s,cur,hn,hc,h=>by
   simp only[List.length_cons] at hn
   by_cases h13:c.toNat=13
   ·obtain⟨d,u,rfl,hd⟩:=h.1 h13
    have e13:c=13:=UInt8.toNat_inj.1 h13
    have e10:d=10:=UInt8.toNat_inj.1 hd
    subst e13 e10
    have hu:gq u:=h.2.2
    simp only[List.length_cons] at hn
    have e:mX (13 :: 10 :: u)=10 :: mX u:=by simp[mX]
    rw[e]
    show bD cur (10 :: mX u)=bD cur (13 :: 10 :: u)
    rw[bD,if_pos (by rfl),bD,if_neg (by decide),bD,if_pos (by rfl),Me,Ns hc,wG n u [] (by omega) (by simp[N13]) hu]
   ·have e:mX (c :: s)=c :: mX s:=by simp[mX,h13]
    rw[e,bD,bD]
    split
    ·rw[wG n s [] (by omega) (by simp[N13]) h.2]
    ·refine wG n s _ (by omega) (fun d hd=>?_) h.2
     rcases List.mem_append.1 hd with hd | hd
     ·exact hc d hd
     ·simp at hd; subst hd; exact h13
theorem XG {s:Str} (h:gq s) : U (mX s)=U s:=by
 unfold U
 rw[wG s.length s [] (Nat.le_refl _) (by simp[N13]) h]
theorem Vx {L:Ln} (h:mi bX L=true) : N13 (ed L):=fun c hc=>(Db (FO h c hc)).2
theorem O3:∀ (fs:List Fd) (t:Str),(∀ p∈fs,Yj (lU p))→gq t→gq (fs.flatMap pr++t)
 | [],t,_,h=>h
 | p :: fs,t,hp,h=>by
   obtain⟨g1,g2,g3⟩:=nV (hp p (List.mem_cons_self ..)).print
   have ih:=O3 fs t (fun q hq=>hp q (List.mem_cons_of_mem _ hq)) h
   rw[List.flatMap_cons,List.append_assoc]
   show gq ((fV bX (lU p)).1++_)
   rw[g3,List.append_assoc]
   exact Qq _ 0 _ _ (Nat.le_refl _) (Vx g1) (gq.crlf ih)
theorem Yi {fs:List Fd} {s:Str} (h:wZ fs=some s) : gq s:=by
 obtain⟨h1,h2,_⟩:=vV _ _ _ _ h
 rw[h1,List.append_assoc]
 have ht:gq wO:=by
  show gq ([69,78,68,58,86,67,65,82,68]++13 :: 10 :: [])
  exact gq.pre (by simp[N13]) (gq.crlf trivial)
 have:=O3 fs wO (fun p hp=>(h2 p hp).1) ht
 show gq ([66,69,71,73,78,58,86,67,65,82,68]++13 :: 10 :: ([86,69,82,83,73,79,78,58,52,46,48]++13 :: 10 :: _))
 exact gq.pre (by simp[N13]) (gq.crlf (gq.pre (by simp[N13]) (gq.crlf this)))
theorem VA {h:Str→Str} {l:List Fd} {s ahead:Str} {x:List Cd} (he:wZ l=some s) (hx:mM h ahead=.ok x) :
  (∃ a,mM h s=.ok a∧a.map cc=[cc (Cm h l)])∧∃ b,mM h (ahead++[10]++mX s)=.ok b∧b.map cc=x.map cc++[cc (Cm h l)]:=by
 have h1:=Yx he
 have h2:=Xz h he
 obtain⟨t,a1,a2⟩:=X5 hx
 refine⟨?_, ?_⟩
 ·obtain⟨a,e1,e2⟩:=SX h1 h2
  exact⟨a,e1,by rw[e2]; rfl⟩
 ·rw[← XG (Yi he)] at h1
  have h3:gQ (U (ahead++[10]++mX s))=some (t++([bL,vL]++(l.map lU++[eL]))):=by rw[List.append_assoc]; exact Xg a1 h1
  obtain⟨b,e1,e2⟩:=SX h3 (VD a2 h2)
  exact⟨b,e1,by rw[e2]; simp⟩
theorem Ou:∀ (fs:List Fd) (ns:List Str) (acc s:Str),sS fs ns acc=some s→s.length≤acc.length + 3660 * fs.length + 11
 | [],ns,acc,s,h=>by cases h; simp
 | p :: r,ns,acc,s,h=>by
   have h0:=h
   rw[sS] at h
   split at h
   ·cases h
   ·split at h
    ·cases h
    ·have:=Ou r _ _ s h
     obtain⟨_,h2,_⟩:=vV _ _ _ _ h0
     obtain⟨g1,g2,g3⟩:=nV ((h2 p (List.mem_cons_self ..)).1).print
     have hf:=Rj (ed (lU p))
     rw[show lU p=(bY p).1 from rfl] at *
     rw[List.length_append,g3] at this
     simp at this ⊢; omega
theorem UX {fs:List Fd} {s:Str} (h:wZ fs=some s) : s.length≤37 + 3660 * fs.length:=by
 have:=Ou _ _ _ _ h
 simp at this; omega
end Go.Ab.Vc
namespace Go.Ab.Vc
open Go Go.Ab Go.Ab.Vl Go.Ab.Sm
theorem Tf {B:Base} {c:ak} (h:Ip B c) {M:RM} {s:Str} {Q:aj} (hM:M.base=B) (hs:s.length≤90000)
  (hO:∀ cs M' w,mM Sha.dY s=.ok cs→ae [] M M'→bE GX M' w cs (fun b=>M.next≤b)→cs.length≤s.length + 1→Q (.tup [w,N .i64 0,N .i64 0]) M')
  (hE:∀ M' k e,mM Sha.dY s=.error (k,e)→ae [] M M'→(e != 0)=true→Q (.tup [aF,N .i64 k,N .i64 e]) M') : c [St s] M Q :=
 h hM (by omega) (fun ls hl=>by have:=MU hl; omega) (fun M' w cs k h1 h2 h3=>hO cs M' w h1 k h2 h3) (fun M' k e kk h1 h2=>hE M' k e h1 kk (by simpa using h2))
theorem SY {s:Str} {i:Nat} (hi:i<s.length) : mX (s.take (i + 1))=mX (s.take i)++(if s[i].toNat=13 then[] else[s[i]]):=by
 rw[List.take_succ_eq_append_getElem hi]
 unfold mX
 rw[List.filter_append]
 congr 1
 by_cases h:s[i].toNat=13 <;> simp[h]
theorem Qb {s:Str} {i:Nat} (hi:i<s.length) (k1 k2:IntKind) : aT (St s) (some (N k1 (i:Int))) (some (N k2 ((i + 1:Nat) : Int)))=some (St [s[i]]):=by
 rw[Ei (by omega) (by omega)]
 congr 2
 rw[show i + 1 - i=1 by omega,List.drop_eq_getElem_cons hi]; rfl
theorem Mm (s:Str) : (mX s).length≤s.length:=List.length_filter_le ..
theorem Jv {B:Base} {ca ce ci:ak} (ha:Yl B ca) (he:PR B ce) (hi:Ip B ci) {v:AV} {l:List Fd} {ahead:Str} {M:RM} {Q:aj} (hM:M.base=B) (hv:Sl nH M v l)
  (hl:l.length≤1000000000) (hp:∀ p∈l,p.1.length≤10000000∧p.2.length≤10000000) (hQ:∀ M',ae [] M M'→Q (Bo true) M') :
  nM ca ce ci v (St ahead) M Q:=by
 unfold nM
 simp only[dR,Ki,dK]
 refine ha hM fun M1 k1=>?_
 have hv1:=dC.keep hv k1 (by simp)
 rw[bU,show(!true)=false from rfl,dS,dC.len hv1,show(N .i64 (10:Int))=N .i64 ((10:Nat) : Int) from rfl,Cv]
 refine mZ (p:=decide (ahead.length > 1000)) (fun _ kk hk=>by rw[bA,show(N .i64 (1000:Int))=N .i64 ((1000:Nat) : Int) from rfl,Cv]; exact hk) ?_
 refine aY (fun h=>hQ _ k1) (fun h=>?_)
 simp only[Bool.or_eq_false_iff,decide_eq_false_iff_not] at h
 rw[jk]
 have hk1:known v=true:=dC.known hv1
 have hcl:v.cells=[v]:=dC.cells hv1
 refine⟨[St [],v,N .i64 0],by simp[mH,hk1,hcl], ?_⟩
 refine he (k1.base.trans hM) hv1 (by omega) hp fun M2 k2=>?_
 have k02:=k1.trans k2
 cases hx:wZ l with
 | none =>
   dsimp only
   rw[bH,bK]
   refine Tf hi (k02.base.trans hM) (by omega) (fun xs M3 u hu k3 hu2 _=>?_) (fun M3 k e hu k3 he'=>?_)
   all_goals
    rw[bH,bK,iK,dh,show((1:Int) != 0)=true from rfl]
    refine mZ (p:=false) (fun h=>by cases h) ?_
    exact⟨fun _=>hQ _ (k02.trans k3),fun h=>by cases h⟩
 | some s =>
   dsimp only
   rw[bH,bK]
   refine Tf hi (k02.base.trans hM) (by omega) (fun xs M3 u hxs k3 hu _=>?_) (fun M3 k e hxs k3 he'=>?_)
   rotate_left 1
   ·rw[bH,bK,iK,dh,show((0:Int) != 0)=false from rfl]
    refine mZ (p:=true) (fun _ kk hk=>by rw[dh,he']; exact hk) ?_
    exact⟨fun _=>hQ _ (k02.trans k3),fun h=>by cases h⟩
   have k03:=k02.trans k3
   rw[bH,bK,iK,dh]
   refine mZ (p:=false) (fun _ kk hk=>by rw[dh]; exact hk) ?_
   rw[show(((0:Int) != 0) || false)=false from rfl,dS]
   have hsl:=UX hx
   obtain⟨⟨a,ha1,ha2⟩,⟨b,hb1,hb2⟩⟩:=VA (h:=Sha.dY) hx hxs
   obtain⟨c,rfl,hc⟩ : ∃ c,a=[c]∧cc c=cc (Cm Sha.dY l):=by
    cases a with
    | nil=>simp at ha2
    | cons c r =>
      cases r with
      | nil=>exact⟨c,rfl,by simpa using ha2⟩
      | cons d r=>simp at ha2
   refine Ke hi (k03.base.trans hM) (by omega) ha1 fun M4 t k4 ht=>?_
   have k04:=k03.trans k4
   rw[bH,bK,iK]
   refine aP (fun m yy M5=>∃ i:Nat,m=s.length - i∧yy=[St (mX (s.take i)),N .i64 (i:Int)]∧i≤s.length∧M5=M4) _ ⟨0,rfl,rfl,Nat.zero_le _,rfl⟩ ?_
   rintro next m yy M5 hnext ⟨i,rfl,rfl,hil,rfl⟩
   dsimp only[ag]
   rw[bA,kJ]
   refine aY (fun hlt=>?_) (fun hge=>?_)
   ·have hlt:i<s.length:=of_decide_eq_true hlt
    have hnl:=Mm (s.take i)
    rw[List.length_take] at hnl
    refine bO (fun yy M'=>M'=M5∧yy=[St (mX (s.take (i + 1)))]) ?_ ?_
    ·rintro yy M6 ⟨rfl,rfl⟩
     dsimp only[ag]
     rw[add1 (by omega)]
     exact hnext _ _ _ (by omega) ⟨i + 1,rfl,rfl,by omega,rfl⟩
    intro J hJ
    rw[SY hlt] at hJ
    rw[uo hlt,By,dh]
    refine aY (fun h13=>?_) (fun h13=>?_)
    ·have h13:¬ s[i].toNat=13:=by
      intro e; rw[e] at h13; simp at h13
     rw[if_neg h13] at hJ
     rw[add1 (by omega),Qb hlt,dM,bI]
     exact⟨by simp; omega,hJ _ _ ⟨rfl,rfl⟩⟩
    ·have h13:s[i].toNat=13:=by
      have:((s[i].toNat:Int) != 13)=false:=h13
      simp at this; omega
     rw[if_pos h13,List.append_nil] at hJ
     exact hJ _ _ ⟨rfl,rfl⟩
   ·have hge:¬ i<s.length:=of_decide_eq_false hge
    have hi:i=s.length:=by omega
    subst hi
    rw[List.take_length]
    have hnl:=Mm s
    rw[bI]
    refine⟨by simp; omega, ?_⟩
    rw[bI]
    refine⟨by simp; omega, ?_⟩
    refine Ke hi (k04.base.trans hM) (by simp; omega) hb1 fun M6 w k6 hw=>?_
    rw[bH,bK,iK,dh]
    have ht6:=ht.keep k6 (by simp)
    have hu6:=hu.keep (k4.trans k6) (by simp)
    have k06:=k04.trans k6
    have hv6:=dC.keep hv k06 (by simp)
    refine mZ (p:=false) (fun _ kk hk=>by rw[ht6.len,dh]; exact hk) ?_
    rw[show(((0:Int) != 0) || false)=false from rfl,dS]
    -- values are gone through
    refine aP (fun m yy M7=>∃ i:Nat,m=l.length - i∧yy=[N .i64 (i:Int)]∧i≤l.length∧M7=M6) _ ⟨0,rfl,rfl,Nat.zero_le _,rfl⟩ ?_
    rintro AP m yy M7 jU ⟨i,rfl,rfl,hil2,rfl⟩
    dsimp only[ag]
    rw[dC.len hv6,kJ]
    refine aY (fun hlt=>?_) (fun hge=>?_)
    ·have hlt:i<l.length:=of_decide_eq_true hlt
     obtain⟨_,f1⟩:=X4 hv6 hlt
     have hpl:=(hp _ (List.getElem_mem hlt)).2
     refine aP (fun m yy M8=>∃ j:Nat,m=l[i].2.length - j∧yy=[N .i64 (j:Int)]∧j≤l[i].2.length∧M8=M7) _ ⟨0,rfl,rfl,Nat.zero_le _,rfl⟩ ?_
     rintro ZR m yy M8 LC ⟨j,rfl,rfl,hj,rfl⟩
     dsimp only[ag]
     rw[f1,bA,kJ]
     refine aY (fun hj2=>?_) (fun hj2=>?_)
     ·have hj2:j<l[i].2.length:=of_decide_eq_true hj2
      rw[f1,uo hj2,By,dD]
      refine aY (fun _=>hQ _ k06) (fun _=>?_)
      rw[add1 (by omega)]
      exact LC _ _ _ (by omega) ⟨j + 1,rfl,rfl,by omega,rfl⟩
     ·rw[add1 (by omega)]
      exact jU _ _ _ (by omega) ⟨i + 1,rfl,rfl,by omega,rfl⟩
    have hbl:b.length=xs.length + 1:=by have:=congrArg List.length hb2; simpa using this
    have hlast:xs.length<b.length:=by omega
    have hbc:b[xs.length].1=c.1∧b[xs.length].2.1.length=l.length:=by
     have e:(b.map cc)[xs.length]'(by simpa using hlast)=cc (Cm Sha.dY l):=by
      simp only[hb2]
      rw[List.getElem_append_right (by simp)]
      simp
     rw[List.getElem_map] at e
     have e1:=e.trans hc.symm
     refine⟨(congrArg (fun q:Str × List Fd=>q.1) e1 :), ?_⟩
     have:=congrArg (fun q:Str × List Fd=>q.2) e
     exact(congrArg List.length this :)
    have hxl:=Qk hxs
    obtain⟨w1,hw1,_,g0,g1,_⟩:=Wz hw hlast
    obtain⟨t1,ht1,_,q0,q1⟩:=Da ht6
    rw[dD]
    refine mo (p:=true) (fun _ kk hk=>?_) ?_
    ·rw[hw.len,hu6.len,add1 (by omega),dD,show((b.length:Int) == ((xs.length + 1:Nat) : Int))=true by simp[hbl]]; exact hk
    refine mo (p:=true) (fun _ kk hk=>?_) ?_
    ·rw[hw.len,show(N .i64 (1:Int))=N .i64 ((1:Nat) : Int) from rfl,PU (by omega) (by omega),show b.length - 1=xs.length by omega,g0,q0,hbc.1,gy,beq_self_eq_true]; exact hk
    refine mo (p:=true) (fun _ kk hk=>?_) ?_
    ·rw[hw.len,show(N .i64 (1:Int))=N .i64 ((1:Nat) : Int) from rfl,PU (by omega) (by omega),show b.length - 1=xs.length by omega,g1,hw1.len,hbc.2,dC.len hv6,dD,beq_self_eq_true]; exact hk
    exact hQ _ k06
end Go.Ab.Vc
