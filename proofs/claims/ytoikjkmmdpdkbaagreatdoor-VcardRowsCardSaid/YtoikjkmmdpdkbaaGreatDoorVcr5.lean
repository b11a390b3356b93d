/- Part 5 of the ground of the proofs of this seat (texts N9 to NL1). By an AI agent. -/
import Derived.Test.YtoikjkmmdpdkbaaGreatDoorVcr4
import Derived.Lib.Fold
import Derived.KernelRfl
import Derived.HandedShaped
set_option maxRecDepth 10000
set_option linter.unusedVariables false
set_option linter.unusedSimpArgs false
namespace Go.Ab.Vc
open Go Go.Ab Go.Ab.Vl Go.Ab.Sm
abbrev Li:=Ln × Int
theorem vC {M:RM} {v:AV} {ls:List Li} {S:Nat→Prop} (h:bB gW M v ls S) {i:Nat} (hi:i<ls.length) :
  ∃ w,bB iI M w ls[i].1.ps S∧(∀ K:AV→Prop,(bf v (N .i64 (i:Int)) 5 fun p=>aH M p 5 K)=K (.agg [St ls[i].1.g,St ls[i].1.n,w,St ls[i].1.v,N .i64 ls[i].2])) ∧
    (∀ K:AV→Prop,(bf v (N .i64 (i:Int)) 5 fun p=>aG p 0 fun q=>ak M q K)=K (St ls[i].1.g)) ∧
    (∀ K:AV→Prop,(bf v (N .i64 (i:Int)) 5 fun p=>aG p 1 fun q=>ak M q K)=K (St ls[i].1.n)) ∧
    (∀ K:AV→Prop,(bf v (N .i64 (i:Int)) 5 fun p=>aG p 3 fun q=>ak M q K)=K (St ls[i].1.v)) ∧
    (∀ K:AV→Prop,(bf v (N .i64 (i:Int)) 5 fun p=>aG p 4 fun q=>ak M q K)=K (N .i64 ls[i].2)):=by
 obtain⟨b,o,cs,hb,hbm,hidx,hld,w,rfl,hw⟩:=bB.at h 5 (i:Int) hi
 have c0:M.cell b (o + 0)=some (St ls[i].1.g):=gy hld (j:=0) rfl
 have c1:M.cell b (o + 1)=some (St ls[i].1.n):=gy hld (j:=1) rfl
 have c3:M.cell b (o + 3)=some (St ls[i].1.v):=gy hld (j:=3) rfl
 have c4:M.cell b (o + 4)=some (N .i64 ls[i].2):=gy hld (j:=4) rfl
 refine⟨w,hw,fun K=>?_,fun K=>?_,fun K=>?_,fun K=>?_,fun K=>?_⟩
 ·rw[hidx,qz,hld]; simp
 ·rw[hidx,iD,eB,c0]; simp
 ·rw[hidx,iD,eB,c1]; simp
 ·rw[hidx,iD,eB,c3]; simp
 ·rw[hidx,iD,eB,c4]; simp
theorem uF {b:Int} : ∀ (l acc c r:List Li),eu b l acc=.ok (c,r)→r.length + 1≤l.length
 | [],_,_,_,h=>by cases h
 | x :: l,acc,c,r,h=>by
   rw[eu] at h
   split at h
   ·cases h; simp
   ·split at h
    ·cases h
    ·have:=uF l _ c r h; simp; omega
theorem gX (k:Nat) (x:Li) (r:List Li) (acc:List (List Li)) : iW (k + 1) (x :: r) acc=if fI x.1 tL=false then .error x.2 else match r with
  | []=>.error x.2
  | y :: r=>if fI y.1 iB=false then .error y.2 else match eu x.2 r [x] with
    | .error e=>.error e
    | .ok (c,r')=>iW k r' (acc++[c]):=by cases r <;> rfl
theorem uT:∀ (n:Nat) (l:List Li) (acc:List (List Li)) (k k' : Nat),l.length≤n→l.length<k→l.length<k'→iW k l acc=iW k' l acc
 | n,l,acc,k,k',hn,h1,h2=>by
   obtain⟨i,rfl⟩ : ∃ i,k=i + 1:=⟨k - 1,by omega⟩
   obtain⟨j,rfl⟩ : ∃ j,k'=j + 1:=⟨k' - 1,by omega⟩
   cases l with
   | nil=>rfl
   | cons x r =>
     rw[gX,gX]
     split
     ·rfl
     ·cases r with
      | nil=>rfl
      | cons y r =>
        dsimp only
        split
        ·rfl
        ·cases hb:eu x.2 r [x] with
         | error e=>rfl
         | ok p =>
           obtain⟨c,r'⟩:=p
           have:=uF _ _ _ _ hb
           simp only[List.length_cons] at hn h1 h2
           dsimp only
           cases n with
           | zero=>omega
           | succ n=>exact uT n r' _ i j (by omega) (by omega) (by omega)
def nQ {α:Type} (R:jr α) (M:RM) (base T:Nat) (v:AV) (xs:List α) (S:Nat→Prop) : Prop :=
 eG R M base T v xs S∨∃ b cs,v=.slc b 0 xs.length (.ex xs.length)∧base≤b∧b<M.next∧M.heap b=some (.row cs false T 0)∧dz R M S cs xs
section
variable {α:Type} {R:jr α} {M M' : RM} {base T:Nat} {v:AV} {xs:List α} {S S' : Nat→Prop} {a:α} {cs:List AV}
theorem nQ.blk (h:nQ R M base T v xs S) : ∀ b∈aD v,base≤b∧b<M.next:=by
 rcases h with h | ⟨b,cs,rfl,h1,h2,_⟩
 ·exact h.blk
 ·intro c hc; simp[aD] at hc; subst hc; exact⟨h1,h2⟩
theorem nQ.keep {bs:List Nat} (h:nQ R M base T v xs S) (hk:ae bs M M') (hb:∀ b∈bs,¬ S b) (hv:∀ b∈aD v,b ∉ bs) : nQ R M' base T v xs S:=by
 rcases h with h | ⟨b,cs,rfl,h1,h2,h3,h4⟩
 ·exact .inl (h.keep hk hb hv)
 ·exact .inr ⟨b,cs,rfl,h1,Nat.lt_of_lt_of_le h2 hk.next,hk.ax h3 h2 (hv b (by simp[aD])),h4.keep hk hb⟩
theorem nQ.mono (h:nQ R M base T v xs S) (hs:∀ b,S b→S' b) : nQ R M base T v xs S':=by
 rcases h with h | ⟨b,cs,rfl,h1,h2,h3,h4⟩
 ·exact .inl (h.mono hs)
 ·exact .inr ⟨b,cs,rfl,h1,h2,h3,h4.mono hs⟩
theorem nQ.CR (h:nQ R M base T v xs S) (hs:∀ b,base≤b→b<M.next→S b) : bB R M v xs S:=by
 rcases h with h | ⟨b,cs,rfl,h1,h2,h3,h4⟩
 ·exact h.CR hs
 ·refine⟨cs,.slc _ _ _ _ _ h2 ?_,fun c hc=>by simp[aD] at hc; subst hc; exact hs _ h1 h2,h4⟩
  rw[RM.kG h3 (by rw[h4.len]; omega),List.drop_zero,← h4.len,List.take_length]
theorem nQ.one (h:nQ R M base T v xs S) : oneCell v=true:=by
 rcases h with h | ⟨b,cs,rfl,_⟩
 ·exact h.one
 ·rfl
theorem nQ.app {bytes:Nat} {zs:List AV} {K:ai} (ho:nQ R M base T v xs S) (ha:R.rel M cs a S) (hb:base≤M.next) (hs:1≤R.size)
  (hd:∀ b∈aD v,¬ S b) (hS:∀ b,S b→b<M.next) (hn:(xs.length + 1) * bytes≤140737488355328) (hn2:xs.length + 1≤140737488355328)
  (hK:∀ v' M',nQ R M' base T v' (xs++[a]) S→ae (aD v) M M'→M.next≤M'.next→(∀ b∈aD v',¬ S b)→K v' M') :
  appW T R.size bytes zs false v (.slc M.next 0 1 (.ex 1)) (M.push (.row cs false T 0)) K:=by
 rcases ho with ho | ⟨b,ds,rfl,h1,h2,h3,h4⟩
 ·exact ho.app ha hb hs hd hS hn hn2 fun v' M' h1 h2 h3 _ h5=>hK v' M' (.inl h1) h2 h3 h5
 ·have hk:ae [] M (M.push (.row cs false T 0)):=(ae.refl _ _).push _
  have hl:=R.len ha
  have hl4:=h4.len
  have hnl:mV (M.push (.row cs false T 0)) R.size zs false (.slc M.next 0 1 (.ex 1))=some (1,cs):=by
   simp only[mV,Nat.one_mul]
   rw[RM.kG (RM.aR _) (by omega),List.drop_zero,← hl,List.take_length]
  have hld:(M.push (.row cs false T 0)).loads b 0 (xs.length * R.size)=some ds:=by
   rw[RM.kG (uG h3 h2) (by omega),List.drop_zero,← hl4,List.take_length]
  have hone:(ds++cs).all oneCell=true:=by rw[List.all_append,h4.one,R.one ha]; rfl
  have hb1:1 * bytes≤140737488355328:=Nat.le_trans (Nat.mul_le_mul_right _ (by omega)) hn
  refine⟨1,cs,hnl,hb1,by omega, ?_⟩
  refine⟨.slc (M.next + 1) 0 (xs.length + 1) (.op R.size),(M.push (.row cs false T 0)).push (.row (ds++cs) true T 0), ?_,hK _ _ (.inl ⟨ds++cs, ?_, ?_⟩) ((hk.mono (by simp)).trans ((ae.refl _ _).push _)) (by simp[RM.push]; omega) ?_⟩
  ·simp only[qR,if_neg (show ¬ (1=0) by decide),if_neg (show ¬ xs.length + 1≤xs.length by omega),hld]
   rw[if_pos ⟨by omega,by omega,hone⟩]; rfl
  ·rw[List.length_append,List.length_singleton]
   exact .op _ _ _ (by show base≤M.next + 1; omega) (by simp[RM.push]) (RM.aR _) (by rw[List.length_append,hl4,hl,Nat.add_mul,Nat.one_mul])
  ·exact((h4.keep hk (by simp)).keep (bs:=[]) ((ae.refl _ _).push _) (by simp)).append (dz.single ((R.keep ha hk (by simp)) |> fun h=>R.keep h (bs:=[]) ((ae.refl _ _).push _) (by simp)))
  ·intro c hc h
   simp[aD] at hc
   have:=hS c h; omega
end
def J9 (size:Nat) : AV→Prop
 | .slc _ _ n (.ex c)=>n≤c
 | .slc _ _ _ (.op e)=>e=size
 | _=>True
theorem eG.Q6 {α:Type} {R:jr α} {M:RM} {base T:Nat} {v:AV} {xs:List α} {S:Nat→Prop} (h:eG R M base T v xs S) : J9 R.size v:=by
 obtain⟨cs,h,_⟩:=h
 generalize xs.length=n at h
 cases h with
 | nil=>trivial
 | ex0=>exact Nat.le_refl 0
 | op=>rfl
theorem nQ.Q6 {α:Type} {R:jr α} {M:RM} {base T:Nat} {v:AV} {xs:List α} {S:Nat→Prop} (h:nQ R M base T v xs S) : J9 R.size v:=by
 rcases h with h | ⟨b,cs,rfl,_⟩
 ·exact eG.Q6 h
 ·exact Nat.le_refl _
def IP:jr (List Li) where
 size:=1
 rel M cs xs S:=∃ v,cs=[v]∧bB gW M v xs S∧J9 5 v
 len h:=by obtain⟨v,rfl,_⟩:=h; rfl
 one h:=by obtain⟨v,rfl,h,_⟩:=h; simp[h.one]
 mono h hs:=by obtain⟨v,rfl,h,hc⟩:=h; exact⟨v,rfl,h.mono hs,hc⟩
 lt h:=by obtain⟨v,rfl,h,hc⟩:=h; exact⟨v,rfl,h.lt,hc⟩
 keep h hk hb:=by obtain⟨v,rfl,h,hc⟩:=h; exact⟨v,rfl,h.keep hk hb,hc⟩
def uq (ls:List Li) : Except Int (List (List Li)):=iW (ls.length + 1) ls []
theorem Q4 (x:Li) (r:List Li) (acc:List (List Li)) (he:fI x.1 tL=true) (hv:∀ y r',r=y :: r'→fI y.1 iB=true) :
  iW ((x :: r).length + 1) (x :: r) acc=match eu x.2 (r.drop 1) [x] with | .error e=>.error e | .ok (c,r')=>iW (r'.length + 1) r' (acc++[c]):=by
 rw[gX,if_neg (by rw[he]; simp)]
 cases r with
 | nil=>rfl
 | cons y r =>
   dsimp only
   rw[if_neg (by rw[hv y r rfl]; simp),List.drop_one,List.tail_cons]
   cases hb:eu x.2 r [x] with
   | error e=>rfl
   | ok p =>
     obtain⟨c,r'⟩:=p
     have:=uF _ _ _ _ hb
     exact uT r'.length r' _ _ _ (Nat.le_refl _) (by simp; omega) (by omega)
def vX (B:Base) (c:aj) : Prop:=∀ {M:RM} {v:AV} {ls:List Li} {S:Nat→Prop} {Q:ai},M.base=B→bB gW M v ls S→ls.length≤200000→(∀ x∈ls,LB 1000000 x.1) →
 (∀ M' w css,ae [] M M'→uq ls=.ok css→bB IP M' w css (fun b=>M.next≤b∨S b)→css.length≤ls.length→Q (.tup [w,N .i64 0]) M') →
 (∀ M' k,ae [] M M'→uq ls=.error k→Q (.tup [aB,N .i64 k]) M')→c [v] M Q
theorem Ee {B:Base} {TL TS:Nat} {ce cr:aj} (he:JK B ce) (hr:Jb cr) : vX B fun args M Q=>∃ a0,args=[a0]∧wF TL ce cr TS a0 M Q:=by
 intro M v ls S Q hM hv0 hlen hLB hO hE
 refine⟨_,rfl, ?_⟩
 unfold wF
 simp only[dJ]
 have hv:=hv0.lt
 refine aP (fun m ys M1=>∃ (i:Nat) (w:AV) (acc:List (List Li)),m=ls.length - i∧ys=[w,N .i64 (i:Int)]∧i≤ls.length∧acc.length≤i∧ae [] M M1 ∧
   eG IP M1 M.next TS w acc (fun b=>((M.next≤b∧b ∉ aD w)∨(S b∧b<M.next))∧b<M1.next)∧iW ((ls.drop i).length + 1) (ls.drop i) acc=uq ls) _
  ⟨0,aB,[],rfl,rfl,Nat.zero_le _,Nat.le_refl _,ae.refl _ _,.nil,rfl⟩ ?_
 rintro next m ys M1 hnext ⟨i,w,acc,rfl,rfl,hi,hacc,k1,ho,hp⟩
 dsimp only[ag]
 have hM1:M1.base=B:=k1.base.trans hM
 have hv1:=hv.keep k1 (by simp)
 have hwb:=ho.blk
 rw[hv1.len,jC]
 refine aZ (fun h=>?_) (fun h=>?_)
 rotate_left 1
 ·have h:¬ i<ls.length:=of_decide_eq_false h
  rw[List.drop_eq_nil_of_le (by omega)] at hp
  refine hO M1 w acc k1 hp.symm ?_ (by omega)
  exact(ho.mono (fun b h=>(h.1.imp And.left And.left:M.next≤b∨S b))).CR fun b hb _=>.inl hb
 have h:i<ls.length:=of_decide_eq_true h
 obtain⟨pw,hpw,hq,_,_,_,hq4⟩:=vC hv1 h
 have hL:=hLB _ (List.getElem_mem h)
 rw[hq,aF]
 rw[List.drop_eq_getElem_cons h] at hp
 generalize hx:ls[i]=x at *
 have hall:([St x.1.g,St x.1.n,pw,St x.1.v,N .i64 x.2] : List AV).all oneCell=true:=by simp[eF,hpw.one]
 refine zv (b:=0) 5 rfl rfl _ rfl hall rfl fun M2 k2 n2 h2=>?_
 rw[aN (n:=5) h2 rfl]
 have n1:=k1.next
 refine he (k2.base.trans hM1) (jN (k:=x.2) (hpw.keep k2 (by simp))) (J5 hL) fun M3 k3=>?_
 have h3:=k3.ax h2 (by omega) (by simp)
 have n3:=k3.next
 rw[bQ]
 refine aZ (fun hb=>?_) (fun hb=>?_)
 ·have hb:fI x.1 tL=false:=by simpa using hb
  rw[gX,if_pos hb] at hp
  rw[aU,az h3 rfl]
  exact hE _ _ ((k1.trans k2).trans k3) hp.symm
 have hb:fI x.1 tL=true:=by simpa using hb
 have k13:=k2.trans k3
 rw[aN (n:=5) h3 rfl,jg (x:=.agg [St x.1.g,St x.1.n,pw,St x.1.v,N .i64 x.2]) (size:=5) rfl hall rfl,aF]
 -- the row of the card begun
 have k4:ae [] M3 (M3.push (.row (AV.agg [St x.1.g,St x.1.n,pw,St x.1.v,N .i64 x.2]).cells false TL 0)):=(ae.refl _ _).push _
 have o4:nQ gW (M3.push (.row (AV.agg [St x.1.g,St x.1.n,pw,St x.1.v,N .i64 x.2]).cells false TL 0)) M3.next TL (.slc M3.next 0 1 (.ex 1)) [x] (fun b=>S b∧b<M.next) :=
  .inr ⟨M3.next,_,rfl,Nat.le_refl _,Nat.lt_succ_self _,RM.aR _,dz.single (R:=gW) ⟨pw,rfl,(hpw.keep k13 (by simp)).keep k4 (by simp)⟩⟩
 have n4:(M3.push (.row (AV.agg [St x.1.g,St x.1.n,pw,St x.1.v,N .i64 x.2]).cells false TL 0)).next=M3.next + 1:=rfl
 generalize M3.push (.row (AV.agg [St x.1.g,St x.1.n,pw,St x.1.v,N .i64 x.2]).cells false TL 0)=M4 at *
 have k14:ae [] M1 M4:=k13.trans k4
 have h4:=k4.ax h3 (by omega) (by simp)
 have hv4:=hv1.keep k14 (by simp)
 rw[add1 (by omega),hv4.len,jC]
 refine OX (P:=fun M'=>ae [] M4 M') (p:=!(ls[i+1]?.map fun y=>fI y.1 iB).getD true) (ae.refl _ _) (fun hc kk hk=>?_) fun M5 k5=>?_
 ·have hc:i + 1<ls.length:=of_decide_eq_true hc
  obtain⟨pw2,FQ,hq2,_⟩:=vC hv4 hc
  rw[hq2]
  refine he (k14.base.trans hM1) (jN (k:=ls[i+1].2) FQ) (J5 (hLB _ (List.getElem_mem hc))) fun M5 k5=>?_
  rw[bQ]
  refine hk M5 k5 |> fun h=>?_
  rw[List.getElem?_eq_getElem hc] at h
  exact h
 have n5:=k5.next
 have k15:=k14.trans k5
 have hv5:=hv1.keep k15 (by simp)
 refine aZ (fun hc=>?_) (fun hc=>?_)
 ·simp only[Bool.and_eq_true] at hc
  obtain⟨hc1,hc2⟩:=hc
  have hc1:i + 1<ls.length:=of_decide_eq_true hc1
  rw[List.getElem?_eq_getElem hc1] at hc2
  have hc2:fI ls[i+1].1 iB=false:=by simpa using hc2
  obtain⟨_,_,_,_,_,_,RL⟩:=vC hv5 hc1
  rw[RL]
  rw[List.drop_eq_getElem_cons hc1,gX,if_neg (by rw[hb]; simp)] at hp
  dsimp only at hp
  rw[if_pos hc2] at hp
  exact hE _ _ (k1.trans k15) hp.symm
 have X3:∀ y r',ls.drop (i + 1)=y :: r'→fI y.1 iB=true:=by
  intro y r' hy
  have hlt:i + 1<ls.length:=by
   rcases Nat.lt_or_ge (i + 1) ls.length with h | h
   ·exact h
   ·rw[List.drop_eq_nil_of_le h] at hy; cases hy
  rw[List.drop_eq_getElem_cons hlt] at hy
  cases hy
  rw[List.getElem?_eq_getElem hlt,decide_eq_true hlt,Bool.true_and] at hc
  simpa using hc
 rw[Q4 x _ acc hb X3,List.drop_drop] at hp
 rw[show i + 1 + 1=i + 2 by omega] at hp
 rw[add1 (by omega)]
 -- the lines of the card
 generalize hR:eu x.2 (ls.drop (i + 2)) [x]=R at *
 have o5:=o4.keep k5 (by simp) (by simp)
 have h5:=k5.ax h4 (by omega) (by simp)
 have ho5:=ho.keep k15 (by simp) (by simp)
 refine aP (fun m zs M6=>∃ (j:Nat) (c:AV) (A9:List Li),m=ls.length + 1 - j∧zs=[w,N .i64 (j:Int),c]∧i + 2≤j∧j≤ls.length + 1∧A9.length≤j∧ae [] M1 M6∧M4.next≤M6.next ∧
   M6.heap M1.next=some (.row [St x.1.g,St x.1.n,pw,St x.1.v,N .i64 x.2] false TL 0)∧nQ gW M6 M3.next TL c A9 (fun b=>S b∧b<M.next)∧eu x.2 (ls.drop j) A9=R) _
  ⟨i + 2,_,[x],rfl,rfl,Nat.le_refl _,by omega,by simp,k15,by omega,h5,o5,hR⟩ ?_
 rintro Cf m zs M6 kZ ⟨j,c,A9,rfl,rfl,hj1,hj2,hcl,k6,n6,h6,oc,hp2⟩
 dsimp only[ag]
 have hv6:=hv1.keep k6 (by simp)
 have hM6:M6.base=B:=k6.base.trans hM1
 rw[hv6.len,jC]
 refine OX (P:=fun M'=>ae [] M6 M') (p:=!(ls[j]?.map fun y=>fI y.1 La).getD true) (ae.refl _ _) (fun hc kk hk=>?_) fun M7 k7=>?_
 ·have hc:j<ls.length:=of_decide_eq_true hc
  obtain⟨pw2,FQ,hq2,_⟩:=vC hv6 hc
  rw[hq2]
  refine he hM6 (jN (k:=ls[j].2) FQ) (J5 (hLB _ (List.getElem_mem hc))) fun M7 k7=>?_
  rw[bQ]
  refine hk M7 k7 |> fun h=>?_
  rw[List.getElem?_eq_getElem hc] at h
  exact h
 have n7:=k7.next
 have k17:=k6.trans k7
 have hv7:=hv1.keep k17 (by simp)
 have oc7:=oc.keep k7 (by simp) (by simp)
 have hcb:=oc7.blk
 have h7:=k7.ax h6 (by omega) (by simp)
 refine aZ (fun hc=>?_) (fun hc=>?_)
 ·simp only[Bool.and_eq_true] at hc
  obtain⟨hc1,hc2⟩:=hc
  have hc1:j<ls.length:=of_decide_eq_true hc1
  rw[List.getElem?_eq_getElem hc1] at hc2
  have hc2:fI ls[j].1 La=false:=by simpa using hc2
  obtain⟨pw2,FQ,hq2,YS,YU,_,RL⟩:=vC hv7 hc1
  rw[List.drop_eq_getElem_cons hc1,eu,if_neg (by rw[hc2]; simp)] at hp2
  have hLj:=hLB _ (List.getElem_mem hc1)
  rw[YU]
  generalize hy:ls[j]=y at *
  refine hr ?_
  refine mP (p:=y.1.g == lQ) (fun hc kk hk=>?_) ?_
  ·rw[YS,fV]; exact hk
  have eg:(y.1.g == lQ)=decide (y.1.g=lQ):=by by_cases h:y.1.g=lQ <;> simp[h]
  rw[eg]
  refine aZ (fun hd=>?_) (fun hd=>?_)
  ·rw[if_pos hd] at hp2
   rw[RL]
   rw[← hp2] at hp
   exact hE _ _ (k1.trans k17) hp.symm
  ·rw[if_neg (by rw[hd]; simp)] at hp2
   rw[hq2,jg (x:=.agg [St y.1.g,St y.1.n,pw2,St y.1.v,N .i64 y.2]) (size:=5) rfl (by show([St y.1.g,St y.1.n,pw2,St y.1.v,N .i64 y.2] : List AV).all oneCell=true; simp[eF,FQ.one]) rfl,aF]
   refine nQ.app (R:=gW) (a:=y) oc7 ⟨pw2,rfl,FQ⟩ (by omega) (by decide) (fun b hb h=>by have:=(hcb b hb).1; omega) (fun b h=>by omega) (by omega) (by omega) ?_
   intro c' M8 o8 k8 n8 _
   rw[add1 (by omega)]
   have k18:ae [] M1 M8:=k17.eD k8 fun d hd=>.inl (by have:=(hcb d hd).1; omega)
   exact kZ _ _ _ (by omega) ⟨j + 1,c',A9++[y],rfl,rfl,by omega,by omega,by simp; omega,k18,by omega,k8.ax h7 (by omega) (fun h=>by have:=(hcb _ h).1; omega),o8,hp2⟩
 ·rw[hv7.len,fq]
  refine aZ (fun hd=>?_) (fun hd=>?_)
  ·have hd:ls.length≤j:=by have:=of_decide_eq_true hd; omega
   rw[List.drop_eq_nil_of_le hd,eu] at hp2
   rw[← hp2] at hp
   rw[aU,az h7 rfl]
   exact hE _ _ (k1.trans k17) hp.symm
  ·have hd:j<ls.length:=by have:=of_decide_eq_false hd; omega
   rw[List.getElem?_eq_getElem hd,decide_eq_true hd,Bool.true_and] at hc
   have hc:fI ls[j].1 La=true:=by simpa using hc
   rw[List.drop_eq_getElem_cons hd,eu,if_pos hc] at hp2
   rw[← hp2] at hp
   dsimp only at hp
   let S' : Nat→Prop:=fun b=>((M.next≤b∧b ∉ aD w)∨(S b∧b<M.next))∧b<M7.next
   have ho7:eG IP M7 M.next TS w acc S':=(ho.keep k17 (by simp) (by simp)).mono fun b hb=>⟨hb.1,by omega⟩
   have hcs:bB gW M7 c A9 S':=(oc7.mono (S':=S') fun b hb=>⟨.inr hb,by omega⟩).CR fun b h1 h2=>⟨.inl ⟨by omega,fun hb=>by have:=(hwb b hb).2; omega⟩,h2⟩
   rw[jg (x:=c) (size:=1) (by rw[hcs.cells]; rfl) (by rw[hcs.cells]; simp[hcs.one]) rfl,aF,hcs.cells]
   refine eG.app (R:=IP) (a:=A9) ho7 ⟨c,rfl,hcs,oc7.Q6⟩ (by omega) (by decide) (fun b hb h=>?_) (fun b h=>h.2) (by omega) (by omega) ?_
   ·rcases h.1 with h | h
    ·exact h.2 hb
    ·have:=(hwb b hb).1; omega
   intro w' M8 o8 k8 n8 _ hd8
   rw[add1 (by omega)]
   refine hnext _ _ _ (by omega) ⟨j + 1,w',acc++[A9],rfl,rfl,by omega,by simp; omega,(k1.trans k17).eD k8 fun d hd=>.inl (hwb d hd).1, ?_,hp⟩
   refine o8.mono fun b hb=>⟨?_,by have:=hb.2; omega⟩
   rcases hb.1 with h | h
   ·exact .inl ⟨h.1,fun hbw=>hd8 b hbw hb⟩
   ·exact .inr h
end Go.Ab.Vc
set_option maxRecDepth 100000
namespace Go.Ab.Sha
open Go Go.Ab
def BQ (p1:Nat) (p2:aj) (p3:Nat) (p4:aj) (p5:Nat) (p6 p7:aj) (p8:Nat) (a0:AV) (M0:RM) (Q:ai) : Prop:=aV (.row [(N .u8 0),(N .u8 0),(N .u8 0),(N .u8 0),(N .u8 0),(N .u8 0),(N .u8 0),(N .u8 0),(N .u8 0),(N .u8 0),(N .u8 0),(N .u8 0),(N .u8 0),(N .u8 0),(N .u8 0),(N .u8 0),(N .u8 0),(N .u8 0),(N .u8 0),(N .u8 0),(N .u8 0),(N .u8 0),(N .u8 0),(N .u8 0),(N .u8 0),(N .u8 0),(N .u8 0),(N .u8 0),(N .u8 0),(N .u8 0),(N .u8 0),(N .u8 0)] false p1 0) (fun c=>.ptr c 0) M0 fun u v=>p2 [] v fun vf w=>aV (.row [(N .u32 0),(N .u32 0),(N .u32 0),(N .u32 0),(N .u32 0),(N .u32 0),(N .u32 0),(N .u32 0),(N .u32 0),(N .u32 0),(N .u32 0),(N .u32 0),(N .u32 0),(N .u32 0),(N .u32 0),(N .u32 0),(N .u32 0),(N .u32 0),(N .u32 0),(N .u32 0),(N .u32 0),(N .u32 0),(N .u32 0),(N .u32 0),(N .u32 0),(N .u32 0),(N .u32 0),(N .u32 0),(N .u32 0),(N .u32 0),(N .u32 0),(N .u32 0),(N .u32 0),(N .u32 0),(N .u32 0),(N .u32 0),(N .u32 0),(N .u32 0),(N .u32 0),(N .u32 0),(N .u32 0),(N .u32 0),(N .u32 0),(N .u32 0),(N .u32 0),(N .u32 0),(N .u32 0),(N .u32 0),(N .u32 0),(N .u32 0),(N .u32 0),(N .u32 0),(N .u32 0),(N .u32 0),(N .u32 0),(N .u32 0),(N .u32 0),(N .u32 0),(N .u32 0),(N .u32 0),(N .u32 0),(N .u32 0),(N .u32 0),(N .u32 0)] false p3 0) (fun c=>.ptr c 0) w fun l x=>aA x l vf 64 fun B=>p4 [] B fun vg G=>aV (.row [(N .u32 0),(N .u32 0),(N .u32 0),(N .u32 0),(N .u32 0),(N .u32 0),(N .u32 0),(N .u32 0)] false p5 0) (fun c=>.ptr c 0) G fun h I=>aA I h vg 8 fun L=>bS a0 fun vh=>af .quo vh (N .i64 64) fun vi=>af .mul vi (N .i64 64) fun t=>bA (fun W i r=>af .lss (ag i 0) t fun vj=>au vj ( af .add (ag i 0) (N .i64 64) fun vl=>bN (jM 1 a0 (some (ag i 0)) (some vl) none) fun vm=>p6 [h,vm,l] r fun wo O=>af .add (ag i 0) (N .i64 64) fun vk=>W [vk] O) ( bN (jM 1 a0 (some t) none none) fun vn=>p7 [vn] r fun vo P=>ek p8 1 [(N .u8 0)] [(0,1,(N .u8 128))] fun vb S=>aV vb S P fun vp R=>appW p8 1 1 [(N .u8 0)] false vo vp R fun vq y=>bA (fun X m n=>bS (ag m 0) fun vr=>af .rem vr (N .i64 64) fun vs=>af .neq vs (N .i64 56) fun vt=>au vt ( ek p8 1 [(N .u8 0)] [(0,1,(N .u8 0))] fun vc U=>aV vc U n fun vu z=>appW p8 1 1 [(N .u8 0)] false (ag m 0) vu z fun vv A=>X [vv] A) ( bA (fun Y d o=>af .lss (ag d 1) (N .i64 8) fun vw=>au vw ( bS a0 fun vx=>oF .u64 vx fun vy=>af .mul vy (N .u64 8) fun vz=>af .mul (N .i64 8) (ag d 1) fun v0=>af .sub (N .i64 56) v0 fun v1=>oZ .shr vz v1 fun v2=>oF .u8 v2 fun v3=>ek p8 1 [(N .u8 0)] [(0,1,v3)] fun vd V=>aV vd V o fun v4 C=>appW p8 1 1 [(N .u8 0)] false (ag d 0) v4 C fun v5 D=>af .add (ag d 1) (N .i64 1) fun v6=>Y [v5,v6] D) ( bA (fun Z j p=>bS (ag d 0) fun v7=>af .lss (ag j 0) v7 fun v8=>au v8 ( af .add (ag j 0) (N .i64 64) fun wa=>bN (jM 1 (ag d 0) (some (ag j 0)) (some wa) none) fun wb=>p6 [h,wb,l] p fun wp E=>af .add (ag j 0) (N .i64 64) fun v9=>Z [v9] E) ( aV (.row [(N .u8 0),(N .u8 0),(N .u8 0),(N .u8 0),(N .u8 0),(N .u8 0),(N .u8 0),(N .u8 0),(N .u8 0),(N .u8 0),(N .u8 0),(N .u8 0),(N .u8 0),(N .u8 0),(N .u8 0),(N .u8 0),(N .u8 0),(N .u8 0),(N .u8 0),(N .u8 0),(N .u8 0),(N .u8 0),(N .u8 0),(N .u8 0),(N .u8 0),(N .u8 0),(N .u8 0),(N .u8 0),(N .u8 0),(N .u8 0),(N .u8 0),(N .u8 0)] false p1 0) (fun c=>.ptr c 0) p fun s F=>bA (fun va e g=>af .lss (ag e 0) (N .i64 32) fun wc=>au wc ( af .quo (ag e 0) (N .i64 4) fun wd=>dL h wd 8 1 fun we=>ak g we fun wf=>af .rem (ag e 0) (N .i64 4) fun wg=>af .mul (N .i64 8) wg fun wh=>af .sub (N .i64 24) wh fun wi=>oZ .shr wf wi fun wj=>oF .u8 wj fun wk=>dL s (ag e 0) 32 1 fun wl=>aA g wl wk 1 fun H=>af .add (ag e 0) (N .i64 1) fun wm=>va [wm] H) ( aH g s 32 fun wn=>aA g u wn 32 fun q=>aH q u 32 fun ve=>Q ve q)) [(N .i64 0)] F)) [(N .i64 0)] o)) [(ag m 0),(N .i64 0)] n)) [vq] y)) [(N .i64 0)] L
def BF (p1 p2:Nat) (a0:AV) (M0:RM) (Q:ai) : Prop:=mW p1 a0 fun n j=>aV n j M0 fun p e=>aH e p 32 fun y=>bA (fun m c d=>af .lss (ag c 1) (N .i64 32) fun z=>au z ( EK y (ag c 1) 32 fun g=>oZ .shr g (N .u64 4) fun q=>cK (St [48,49,50,51,52,53,54,55,56,57,97,98,99,100,101,102]) q fun r=>af .and g (N .u8 15) fun s=>cK (St [48,49,50,51,52,53,54,55,56,57,97,98,99,100,101,102]) s fun t=>ek p2 2 [(N .u8 0)] [(0,1,r),(1,1,t)] fun o l=>Nn o l d fun u h A=>appW p2 1 1 [(N .u8 0)] false (ag c 0) u h fun v i=>af .add (ag c 1) (N .i64 1) fun w=>m [v,w] i) ( tY d (ag c 0) fun x=>Q x d)) [(.sc (.slice none 0 0)),(N .i64 0)] e
def oL (p1:Nat) (M0:RM) (Q:ai) : Prop:=aV (.row [(N .u32 0),(N .u32 0),(N .u32 0),(N .u32 0),(N .u32 0),(N .u32 0),(N .u32 0),(N .u32 0),(N .u32 0),(N .u32 0),(N .u32 0),(N .u32 0),(N .u32 0),(N .u32 0),(N .u32 0),(N .u32 0),(N .u32 0),(N .u32 0),(N .u32 0),(N .u32 0),(N .u32 0),(N .u32 0),(N .u32 0),(N .u32 0),(N .u32 0),(N .u32 0),(N .u32 0),(N .u32 0),(N .u32 0),(N .u32 0),(N .u32 0),(N .u32 0),(N .u32 0),(N .u32 0),(N .u32 0),(N .u32 0),(N .u32 0),(N .u32 0),(N .u32 0),(N .u32 0),(N .u32 0),(N .u32 0),(N .u32 0),(N .u32 0),(N .u32 0),(N .u32 0),(N .u32 0),(N .u32 0),(N .u32 0),(N .u32 0),(N .u32 0),(N .u32 0),(N .u32 0),(N .u32 0),(N .u32 0),(N .u32 0),(N .u32 0),(N .u32 0),(N .u32 0),(N .u32 0),(N .u32 0),(N .u32 0),(N .u32 0),(N .u32 0)] false p1 0) (fun g=>.ptr g 0) M0 fun d e=>dV [(N .u32 0),(N .u32 0),(N .u32 0),(N .u32 0),(N .u32 0),(N .u32 0),(N .u32 0),(N .u32 0),(N .u32 0),(N .u32 0),(N .u32 0),(N .u32 0),(N .u32 0),(N .u32 0),(N .u32 0),(N .u32 0),(N .u32 0),(N .u32 0),(N .u32 0),(N .u32 0),(N .u32 0),(N .u32 0),(N .u32 0),(N .u32 0),(N .u32 0),(N .u32 0),(N .u32 0),(N .u32 0),(N .u32 0),(N .u32 0),(N .u32 0),(N .u32 0),(N .u32 0),(N .u32 0),(N .u32 0),(N .u32 0),(N .u32 0),(N .u32 0),(N .u32 0),(N .u32 0),(N .u32 0),(N .u32 0),(N .u32 0),(N .u32 0),(N .u32 0),(N .u32 0),(N .u32 0),(N .u32 0),(N .u32 0),(N .u32 0),(N .u32 0),(N .u32 0),(N .u32 0),(N .u32 0),(N .u32 0),(N .u32 0),(N .u32 0),(N .u32 0),(N .u32 0),(N .u32 0),(N .u32 0),(N .u32 0),(N .u32 0),(N .u32 0)] [(0,1,(N .u32 1116352408)),(1,1,(N .u32 1899447441)),(2,1,(N .u32 3049323471)),(3,1,(N .u32 3921009573)),(4,1,(N .u32 961987163)),(5,1,(N .u32 1508970993)),(6,1,(N .u32 2453635748)),(7,1,(N .u32 2870763221)),(8,1,(N .u32 3624381080)),(9,1,(N .u32 310598401)),(10,1,(N .u32 607225278)),(11,1,(N .u32 1426881987)),(12,1,(N .u32 1925078388)),(13,1,(N .u32 2162078206)),(14,1,(N .u32 2614888103)),(15,1,(N .u32 3248222580)),(16,1,(N .u32 3835390401)),(17,1,(N .u32 4022224774)),(18,1,(N .u32 264347078)),(19,1,(N .u32 604807628)),(20,1,(N .u32 770255983)),(21,1,(N .u32 1249150122)),(22,1,(N .u32 1555081692)),(23,1,(N .u32 1996064986)),(24,1,(N .u32 2554220882)),(25,1,(N .u32 2821834349)),(26,1,(N .u32 2952996808)),(27,1,(N .u32 3210313671)),(28,1,(N .u32 3336571891)),(29,1,(N .u32 3584528711)),(30,1,(N .u32 113926993)),(31,1,(N .u32 338241895)),(32,1,(N .u32 666307205)),(33,1,(N .u32 773529912)),(34,1,(N .u32 1294757372)),(35,1,(N .u32 1396182291)),(36,1,(N .u32 1695183700)),(37,1,(N .u32 1986661051)),(38,1,(N .u32 2177026350)),(39,1,(N .u32 2456956037)),(40,1,(N .u32 2730485921)),(41,1,(N .u32 2820302411)),(42,1,(N .u32 3259730800)),(43,1,(N .u32 3345764771)),(44,1,(N .u32 3516065817)),(45,1,(N .u32 3600352804)),(46,1,(N .u32 4094571909)),(47,1,(N .u32 275423344)),(48,1,(N .u32 430227734)),(49,1,(N .u32 506948616)),(50,1,(N .u32 659060556)),(51,1,(N .u32 883997877)),(52,1,(N .u32 958139571)),(53,1,(N .u32 1322822218)),(54,1,(N .u32 1537002063)),(55,1,(N .u32 1747873779)),(56,1,(N .u32 1955562222)),(57,1,(N .u32 2024104815)),(58,1,(N .u32 2227730452)),(59,1,(N .u32 2361852424)),(60,1,(N .u32 2428436474)),(61,1,(N .u32 2756734187)),(62,1,(N .u32 3204031479)),(63,1,(N .u32 3329325298))] fun i=>aA e d i 64 fun c=>aH c d 64 fun h=>Q h c
def vO (p1:Nat) (M0:RM) (Q:ai) : Prop:=aV (.row [(N .u32 0),(N .u32 0),(N .u32 0),(N .u32 0),(N .u32 0),(N .u32 0),(N .u32 0),(N .u32 0)] false p1 0) (fun g=>.ptr g 0) M0 fun d e=>dV [(N .u32 0),(N .u32 0),(N .u32 0),(N .u32 0),(N .u32 0),(N .u32 0),(N .u32 0),(N .u32 0)] [(0,1,(N .u32 1779033703)),(1,1,(N .u32 3144134277)),(2,1,(N .u32 1013904242)),(3,1,(N .u32 2773480762)),(4,1,(N .u32 1359893119)),(5,1,(N .u32 2600822924)),(6,1,(N .u32 528734635)),(7,1,(N .u32 1541459225))] fun i=>aA e d i 8 fun c=>aH c d 8 fun h=>Q h c
def nO (p1:Nat) (p2:aj) (p3:Nat) (a0 a1 a2:AV) (M0:RM) (Q:ai) : Prop:=aV (.row [(N .u32 0),(N .u32 0),(N .u32 0),(N .u32 0),(N .u32 0),(N .u32 0),(N .u32 0),(N .u32 0),(N .u32 0),(N .u32 0),(N .u32 0),(N .u32 0),(N .u32 0),(N .u32 0),(N .u32 0),(N .u32 0),(N .u32 0),(N .u32 0),(N .u32 0),(N .u32 0),(N .u32 0),(N .u32 0),(N .u32 0),(N .u32 0),(N .u32 0),(N .u32 0),(N .u32 0),(N .u32 0),(N .u32 0),(N .u32 0),(N .u32 0),(N .u32 0),(N .u32 0),(N .u32 0),(N .u32 0),(N .u32 0),(N .u32 0),(N .u32 0),(N .u32 0),(N .u32 0),(N .u32 0),(N .u32 0),(N .u32 0),(N .u32 0),(N .u32 0),(N .u32 0),(N .u32 0),(N .u32 0),(N .u32 0),(N .u32 0),(N .u32 0),(N .u32 0),(N .u32 0),(N .u32 0),(N .u32 0),(N .u32 0),(N .u32 0),(N .u32 0),(N .u32 0),(N .u32 0),(N .u32 0),(N .u32 0),(N .u32 0),(N .u32 0)] false p1 0) (fun vc=>.ptr vc 0) M0 fun i vg=>bA (fun vn j m=>af .lss (ag j 0) (N .i64 16) fun xz=>au xz ( af .mul (N .i64 4) (ag j 0) fun x0=>bf a1 x0 1 fun x1=>ak m x1 fun x2=>oF .u32 x2 fun x3=>oZ .shl x3 (N .u64 24) fun x4=>af .mul (N .i64 4) (ag j 0) fun x5=>af .add x5 (N .i64 1) fun x6=>bf a1 x6 1 fun x7=>ak m x7 fun x8=>oF .u32 x8 fun x9=>oZ .shl x9 (N .u64 16) fun ya=>af .or x4 ya fun yb=>af .mul (N .i64 4) (ag j 0) fun yc=>af .add yc (N .i64 2) fun yd=>bf a1 yd 1 fun ye=>ak m ye fun yf=>oF .u32 yf fun yg=>oZ .shl yg (N .u64 8) fun yh=>af .or yb yh fun yi=>af .mul (N .i64 4) (ag j 0) fun yj=>af .add yj (N .i64 3) fun yk=>bf a1 yk 1 fun yl=>ak m yl fun ym=>oF .u32 ym fun yn=>af .or yi yn fun yo=>dL i (ag j 0) 64 1 fun yp=>aA m yp yo 1 fun vh=>af .add (ag j 0) (N .i64 1) fun yq=>vn [yq] vh) ( bA (fun vo l h=>af .lss (ag l 0) (N .i64 64) fun yr=>au yr ( af .sub (ag l 0) (N .i64 15) fun yt=>dL i yt 64 1 fun yu=>ak h yu fun vd=>af .sub (ag l 0) (N .i64 2) fun yv=>dL i yv 64 1 fun yw=>ak h yw fun ve=>af .sub (ag l 0) (N .i64 16) fun yx=>dL i yx 64 1 fun t=>ak h t fun u=>oZ .shr vd (N .u64 3) fun y5=>af .sub (ag l 0) (N .i64 7) fun y8=>dL i y8 64 1 fun v=>ak h v fun w=>oZ .shr ve (N .u64 10) fun zh=>p2 [vd,(N .i64 7)] h fun y2 X=>ak X t fun y1=>(y1=u∧ak X v fun zc=>(zc=w∧p2 [vd,(N .i64 18)] X fun y3 Z=>ak Z t fun y0=>(y0=u∧ak Z v fun zb=>(zb=w∧af .xor y2 y3 fun y4=>af .xor y4 y5 fun y6=>af .add u y6 fun y7=>af .add y7 w fun zd=>p2 [ve,(N .i64 17)] Z fun ze va=>ak va t fun yz=>(yz=u∧ak va v fun za=>(za=w∧p2 [ve,(N .i64 19)] va fun zf vb=>ak vb t fun yy=>(yy=u∧ak vb v fun y9=>(y9=w∧af .xor ze zf fun zg=>af .xor zg zh fun zi=>af .add zd zi fun zj=>dL i (ag l 0) 64 1 fun zk=>aA vb zk zj 1 fun vm=>af .add (ag l 0) (N .i64 1) fun ys=>vo [ys] vm))))))))) ( mU a0 fun vr=>aH h vr 8 fun vs=>aV (.row [(N .u32 0),(N .u32 0),(N .u32 0),(N .u32 0),(N .u32 0),(N .u32 0),(N .u32 0),(N .u32 0)] false p3 0) (fun vc=>.ptr vc 0) h fun c vi=>aA vi c vs 8 fun vj=>bA (fun vp W d=>af .lss (ag W 0) (N .i64 64) fun vt=>au vt ( dL c (N .i64 4) 8 1 fun vu=>ak d vu fun p=>dL c (N .i64 0) 8 1 fun vv=>ak d vv fun q=>dL c (N .i64 7) 8 1 fun y=>ak d y fun z=>dL c (N .i64 5) 8 1 fun A=>ak d A fun B=>af .and p B fun v8=>Fj p fun v9=>dL c (N .i64 6) 8 1 fun C=>ak d C fun D=>af .and v9 D fun wd=>af .xor v8 wd fun we=>mU a2 fun wg=>dL wg (ag W 0) 64 1 fun E=>ak d E fun F=>dL i (ag W 0) 64 1 fun G=>ak d G fun H=>p2 [p,(N .i64 6)] d fun vz n=>ak n y fun vy=>(vy=z∧ak n A fun v7=>(v7=B∧ak n C fun wc=>(wc=D∧ak n E fun wj=>(wj=F∧ak n G fun wn=>(wn=H∧p2 [p,(N .i64 11)] n fun v0 o=>ak o y fun vx=>(vx=z∧ak o A fun v6=>(v6=B∧ak o C fun wb=>(wb=D∧ak o E fun wi=>(wi=F∧ak o G fun wm=>(wm=H∧af .xor vz v0 fun v1=>p2 [p,(N .i64 25)] o fun v2 e=>ak e y fun vw=>(vw=z∧ak e A fun v5=>(v5=B∧ak e C fun wa=>(wa=D∧ak e E fun wh=>(wh=F∧ak e G fun wl=>(wl=H∧af .xor v1 v2 fun v3=>af .add z v3 fun v4=>af .add v4 we fun wf=>af .add wf F fun wk=>af .add wk H fun vf=>dL c (N .i64 1) 8 1 fun I=>ak e I fun L=>af .and q L fun ww=>dL c (N .i64 2) 8 1 fun O=>ak e O fun P=>af .and q P fun w0=>af .xor ww w0 fun w1=>dL c (N .i64 1) 8 1 fun R=>ak e R fun S=>dL c (N .i64 2) 8 1 fun U=>ak e U fun V=>af .and S V fun w8=>af .xor w1 w8 fun w9=>p2 [q,(N .i64 2)] e fun wo r=>ak r I fun wv=>(wv=L∧ak r O fun wz=>(wz=P∧ak r R fun w4=>(w4=S∧ak r U fun w7=>(w7=V∧p2 [q,(N .i64 13)] r fun wp s=>ak s I fun wu=>(wu=L∧ak s O fun wy=>(wy=P∧ak s R fun w3=>(w3=S∧ak s U fun w6=>(w6=V∧af .xor wo wp fun wq=>p2 [q,(N .i64 22)] s fun wr g=>ak g I fun wt=>(wt=L∧ak g O fun wx=>(wx=P∧ak g R fun w2=>(w2=S∧ak g U fun w5=>(w5=V∧af .xor wq wr fun ws=>af .add ws w9 fun xa=>af .add vf xa fun xb=>dL c (N .i64 1) 8 1 fun xc=>ak g xc fun xd=>dL c (N .i64 2) 8 1 fun xe=>ak g xe fun xf=>dL c (N .i64 3) 8 1 fun xg=>ak g xg fun xh=>af .add xh vf fun xi=>dL c (N .i64 5) 8 1 fun xj=>ak g xj fun xk=>dL c (N .i64 6) 8 1 fun xl=>ak g xl fun xm=>dV [(N .u32 0),(N .u32 0),(N .u32 0),(N .u32 0),(N .u32 0),(N .u32 0),(N .u32 0),(N .u32 0)] [(0,1,xb),(1,1,q),(2,1,xd),(3,1,xf),(4,1,xi),(5,1,p),(6,1,xk),(7,1,xm)] fun xn=>aA g c xn 8 fun vk=>af .add (ag W 0) (N .i64 1) fun xo=>vp [xo] vk)))))))))))))))))))))))))))) ( aH d c 8 fun xp=>bA (fun vq x Y=>af .lss (ag x 0) (N .i64 8) fun xq=>au xq ( EK xp (ag x 0) 8 fun xr=>mU a0 fun xs=>dL xs (ag x 0) 8 1 fun xt=>ak Y xt fun xu=>af .add xu xr fun xv=>mU a0 fun xw=>dL xw (ag x 0) 8 1 fun xx=>aA Y xx xv 1 fun vl=>af .add (ag x 0) (N .i64 1) fun xy=>vq [xy] vl) ( Q (.tup []) Y)) [(N .i64 0)] d)) [(N .i64 0)] vj)) [(N .i64 16)] m)) [(N .i64 0)] vg
def xX (p1:aj) (a0 a1:AV) (M0:RM) (Q:ai) : Prop:=Pf a1 fun d=>p1 [a0,d] M0 fun e c=>Q e c
def iQ (a0 a1:AV) (M0:RM) (Q:ai) : Prop:=oF .u64 a1 fun i=>af .and i (N .u64 31) fun c=>oZ .shl a0 c fun d=>af .sub (N .u64 32) c fun e=>oZ .shr a0 e fun g=>af .or d g fun h=>Q h M0
set_option maxRecDepth 10000
def fD:Enc Int:=⟨1,fun n=>[N .u32 n],fun _=>rfl,fun _=>rfl⟩
theorem pG (xs:List Int) : fD.row xs=xs.map (N .u32):=by
 induction xs with
 | nil=>rfl
 | cons x xs ih=>rw[Enc.jD,ih]; rfl
theorem jf (xs:List Int) : (fD.row xs).length=xs.length:=by rw[pG,List.length_map]
def gM (a b:Int) : Int:=IntKind.u32.wrap (a + b)
def nK (x n:Int) : Int:=ES .u32 (uJ .u32 x n) (Kk .u32 x (32 - n))
def K6 (a b c:Int) : Int:=Aw .u32 (Aw .u32 a b) c
def XT (x:Int) : Int:=K6 (nK x 7) (nK x 18) (uJ .u32 x 3)
def XP (x:Int) : Int:=K6 (nK x 17) (nK x 19) (uJ .u32 x 10)
def Yv (x:Int) : Int:=Aw .u32 4294967295 x
def XB (e f g:Int) : Int:=Aw .u32 (zO .u32 e f) (zO .u32 (Yv e) g)
def XV (a b c:Int) : Int:=Aw .u32 (Aw .u32 (zO .u32 a b) (zO .u32 a c)) (zO .u32 b c)
def Rl (b:Str) (i:Nat) : Int:=ES .u32 (ES .u32 (ES .u32 (Kk .u32 (IntKind.u32.wrap ((b.getD (4 * i) 0).toNat:Int)) 24) (Kk .u32 (IntKind.u32.wrap ((b.getD (4 * i + 1) 0).toNat:Int)) 16)) (Kk .u32 (IntKind.u32.wrap ((b.getD (4 * i + 2) 0).toNat:Int)) 8)) (IntKind.u32.wrap ((b.getD (4 * i + 3) 0).toNat:Int))
def Nl (l:List Int) (i:Nat) : Int:=gM (gM (gM (l.getD (i - 16) 0) (XT (l.getD (i - 15) 0))) (l.getD (i - 7) 0)) (XP (l.getD (i - 2) 0))
def sched (b:Str) : Nat→List Int
 | 0=>[]
 | i + 1=>sched b i++[if i<16 then Rl b i else Nl (sched b i) i]
theorem nV (b:Str) : ∀ i,(sched b i).length=i
 | 0=>rfl
 | i + 1=>by rw[sched,List.length_append,nV b i]; rfl
def VQ (v:List Int) (k w:Int) : List Int:=match v with
 | [a,b,c,d,e,f,g,h] =>
   [gM (gM (gM (gM (gM h (K6 (nK e 6) (nK e 11) (nK e 25))) (XB e f g)) k) w) (gM (K6 (nK a 2) (nK a 13) (nK a 22)) (XV a b c)),a,b,c,
    gM d (gM (gM (gM (gM h (K6 (nK e 6) (nK e 11) (nK e 25))) (XB e f g)) k) w),e,f,g]
 | _=>v
def yV (k w:List Int) (h:List Int) : Nat→List Int
 | 0=>h
 | i + 1=>VQ (yV k w h i) (k.getD i 0) (w.getD i 0)
theorem eight {l:List Int} (h:l.length=8) : ∃ a b c d e f g i,l=[a,b,c,d,e,f,g,i]:=by
 rcases l with _ | ⟨a,_ | ⟨b,_ | ⟨c,_ | ⟨d,_ | ⟨e,_ | ⟨f,_ | ⟨g,_ | ⟨i,_ | ⟨j,l⟩⟩⟩⟩⟩⟩⟩⟩⟩ <;> first | (simp at h; done) | exact⟨_,_,_,_,_,_,_,_,rfl⟩ | (simp at h; omega)
theorem U3 {v:List Int} (h:v.length=8) (k w:Int) : (VQ v k w).length=8:=by
 obtain⟨a,b,c,d,e,f,g,i,rfl⟩:=eight h
 rfl
theorem DN (k w:List Int) {h:List Int} (hl:h.length=8) : ∀ i,(yV k w h i).length=8
 | 0=>hl
 | i + 1=>U3 (DN k w hl i) _ _
def qB (h k:List Int) (b:Str) : List Int:=List.zipWith gM h (yV k (sched b 64) h 64)
theorem OM {h:List Int} (k:List Int) (b:Str) (hl:h.length=8) : (qB h k b).length=8:=by
 unfold qB; rw[List.length_zipWith,DN k _ hl,hl]; rfl
section
variable {M:RM} {b T:Nat} {ws:List Int}
theorem tV (h:M.heap b=some (.row (fD.row ws) false T 0)) {i:Nat} (hi:i<ws.length) {K:AV→Prop} : ak M (.ptr b i) K=K (N .u32 (ws.getD i 0)):=by
 refine az h ?_
 rw[pG,List.getElem?_map,List.getElem?_eq_getElem hi]
 simp[List.getD,hi]
theorem AA (h:M.heap b=some (.row (fD.row ws) false T 0)) {i:Nat} (hi:i<ws.length) (x:Int) {K:RM→Prop} : aA M (.ptr b i) (N .u32 x) 1 K=K (M.put b (.row (fD.row (ws.set i x)) false T 0)):=by
 refine bM _ h (by rw[jf]; exact hi) rfl rfl ?_
 rw[pG,pG,List.map_set]
theorem iO {k:IntKind} {j:Int} {i len:Nat} (hj:j=(i:Int)) (hi:i<len) {K:AV→Prop} : dL (.ptr b 0) (N k j) len 1 K=K (.ptr b i):=by
 subst hj
 rw[Rs]
 simp only[Int.toNat_natCast,Nat.mul_one,Nat.zero_add]
 exact propext ⟨fun h=>h.2.2,fun h=>⟨by omega,by omega,h⟩⟩
end
theorem set_mid {l:List Int} {n:Nat} {x z:Int} (hn:0<n) : (l++List.replicate n z).set l.length x=(l++[x])++List.replicate (n - 1) z:=by
 obtain⟨m,rfl⟩ : ∃ m,n=m + 1:=⟨n - 1,by omega⟩
 rw[List.replicate_succ,List.set_append_right _ _ (Nat.le_refl _),Nat.sub_self]
 simp
theorem Qr {l r:List Int} {i:Nat} (h:i<l.length) : (l++r).getD i 0=l.getD i 0:=by simp[List.getD,List.getElem?_append_left h]
theorem Il (b:Str) {i:Nat} (hi:i<64) : (sched b i++List.replicate (64 - i) 0).set i (if i<16 then Rl b i else Nl (sched b i) i)=sched b (i + 1)++List.replicate (64 - (i + 1)) 0:=by
 have:=set_mid (l:=sched b i) (n:=64 - i) (x:=if i<16 then Rl b i else Nl (sched b i) i) (z:=0) (by omega)
 rw[nV] at this
 rw[this,sched]
 congr 2
def turns:List Int:=[2,6,7,11,13,17,18,19,22,25]
def NT (kd:IntKind) (c:aj) : Prop:=∀ {M:RM} {x n:Int} {Q:ai},n∈turns→Q (N .u32 (nK x n)) M→c [N .u32 x,N kd n] M Q
def RD (c:aj) : Prop:=∀ {M:RM} {x n:Int} {Q:ai},n∈turns→Q (N .u32 (nK x n)) M→c [N .u32 x,N .i64 (IntKind.i64.wrap (0 - n))] M Q
theorem PT:∀ n∈turns,zO .u64 (IntKind.u64.wrap (IntKind.i64.wrap (0 - n))) 31=32 - n:=by decide +kernel
theorem QN:∀ n∈turns,IntKind.u64.wrap (32 - (32 - n))=n∧IntKind.u64.wrap (32 - n)=32 - n∧0≤n∧0≤32 - n:=by decide +kernel
theorem Sq (k:IntKind) (a b:Int) : ES k a b=ES k b a:=by unfold ES; rw[BitVec.or_comm]
theorem Rb:RD fun args M Q=>∃ a0 a1,args=[a0,a1]∧iQ a0 a1 M Q:=by
 intro M x n Q hn hQ
 refine⟨_,_,rfl, ?_⟩
 unfold iQ
 obtain⟨h1,h2,h3,h4⟩:=QN n hn
 rw[qy,kU,PT n hn,Cx]
 refine⟨h4, ?_⟩
 rw[lY,h1,sH]
 refine⟨h3, ?_⟩
 rw[je,Sq]
 exact hQ
theorem QQ {c:aj} (hc:RD c) : NT .i64 fun args M Q=>∃ a0 a1,args=[a0,a1]∧xX c a0 a1 M Q:=by
 intro M x n Q hn hQ
 refine⟨_,_,rfl, ?_⟩
 unfold xX
 rw[Vn]
 exact hc hn hQ
end Go.Ab.Sha
namespace Go.Ab.Sha
open Go Go.Ab Go.Ab.Sm
theorem NP {i:Nat} (hi:i<1000) {K:AV→Prop} : af .mul (N .i64 4) (N .i64 (i:Int)) K=K (N .i64 ((4 * i:Nat) : Int)):=by
 rw[uf,eO (by omega) (by omega)]; rfl
theorem pO {i:Nat} (j:Nat) (hi:i<1000000000) (hj:j<1000) {K:AV→Prop} {n:Int} (hn:n=(j:Int)) : af .add (N .i64 (i:Int)) (N .i64 n) K=K (N .i64 ((i + j:Nat) : Int)):=by
 subst hn; exact addN (by omega)
theorem Od {i:Nat} (j:Nat) (hi:i<1000000000) (hj:j≤i) {K:AV→Prop} {n:Int} (hn:n=(j:Int)) : af .sub (N .i64 (i:Int)) (N .i64 n) K=K (N .i64 ((i - j:Nat) : Int)):=by
 subst hn; exact SL hj (by omega)
theorem DJ {i:Nat} (j:Nat) {K:AV→Prop} {n:Int} (hn:n=(j:Int)) : af .lss (N .i64 (i:Int)) (N .i64 n) K=K (Bo (decide (i<j))):=by
 subst hn; exact jC
theorem Bs.IZ {M:RM} {v:AV} {b:Str} (h:Bs M v b) {i:Nat} (hi:i<b.length) {K:AV→Prop} : (bf v (N .i64 (i:Int)) 1 fun t=>ak M t K)=K (By (b.getD i 0)):=by
 rw[h.read hi]; simp[List.getD,hi]
theorem Sj {h v:List Int} {j:Nat} (hj:j<8) (hh:h.length=8) (hv:v.length=8) :
  ((List.zipWith gM h v).take j++h.drop j).set j (gM (h.getD j 0) (v.getD j 0))=(List.zipWith gM h v).take (j + 1)++h.drop (j + 1):=by
 have hz:(List.zipWith gM h v).length=8:=by rw[List.length_zipWith,hh,hv]; rfl
 have h1:((List.zipWith gM h v).take j).length=j:=by rw[List.length_take]; omega
 have h2:h.drop j=h[j] :: h.drop (j + 1):=List.drop_eq_getElem_cons (by omega)
 rw[h2,List.set_append_right _ _ (by omega),h1,Nat.sub_self,List.set_cons_zero,List.take_succ_eq_append_getElem (by omega),List.append_assoc]
 congr 1
 rw[List.getElem_zipWith]
 simp[List.getD,show j<h.length by omega,show j<v.length by omega]
theorem Ut {h v:List Int} {j:Nat} (hj:j<8) (hh:h.length=8) (hv:v.length=8) : ((List.zipWith gM h v).take j++h.drop j).getD j 0=h.getD j 0:=by
 have hz:(List.zipWith gM h v).length=8:=by rw[List.length_zipWith,hh,hv]; rfl
 have h1:((List.zipWith gM h v).take j).length=j:=by rw[List.length_take]; omega
 simp[List.getD,List.getElem?_append_right (show((List.zipWith gM h v).take j).length≤j by omega),h1]
theorem Ug {h v:List Int} {j:Nat} (hj:j≤8) (hh:h.length=8) (hv:v.length=8) : ((List.zipWith gM h v).take j++h.drop j).length=8:=by
 rw[List.length_append,List.length_take,List.length_drop,List.length_zipWith,hh,hv]; omega
theorem mr {cs:List AV} {rest:List (Nat × Nat × AV)} {off:Nat} {k:IntKind} {n:Int} (h:off<cs.length) : mD cs ((off,1,N k n) :: rest)=mD (cs.set off (N k n)) rest:=by
 rw[mD,if_pos ⟨rfl,rfl,by omega⟩,List.set_eq_take_append_cons_drop,if_pos h,List.append_assoc]
 rfl
theorem Xi {a b c d e f g h:Int} : mD [N .u32 0,N .u32 0,N .u32 0,N .u32 0,N .u32 0,N .u32 0,N .u32 0,N .u32 0] [(0,1,N .u32 a),(1,1,N .u32 b),(2,1,N .u32 c),(3,1,N .u32 d),(4,1,N .u32 e),(5,1,N .u32 f),(6,1,N .u32 g),(7,1,N .u32 h)]=some (fD.row [a,b,c,d,e,f,g,h]):=by
 rw[mr (by decide)]
 simp only[List.set]
 rw[mr (by simp)]
 simp only[List.set]
 rw[mr (by simp)]
 simp only[List.set]
 rw[mr (by simp)]
 simp only[List.set]
 rw[mr (by simp)]
 simp only[List.set]
 rw[mr (by simp)]
 simp only[List.set]
 rw[mr (by simp)]
 simp only[List.set]
 rw[mr (by simp)]
 simp only[List.set]
 rfl
def OI (TK TS:Nat) (c:aj) : Prop:=∀ {M:RM} {sb kb:Nat} {bv:AV} {h k:List Int} {b:Str} {Q:ai},M.heap sb=some (.row (fD.row h) false TS 0)→sb<M.next→h.length=8 →
 M.heap kb=some (.row (fD.row k) false TK 0)→kb<M.next→kb≠sb→k.length=64→Bs M bv b→b.length=64 →
 (∀ M',ae [sb] M M'→M'.heap sb=some (.row (fD.row (qB h k b)) false TS 0)→Q (.tup []) M')→c [.ptr sb 0,bv,.ptr kb 0] M Q
theorem QP {TK TS:Nat} {ct:aj} (ht:NT .i64 ct) : OI TK TS fun args M Q=>∃ a0 a1 a2,args=[a0,a1,a2]∧nO TK ct TS a0 a1 a2 M Q:=by
 intro M sb kb bv h k b Q hs hsl hhl hk hkl hks hkn hb hbl hQ
 refine⟨_,_,_,rfl, ?_⟩
 unfold nO
 rw[aF]
 have k0:ae [] M (M.push (.row (fD.row (List.replicate 64 0)) false TK 0)):=(ae.refl _ _).push _
 have n0:(M.push (.row (fD.row (List.replicate 64 0)) false TK 0)).heap M.next=some (.row (fD.row (sched b 0++List.replicate (64 - 0) 0)) false TK 0):=by simp[RM.push,sched]
 have l0:M.next<(M.push (.row (fD.row (List.replicate 64 0)) false TK 0)).next:=by simp[RM.push]
 show bA _ _ (M.push (.row (fD.row (List.replicate 64 0)) false TK 0))
 generalize M.push (.row (fD.row (List.replicate 64 0)) false TK 0)=M0 at *
 refine aP (fun m ys M3=>∃ i:Nat,m=16 - i∧ys=[N .i64 (i:Int)]∧i≤16∧ae [] M M3∧M.next<M3.next∧M3.heap M.next=some (.row (fD.row (sched b i++List.replicate (64 - i) 0)) false TK 0)) _
  ⟨0,rfl,rfl,by omega,k0,l0,n0⟩ ?_
 rintro next m ys M3 hnext ⟨i,rfl,rfl,hi,k3,l3,n3⟩
 simp only[iN]
 rw[DJ 16 (by rfl)]
 have hb3:=hb.keep k3 (by simp)
 refine aZ (fun hc=>?_) fun hc=>?_
 ·have SC:i<16:=of_decide_eq_true hc
  rw[NP (by omega),hb3.IZ (by omega),By,qy,Cx]
  refine⟨by decide, ?_⟩
  rw[NP (by omega),pO 1 (by omega) (by omega) (by rfl),hb3.IZ (by omega),By,qy,Cx]
  refine⟨by decide, ?_⟩
  rw[je,NP (by omega),pO 2 (by omega) (by omega) (by rfl),hb3.IZ (by omega),By,qy,Cx]
  refine⟨by decide, ?_⟩
  rw[je,NP (by omega),pO 3 (by omega) (by omega) (by rfl),hb3.IZ (by omega),By,qy,je,iO rfl (by omega)]
  have e:=Il b (i:=i) (by omega)
  rw[if_pos SC] at e
  have hlen:(sched b i++List.replicate (64 - i) 0).length=64:=by rw[List.length_append,nV,List.length_replicate]; omega
  rw[AA n3 (by omega),pO 1 (by omega) (by omega) (by rfl)]
  refine hnext _ _ _ (by omega) ⟨i + 1,rfl,rfl,by omega,k3.new _ (Nat.le_refl _),l3, ?_⟩
  rw[ay,← e]
  rfl
 have SC:i=16:=by have:=of_decide_eq_false hc; omega
 subst SC
 clear hnext
 refine aP (fun m ys M4=>∃ i:Nat,m=64 - i∧ys=[N .i64 (i:Int)]∧16≤i∧i≤64∧ae [] M M4∧M.next<M4.next∧M4.heap M.next=some (.row (fD.row (sched b i++List.replicate (64 - i) 0)) false TK 0)) _
  ⟨16,rfl,rfl,by omega,by omega,k3,l3,n3⟩ ?_
 rintro next m ys M4 hnext ⟨i,rfl,rfl,hi0,hi,k4,l4,n4⟩
 simp only[iN]
 rw[DJ 64 (by rfl)]
 refine aZ (fun hc=>?_) fun hc=>?_
 ·have Dw:i<64:=of_decide_eq_true hc
  have hlen:(sched b i++List.replicate (64 - i) 0).length=64:=by rw[List.length_append,nV,List.length_replicate]; omega
  have ld:∀ (j:Nat),j<i→∀ {K:AV→Prop},ak M4 (.ptr M.next j) K=K (N .u32 ((sched b i).getD j 0)):=fun j hj K=>by
   rw[tV n4 (by omega),Qr (by rw[nV]; exact hj)]
  have L15:∀ {K:AV→Prop},ak M4 (.ptr M.next (i - 15)) K=K (N .u32 ((sched b i).getD (i - 15) 0)):=ld _ (by omega)
  have L2:∀ {K:AV→Prop},ak M4 (.ptr M.next (i - 2)) K=K (N .u32 ((sched b i).getD (i - 2) 0)):=ld _ (by omega)
  have L16:∀ {K:AV→Prop},ak M4 (.ptr M.next (i - 16)) K=K (N .u32 ((sched b i).getD (i - 16) 0)):=ld _ (by omega)
  have L7:∀ {K:AV→Prop},ak M4 (.ptr M.next (i - 7)) K=K (N .u32 ((sched b i).getD (i - 7) 0)):=ld _ (by omega)
  rw[Od 15 (by omega) (by omega) (by rfl),iO rfl (by omega),L15,Od 2 (by omega) (by omega) (by rfl),iO rfl (by omega),L2,Od 16 (by omega) (by omega) (by rfl),iO rfl (by omega),L16,sH]
  refine⟨by decide, ?_⟩
  rw[Od 7 (by omega) (by omega) (by rfl),iO rfl (by omega),L7,sH]
  refine⟨by decide, ?_⟩
  refine ht (by decide) ?_
  rw[L16]; refine⟨rfl, ?_⟩
  rw[L7]; refine⟨rfl, ?_⟩
  refine ht (by decide) ?_
  rw[L16]; refine⟨rfl, ?_⟩
  rw[L7]; refine⟨rfl, ?_⟩
  rw[iT,iT,eH,eH]
  refine ht (by decide) ?_
  rw[L16]; refine⟨rfl, ?_⟩
  rw[L7]; refine⟨rfl, ?_⟩
  refine ht (by decide) ?_
  rw[L16]; refine⟨rfl, ?_⟩
  rw[L7]; refine⟨rfl, ?_⟩
  rw[iT,iT,eH,iO rfl (by omega)]
  have e:=Il b (i:=i) (by omega)
  rw[if_neg (by omega)] at e
  rw[AA n4 (by omega),pO 1 (by omega) (by omega) (by rfl)]
  refine hnext _ _ _ (by omega) ⟨i + 1,rfl,rfl,by omega,by omega,k4.new _ (Nat.le_refl _),l4, ?_⟩
  rw[ay,← e]
  rfl
 have Dw:i=64:=by have:=of_decide_eq_false hc; omega
 subst Dw
 clear hnext
 rw[Nat.sub_self,List.replicate_zero,List.append_nil] at n4
 have hwl:=nV b 64
 generalize hwe:sched b 64=w at *
 have hs4:=k4.ax hs hsl (by simp)
 have hk4:=k4.ax hk hkl (by simp)
 rw[jI,aN hs4 (by rw[jf,hhl]),aF]
 have n5:(M4.push (.row [N .u32 0,N .u32 0,N .u32 0,N .u32 0,N .u32 0,N .u32 0,N .u32 0,N .u32 0] false TS 0)).heap M4.next=some (.row [N .u32 0,N .u32 0,N .u32 0,N .u32 0,N .u32 0,N .u32 0,N .u32 0,N .u32 0] false TS 0):=by simp[RM.push]
 rw[Bj n5 (by rw[jf,hhl]) (by rfl) (fD.jR h)]
 have k5:ae [] M4 ((M4.push (.row [N .u32 0,N .u32 0,N .u32 0,N .u32 0,N .u32 0,N .u32 0,N .u32 0,N .u32 0] false TS 0)).put M4.next (.row (fD.row h) false TS 0)):=((ae.refl _ _).push _).new _ (Nat.le_refl _)
 have n5' : ((M4.push (.row [N .u32 0,N .u32 0,N .u32 0,N .u32 0,N .u32 0,N .u32 0,N .u32 0,N .u32 0] false TS 0)).put M4.next (.row (fD.row h) false TS 0)).heap M4.next=some (.row (fD.row (yV k w h 0)) false TS 0):=ay _
 have l5:M4.next<((M4.push (.row [N .u32 0,N .u32 0,N .u32 0,N .u32 0,N .u32 0,N .u32 0,N .u32 0,N .u32 0] false TS 0)).put M4.next (.row (fD.row h) false TS 0)).next:=by simp[RM.push,RM.put]
 generalize (M4.push (.row [N .u32 0,N .u32 0,N .u32 0,N .u32 0,N .u32 0,N .u32 0,N .u32 0,N .u32 0] false TS 0)).put M4.next (.row (fD.row h) false TS 0)=M5 at *
 refine aP (fun m ys M6=>∃ i:Nat,m=64 - i∧ys=[N .i64 (i:Int)]∧i≤64∧ae [] M4 M6∧M4.next<M6.next∧M6.heap M4.next=some (.row (fD.row (yV k w h i)) false TS 0)) _
  ⟨0,rfl,rfl,by omega,k5,l5,n5'⟩ ?_
 rintro next m ys M6 hnext ⟨i,rfl,rfl,hi,k6,l6,n6⟩
 simp only[iN]
 rw[DJ 64 (by rfl)]
 have hs6:=k6.ax hs4 (Nat.lt_of_lt_of_le hsl k4.next) (by simp)
 have hk6:=k6.ax hk4 (Nat.lt_of_lt_of_le hkl k4.next) (by simp)
 have n46:=k6.ax n4 l4 (by simp)
 have hrl:=DN k w hhl i
 refine aZ (fun hc=>?_) fun hc=>?_
 ·have Dw:i<64:=of_decide_eq_true hc
  have hstep:yV k w h (i + 1)=VQ (yV k w h i) (k.getD i 0) (w.getD i 0):=rfl
  obtain⟨va,vb,vc,vd,ve,vf,vg,vh,hv⟩:=eight hrl
  rw[hv] at n6 hstep
  have hrow:fD.row [va,vb,vc,vd,ve,vf,vg,vh]=[N .u32 va,N .u32 vb,N .u32 vc,N .u32 vd,N .u32 ve,N .u32 vf,N .u32 vg,N .u32 vh]:=rfl
  rw[hrow] at n6
  have I:∀ (j:Nat),j<8→∀ {K:AV→Prop},dL (.ptr M4.next 0) (N .i64 (j:Int)) 8 1 K=K (.ptr M4.next j):=fun j hj K=>iO rfl hj
  have I0:∀ {K:AV→Prop},dL (.ptr M4.next 0) (N .i64 0) 8 1 K=K (.ptr M4.next 0):=I 0 (by omega)
  have I1:∀ {K:AV→Prop},dL (.ptr M4.next 0) (N .i64 1) 8 1 K=K (.ptr M4.next 1):=I 1 (by omega)
  have I2:∀ {K:AV→Prop},dL (.ptr M4.next 0) (N .i64 2) 8 1 K=K (.ptr M4.next 2):=I 2 (by omega)
  have I3:∀ {K:AV→Prop},dL (.ptr M4.next 0) (N .i64 3) 8 1 K=K (.ptr M4.next 3):=I 3 (by omega)
  have I4:∀ {K:AV→Prop},dL (.ptr M4.next 0) (N .i64 4) 8 1 K=K (.ptr M4.next 4):=I 4 (by omega)
  have I5:∀ {K:AV→Prop},dL (.ptr M4.next 0) (N .i64 5) 8 1 K=K (.ptr M4.next 5):=I 5 (by omega)
  have I6:∀ {K:AV→Prop},dL (.ptr M4.next 0) (N .i64 6) 8 1 K=K (.ptr M4.next 6):=I 6 (by omega)
  have I7:∀ {K:AV→Prop},dL (.ptr M4.next 0) (N .i64 7) 8 1 K=K (.ptr M4.next 7):=I 7 (by omega)
  have L0:∀ {K:AV→Prop},ak M6 (.ptr M4.next 0) K=K (N .u32 va):=az n6 rfl
  have L1:∀ {K:AV→Prop},ak M6 (.ptr M4.next 1) K=K (N .u32 vb):=az n6 rfl
  have L2:∀ {K:AV→Prop},ak M6 (.ptr M4.next 2) K=K (N .u32 vc):=az n6 rfl
  have L3:∀ {K:AV→Prop},ak M6 (.ptr M4.next 3) K=K (N .u32 vd):=az n6 rfl
  have L4:∀ {K:AV→Prop},ak M6 (.ptr M4.next 4) K=K (N .u32 ve):=az n6 rfl
  have L5:∀ {K:AV→Prop},ak M6 (.ptr M4.next 5) K=K (N .u32 vf):=az n6 rfl
  have L6:∀ {K:AV→Prop},ak M6 (.ptr M4.next 6) K=K (N .u32 vg):=az n6 rfl
  have L7:∀ {K:AV→Prop},ak M6 (.ptr M4.next 7) K=K (N .u32 vh):=az n6 rfl
  have Ik:∀ {K:AV→Prop},dL (.ptr kb 0) (N .i64 (i:Int)) 64 1 K=K (.ptr kb i):=iO rfl Dw
  have Iw:∀ {K:AV→Prop},dL (.ptr M.next 0) (N .i64 (i:Int)) 64 1 K=K (.ptr M.next i):=iO rfl Dw
  have Lk:∀ {K:AV→Prop},ak M6 (.ptr kb i) K=K (N .u32 (k.getD i 0)):=tV hk6 (by omega)
  have Lw:∀ {K:AV→Prop},ak M6 (.ptr M.next i) K=K (N .u32 (w.getD i 0)):=tV n46 (by omega)
  simp only[I0,I1,I2,I3,I4,I5,I6,I7,L0,L1,L2,L3,L4,L5,L6,L7,jI,Ik,Iw,Lk,Lw,kU,je,iT,eH,nM,true_and]
  refine ht (by decide) ?_
  simp only[I0,I1,I2,I3,I4,I5,I6,I7,L0,L1,L2,L3,L4,L5,L6,L7,jI,Ik,Iw,Lk,Lw,kU,je,iT,eH,nM,true_and]
  refine ht (by decide) ?_
  simp only[I0,I1,I2,I3,I4,I5,I6,I7,L0,L1,L2,L3,L4,L5,L6,L7,jI,Ik,Iw,Lk,Lw,kU,je,iT,eH,nM,true_and]
  refine ht (by decide) ?_
  simp only[I0,I1,I2,I3,I4,I5,I6,I7,L0,L1,L2,L3,L4,L5,L6,L7,jI,Ik,Iw,Lk,Lw,kU,je,iT,eH,nM,true_and]
  refine ht (by decide) ?_
  simp only[I0,I1,I2,I3,I4,I5,I6,I7,L0,L1,L2,L3,L4,L5,L6,L7,jI,Ik,Iw,Lk,Lw,kU,je,iT,eH,nM,true_and]
  refine ht (by decide) ?_
  simp only[I0,I1,I2,I3,I4,I5,I6,I7,L0,L1,L2,L3,L4,L5,L6,L7,jI,Ik,Iw,Lk,Lw,kU,je,iT,eH,nM,true_and]
  refine ht (by decide) ?_
  simp only[I0,I1,I2,I3,I4,I5,I6,I7,L0,L1,L2,L3,L4,L5,L6,L7,jI,Ik,Iw,Lk,Lw,kU,je,iT,eH,nM,true_and]
  rw[iJ]
  refine⟨_,Xi, ?_⟩
  rw[Bj n6 (by rw[jf]; rfl) (by rfl) (fD.jR _),show(IntKind.i64.wrap ((i:Int) + 1))=((i + 1:Nat) : Int) from lT (by omega)]
  refine hnext _ _ _ (by omega) ⟨i + 1,rfl,rfl,by omega,k6.new _ (Nat.le_refl _),l6, ?_⟩
  rw[ay,hstep]
  rfl
 have Dw:i=64:=by have:=of_decide_eq_false hc; omega
 subst Dw
 clear hnext
 have hbf:qB h k b=List.zipWith gM h (yV k w h 64):=by
  unfold qB
  rw[hwe]
 rw[hbf] at hQ
 generalize yV k w h 64=v at *
 rw[aN n6 (by rw[jf,hrl])]
 have k46:=k4.trans k6
 refine aP (fun m ys M7=>∃ j:Nat,m=8 - j∧ys=[N .i64 (j:Int)]∧j≤8∧ae [sb] M M7∧M7.heap sb=some (.row (fD.row ((List.zipWith gM h v).take j++h.drop j)) false TS 0)) _
  ⟨0,rfl,rfl,by omega,k46.mono (by simp),by rw[List.take_zero,List.drop_zero]; exact hs6⟩ ?_
 rintro next m ys M7 hnext ⟨j,rfl,rfl,hj,k7,s7⟩
 simp only[iN]
 rw[DJ 8 (by rfl)]
 refine aZ (fun hc=>?_) fun hc=>?_
 ·have hj8:j<8:=of_decide_eq_true hc
  rw[Hu]
  refine⟨by omega,by omega,N .u32 (v.getD j 0), ?_, ?_⟩
  ·rw[Int.toNat_natCast,pG,List.getElem?_map,List.getElem?_eq_getElem (by omega)]
   simp[List.getD,show j<v.length by omega]
  have hl7:=Ug (v:=v) (Nat.le_of_lt hj8) hhl hrl
  rw[jI,iO rfl hj8,tV s7 (by omega),eH,jI,iO rfl hj8,AA s7 (by omega),pO 1 (by omega) (by omega) (by rfl)]
  refine hnext _ _ _ (by omega) ⟨j + 1,rfl,rfl,by omega,k7.put _ (.inr (by simp)), ?_⟩
  rw[ay,Ut hj8 hhl hrl,← Sj hj8 hhl hrl]
  rfl
 ·have hj8:j=8:=by have:=of_decide_eq_false hc; omega
  subst hj8
  refine hQ M7 k7 ?_
  rw[s7,List.drop_of_length_le (by omega),List.append_nil,List.take_of_length_le (by rw[List.length_zipWith]; omega)]
end Go.Ab.Sha
set_option maxRecDepth 100000
namespace Go.Ab.Dot
open Go Go.Ab
def tN (p1:Nat) (a0:AV) (M0:RM) (Q:ai) : Prop:=gH false 2 a0 (.sc (.slice none 0 0)) fun h=>au h ( Q (.sc (.slice none 0 0)) M0) ( ek p1 0 [(N .u8 0)] [] fun g e=>aV g e M0 fun i c=>appW p1 1 1 [(N .u8 0)] false i a0 c fun j d=>Q j d)
end Go.Ab.Dot
set_option maxRecDepth 10000
namespace Go.Ab.Sha
open Go Go.Ab Go.Ab.Sm
def kW:List Int:=[1116352408,1899447441,3049323471,3921009573,961987163,1508970993,2453635748,2870763221,3624381080,310598401,607225278,1426881987,1925078388,2162078206,2614888103,3248222580,3835390401,4022224774,264347078,604807628,770255983,1249150122,1555081692,1996064986,2554220882,2821834349,2952996808,3210313671,3336571891,3584528711,113926993,338241895,666307205,773529912,1294757372,1396182291,1695183700,1986661051,2177026350,2456956037,2730485921,2820302411,3259730800,3345764771,3516065817,3600352804,4094571909,275423344,430227734,506948616,659060556,883997877,958139571,1322822218,1537002063,1747873779,1955562222,2024104815,2227730452,2361852424,2428436474,2756734187,3204031479,3329325298]
def hW:List Int:=[1779033703,3144134277,1013904242,2773480762,1359893119,2600822924,528734635,1541459225]
theorem EN:kW.length=64:=by decide
theorem KU:hW.length=8:=by decide
def dG (k:List Int) : Nat→List Int→Str→List Int
 | 0,h,_=>h
 | n + 1,h,m=>dG k n (qB h k (m.take 64)) (m.drop 64)
theorem qf {k:List Int} : ∀ {n:Nat} {h:List Int} {m:Str},h.length=8→(dG k n h m).length=8
 | 0,h,m,hl=>hl
 | n + 1,h,m,hl=>qf (n:=n) (h:=qB h k (m.take 64)) (m:=m.drop 64) (OM k _ hl)
theorem vS {k:List Int} : ∀ {a n:Nat} {h:List Int} {m:Str},dG k (a + n) h m=dG k n (dG k a h m) (m.drop (64 * a))
 | 0,n,h,m=>by rw[Nat.zero_add]; rfl
 | a + 1,n,h,m=>by
   rw[Nat.add_right_comm,dG,dG,vS (a:=a),List.drop_drop,show 64 + 64 * a=64 * (a + 1) by omega]
theorem Bc {k:List Int} {n:Nat} {h:List Int} {m:Str} : dG k (n + 1) h m=qB (dG k n h m) k ((m.drop (64 * n)).take 64):=by rw[vS]; rfl
theorem Dc {k:List Int} : ∀ {n:Nat} {h:List Int} {m p:Str},64 * n≤m.length→dG k n h (m++p)=dG k n h m
 | 0,h,m,p,_=>rfl
 | n + 1,h,m,p,hl=>by
   rw[dG,dG,List.take_append_of_le_length (by omega),List.drop_append_of_le_length (by omega),Dc (by rw[List.length_drop]; omega)]
def GZ (n:Int) : UInt8:=UInt8.ofNat (n % 256).toNat
theorem Vq (n:Int) : IntKind.u8.wrap n=n % 256:=by
 simp only[IntKind.wrap,IntKind.bits,IntKind.signed,IntKind.max,IntKind.min]
 simp
theorem MO (n:Int) : N .u8 (IntKind.u8.wrap n)=By (GZ n):=by
 have:((GZ n).toNat:Int)=n % 256:=by
  unfold GZ
  rw[UInt8.toNat_ofNat']
  have h1:0≤n % 256:=Int.emod_nonneg _ (by decide)
  have h2:n % 256<256:=Int.emod_lt_of_pos _ (by decide)
  rw[Nat.mod_eq_of_lt (by omega)]
  omega
 rw[By,this,Vq]
def zp (L:Nat) : Nat:=(119 - L % 64) % 64
def qY (L:Nat) : Str:=(List.range 8).map fun i=>GZ (uJ .u64 ((8 * L:Nat) : Int) ((56 - 8 * i:Nat) : Int))
def DX (L:Nat) : Str:=128 :: (List.replicate (zp L) 0++qY L)
def mM (h:List Int) : Str:=(List.range 32).map fun i=>GZ (uJ .u32 (h.getD (i / 4) 0) ((24 - 8 * (i % 4) : Nat) : Int))
theorem Kg (h:List Int) : (mM h).length=32:=by simp[mM]
def Gx (b:Str) : Str:=mM (dG kW ((b.length + 9 + zp b.length) / 64) hW (b++DX b.length))
theorem Jz (b:Str) : (Gx b).length=32:=Kg _
theorem Qz (b:Str) : dG kW ((b.length + 9 + zp b.length) / 64) hW (b++DX b.length) =
  dG kW ((b.length - b.length / 64 * 64 + 9 + zp b.length) / 64) (dG kW (b.length / 64) hW b) (b.drop (b.length / 64 * 64)++DX b.length):=by
 have e:(b.length + 9 + zp b.length) / 64=b.length / 64 + (b.length - b.length / 64 * 64 + 9 + zp b.length) / 64:=by omega
 rw[e,vS,Dc (by omega),List.drop_append_of_le_length (by omega),Nat.mul_comm 64]
def partsOf:Nat→List Int→List (Nat × Nat × AV)
 | _,[]=>[]
 | i,x :: xs=>(i,1,N .u32 x) :: partsOf (i + 1) xs
theorem CS:∀ (xs pre:List Int),mD (fD.row (pre++List.replicate xs.length 0)) (partsOf pre.length xs)=some (fD.row (pre++xs))
 | [],pre=>by simp[partsOf,mD]
 | x :: xs,pre=>by
   have h:=CS xs (pre++[x])
   rw[List.length_append,List.length_singleton] at h
   rw[partsOf,mr (by rw[jf]; simp),show pre++x :: xs=pre++[x]++xs by simp,← h]
   congr 1
   rw[pG,pG,show(N .u32 x)=(fun n=>N .u32 n) x from rfl,← List.map_set,set_mid (by simp)]
   simp
theorem Ha {T n:Nat} {xs:List Int} {M:RM} {K:AV→RM→Prop} (hn:xs.length=n) (hK:∀ M',ae [] M M'→K (.agg (fD.row xs)) M') :
  aV (.row (fD.row (List.replicate n 0)) false T 0) (fun b=>.ptr b 0) M fun t0 M1=>dV (fD.row (List.replicate n 0)) (partsOf 0 xs) fun t1=>aA M1 t0 t1 n fun M2=>aH M2 t0 n fun res=>K res M2:=by
 subst hn
 rw[aF,iJ]
 refine⟨_,CS xs [], ?_⟩
 have n1:(M.push (.row (fD.row (List.replicate xs.length 0)) false T 0)).heap M.next=some (.row (fD.row (List.replicate xs.length 0)) false T 0):=by simp[RM.push]
 rw[List.nil_append,Bj n1 (by rw[jf]) (by rw[jf,List.length_replicate]) (fD.jR _),aN (ay _) (by rw[jf])]
 exact hK _ (((ae.refl _ _).push _).new _ (Nat.le_refl _))
def wK (xs:List Int) (c:aj) : Prop:=∀ {M:RM} {Q:ai},(∀ M',ae [] M M'→Q (.agg (fD.row xs)) M')→c [] M Q
theorem FT {T:Nat} : wK kW fun args M Q=>args=[]∧oL T M Q:=by
 intro M Q hQ
 refine⟨rfl, ?_⟩
 unfold oL
 exact Ha (xs:=kW) (n:=64) EN hQ
theorem Ov {T:Nat} : wK hW fun args M Q=>args=[]∧vO T M Q:=by
 intro M Q hQ
 refine⟨rfl, ?_⟩
 unfold vO
 exact Ha (xs:=hW) (n:=8) KU hQ
def Jf (T:Nat) (c:aj) : Prop:=∀ {M:RM} {v:AV} {s:Str} {Q:ai},Sl BY M v s→s.length≤1000000000→(∀ v' M',Ow BY M' M.next T v' s→ae [] M M'→Q v' M')→c [v] M Q
theorem NI {T:Nat} : Jf T fun args M Q=>∃ a0,args=[a0]∧Go.Ab.Dot.tN T a0 M Q:=by
 intro M v s Q hv hl hQ
 refine⟨_,rfl, ?_⟩
 unfold Go.Ab.Dot.tN
 rcases dK.xK hv false with⟨rfl,he⟩ | ⟨hne,he⟩
 ·rw[he,show(!false)=true from rfl,eZ]
  have:s=[]:=by
   unfold Sl at hv
   cases s with
   | nil=>rfl
   | cons x s=>generalize hcs:BY.row (x :: s)=cs at *; generalize hn:(x :: s).length=n at *; cases hv; cases hcs
  subst this
  exact hQ aB M .nil (ae.refl _ _)
 ·rw[he,dx,Xd]
  simp only[aF]
  have k1:ae [] M (M.push (.row [] false T 0)):=(ae.refl _ _).push _
  refine Gf (E:=BY) (Ow.lit BY M) (by simp[RM.push]) (by decide) (dK.keep hv k1 (by simp)) (by simp; omega) (by simp; omega) fun v7 M7 o7 k7 _ _=>?_
  refine hQ v7 M7 (by simpa using o7) ?_
  refine ae.own k1 k7 (fun b hb=>?_)
  simp[aD] at hb; omega
theorem Ta {L i:Nat} (hi:i<8) : (qY L).take (i + 1)=(qY L).take i++[GZ (uJ .u64 ((8 * L:Nat) : Int) ((56 - 8 * i:Nat) : Int))]:=by
 have hl:i<(qY L).length:=by simp[qY]; exact hi
 rw[List.take_succ_eq_append_getElem hl]
 simp[qY]
theorem SA {d:Str} {n i:Nat} {x:UInt8} (hi:i<n) (hd:d.length=n) (hx:d[i]?=some x) : (d.take i++List.replicate (n - i) 0).set i x=d.take (i + 1)++List.replicate (n - (i + 1)) 0:=by
 have hl:(d.take i).length=i:=by rw[List.length_take]; omega
 have hx' : d[i]'(by omega)=x:=by rw[List.getElem?_eq_getElem (by omega)] at hx; exact Option.some.inj hx
 obtain⟨m,hm⟩ : ∃ m,n - i=m + 1:=⟨n - i - 1,by omega⟩
 rw[hm,List.replicate_succ,List.set_append_right _ _ (by omega),hl,Nat.sub_self,List.set_cons_zero,List.take_succ_eq_append_getElem (by omega),hx',List.append_assoc,show n - (i + 1)=m by omega]
 rfl
def RX (c:aj) : Prop:=∀ {M:RM} {v:AV} {b:Str} {Q:ai},Bs M v b→b.length≤100000000→(∀ M',ae [] M M'→Q (.agg (BY.row (Gx b))) M')→c [v] M Q
theorem RU {T32 TK TS T8:Nat} {cc cf ct cl:aj} (hc:wK kW cc) (hf:wK hW cf) (ht:OI TK TS ct) (hcl:Jf T8 cl) : RX fun args M Q=>∃ a0,args=[a0]∧BQ T32 cc TK cf TS ct cl T8 a0 M Q:=by
 intro M v b Q hv hl hQ
 refine⟨_,rfl, ?_⟩
 unfold BQ
 rw[aF]
 have k1:ae [] M (M.push (.row (BY.row (List.replicate 32 0)) false T32 0)):=(ae.refl _ _).push _
 have n1:(M.push (.row (BY.row (List.replicate 32 0)) false T32 0)).heap M.next=some (.row (BY.row (List.replicate 32 0)) false T32 0):=by simp[RM.push]
 have l1:M.next<(M.push (.row (BY.row (List.replicate 32 0)) false T32 0)).next:=by simp[RM.push]
 show cc _ (M.push (.row (BY.row (List.replicate 32 0)) false T32 0)) _
 generalize M.push (.row (BY.row (List.replicate 32 0)) false T32 0)=M1 at *
 refine hc fun M2 k2=>?_
 have zz:∀ n,(fD.row (List.replicate n 0)).length=n:=fun n=>by rw[jf,List.length_replicate]
 refine TW (K:=fun t YR=>_) (z:=fD.row (List.replicate 64 0)) 64 (zz 64) (by rw[jf,EN]) (fD.jR _) fun M3 k3 n3 l3=>?_
 refine hf fun M4 k4=>?_
 refine TW (K:=fun t YR=>_) (z:=fD.row (List.replicate 8 0)) 8 (zz 8) (by rw[jf,KU]) (fD.jR _) fun M5 k5 n5 l5=>?_
 have hk34:=k4.next
 have hk23:=k3.next
 have k35:ae [] M3 M5:=k4.trans k5
 have n35:=k35.ax n3 l3 (by simp)
 have l35:M2.next<M5.next:=Nat.lt_of_lt_of_le l3 k35.next
 have k05:ae [] M M5:=k1.trans (k2.trans (k3.trans k35))
 have k25:ae [] M2 M5:=k3.trans k35
 have n15:=(k2.trans k25).ax n1 l1 (by simp)
 have l15:M.next<M5.next:=Nat.lt_of_lt_of_le l1 (k2.trans k25).next
 have hl1:M.next<M2.next:=Nat.lt_of_lt_of_le l1 k2.next
 have hne:M2.next≠M4.next:=by omega
 have hv5:=hv.keep k05 (by simp)
 have YF:=hv.lt
 have hvn:∀ x∈aD v,x ∉ [M4.next]:=fun x hx hm=>by have:=YF x hx; simp at hm; omega
 rw[hv5.len,JP]
 refine⟨by decide, ?_⟩
 have e1:IntKind.i64.wrap ((b.length:Int).tdiv 64)=((b.length / 64:Nat) : Int):=by
  rw[show(b.length:Int).tdiv 64=((b.length / 64:Nat) : Int) by rw[Int.natCast_ediv]; exact Int.tdiv_eq_ediv_of_nonneg (by omega)]
  exact eO (by omega) (by omega)
 rw[e1,uf,show IntKind.i64.wrap (((b.length / 64:Nat) : Int) * 64)=((b.length / 64 * 64:Nat) : Int) by rw[eO (by omega) (by omega)]; omega]
 generalize hwe:b.length / 64=q at *
 have hq:q * 64≤b.length∧b.length<q * 64 + 64:=by omega
 refine aP (fun m ys M6=>∃ j:Nat,m=q - j∧ys=[N .i64 ((j * 64:Nat) : Int)]∧j≤q∧ae [M4.next] M5 M6∧M6.heap M4.next=some (.row (fD.row (dG kW j hW b)) false TS 0)) _
  ⟨0,rfl,rfl,by omega,ae.refl _ _,n5⟩ ?_
 rintro next m ys M6 hnext ⟨j,rfl,rfl,hj,k6,n6⟩
 simp only[iN]
 have l6:M4.next<M6.next:=Nat.lt_of_lt_of_le l5 k6.next
 have n36:=k6.ax n35 l35 (by simp; omega)
 have l36:M2.next<M6.next:=Nat.lt_of_lt_of_le l35 k6.next
 have hv6:=hv5.keep k6 hvn
 have Tj:(dG kW j hW b).length=8:=qf KU
 rw[jC]
 refine aZ (fun hc=>?_) fun hc=>?_
 ·have hjq:j<q:=by have:=of_decide_eq_true hc; omega
  rw[pO 64 (by omega) (by omega) (by rfl)]
  refine hv6.sub (KD _ _ _) (KD _ _ _) (by omega) (by omega) fun v7 h7 hs7=>?_
  rw[show j * 64 + 64 - j * 64=64 by omega] at h7
  refine ht n6 l6 Tj n36 l36 hne EN h7 (by rw[List.length_take,List.length_drop]; omega) fun M7 k7 n7=>?_
  rw[pO 64 (by omega) (by omega) (by rfl),show j * 64 + 64=(j + 1) * 64 by omega]
  refine hnext _ _ _ (by omega) ⟨j + 1,rfl,rfl,by omega,k6.trans k7, ?_⟩
  rw[Bc,Nat.mul_comm 64]
  exact n7
 have hjq:j=q:=by have:=of_decide_eq_false hc; omega
 subst hjq
 clear hnext
 refine hv6.sub (KD _ _ _) (Za _) (by omega) (Nat.le_refl _) fun v7 h7 hs7=>?_
 rw[List.take_of_length_le (by simp)] at h7
 have hdl:(b.drop (j * 64)).length=b.length - j * 64:=List.length_drop
 refine hcl h7.sl (by omega) fun v8 M8 o8 k8=>?_
 rw[jg (by rfl) (by rfl) (by rfl),aF]
 refine nT (E:=BY) (a:=(128:UInt8)) o8 k8.next (by decide) (by omega) (by omega) fun v9 M9 o9 k9 _ _=>?_
 have k69:ae [] M6 M9:=ae.own k8 k9 (fun x hx=>(Own.blk o8 x hx).1)
 have hzp:zp b.length<64:=Nat.mod_lt _ (by decide)
 have hz:(b.length - j * 64 + 1 + zp b.length) % 64=56:=by unfold zp; omega
 refine aP (fun m ys M10=>∃ (i:Nat) (rv:AV),m=zp b.length - i∧ys=[rv]∧i≤zp b.length∧ae [] M6 M10∧Ow BY M10 M6.next T8 rv (b.drop (j * 64)++128 :: List.replicate i 0)) _
  ⟨0,v9,rfl,rfl,by omega,k69,o9⟩ ?_
 rintro next m ys M10 hnext ⟨i,rv,rfl,rfl,hi,k10,o10⟩
 simp only[iN]
 have hrl:(b.drop (j * 64)++128 :: List.replicate i 0).length=b.length - j * 64 + 1 + i:=by simp; omega
 rw[dK.len (Own.sZ o10),hrl,KI]
 refine⟨by decide, ?_⟩
 rw[show(((b.length - j * 64 + 1 + i:Nat) : Int)).tmod 64=(((b.length - j * 64 + 1 + i) % 64:Nat) : Int) by rw[Int.natCast_emod]; exact Int.tmod_eq_emod_of_nonneg (by omega),dm]
 refine aZ (fun hc=>?_) fun hc=>?_
 ·have hne:(b.length - j * 64 + 1 + i) % 64≠56:=fun e=>by rw[e] at hc; cases hc
  have hlt:i<zp b.length:=by
   rcases Nat.lt_or_ge i (zp b.length) with h | h
   ·exact h
   ·have:i=zp b.length:=by omega
    subst this; exact absurd hz hne
  rw[jg (by rfl) (by rfl) (by rfl),aF]
  refine nT (E:=BY) (a:=(0:UInt8)) o10 k10.next (by decide) (by omega) (by omega) fun v11 M11 o11 k11 _ _=>?_
  refine hnext _ _ _ (by omega) ⟨i + 1,v11,rfl,rfl,by omega,ae.own k10 k11 (fun x hx=>(Own.blk o10 x hx).1), ?_⟩
  have e:b.drop (j * 64)++128 :: List.replicate (i + 1) 0=b.drop (j * 64)++128 :: List.replicate i 0++[0]:=by rw[List.replicate_succ']; simp
  rw[e]; exact o11
 have hi56:(b.length - j * 64 + 1 + i) % 64=56:=by
  have:((((b.length - j * 64 + 1 + i) % 64:Nat) : Int) != 56)=false:=hc
  have:=bne_eq_false_iff_eq.1 this
  omega
 have hiz:i=zp b.length:=by omega
 subst hiz
 clear hnext
 generalize hpre:b.drop (j * 64)++128 :: List.replicate (zp b.length) 0=P at *
 refine aP (fun m ys M11=>∃ (i:Nat) (rv:AV),m=8 - i∧ys=[rv,N .i64 (i:Int)]∧i≤8∧ae [] M6 M11∧Ow BY M11 M6.next T8 rv (P++(qY b.length).take i)) _
  ⟨0,rv,rfl,rfl,by omega,k10,by rw[List.take_zero,List.append_nil]; exact o10⟩ ?_
 rintro next m ys M11 hnext ⟨i,rv2,rfl,rfl,hi,k11,o11⟩
 simp only[iN,H5]
 have Y3:=hv6.keep k11 (by simp)
 have hll:((qY b.length).take i).length=i:=by rw[List.length_take]; simp[qY]; omega
 have hpl:(P++(qY b.length).take i).length=b.length - j * 64 + 1 + zp b.length + i:=by rw[List.length_append,hrl,hll]
 rw[DJ 8 (by rfl)]
 refine aZ (fun hc=>?_) fun hc=>?_
 ·have hi8:i<8:=of_decide_eq_true hc
  rw[Y3.len,qy,CY (by omega) (by omega),uf,CY (by omega) (by omega),uf,eO (by omega) (by omega),lY,eO (by omega) (by omega),sH]
  refine⟨by omega, ?_⟩
  rw[qy,show((b.length:Int) * 8)=((8 * b.length:Nat) : Int) by omega,show(56 - 8 * (i:Int))=((56 - 8 * i:Nat) : Int) by omega,MO,jg (by rfl) (by rfl) (by rfl),aF]
  refine nT (E:=BY) (a:=GZ (uJ .u64 ((8 * b.length:Nat) : Int) ((56 - 8 * i:Nat) : Int))) o11 k11.next (by decide) (by omega) (by omega) fun v12 M12 o12 k12 _ _=>?_
  rw[pO 1 (by omega) (by omega) (by rfl)]
  refine hnext _ _ _ (by omega) ⟨i + 1,v12,rfl,rfl,by omega,ae.own k11 k12 (fun x hx=>(Own.blk o11 x hx).1), ?_⟩
  rw[Ta hi8,← List.append_assoc]
  exact o12
 have hi8:i=8:=by have:=of_decide_eq_false hc; omega
 subst hi8
 clear hnext
 rw[List.take_of_length_le (by simp[qY])] at o11 hpl
 have hfull:P++qY b.length=b.drop (j * 64)++DX b.length:=by rw[← hpre]; simp[DX]
 rw[hfull] at o11 hpl
 have hrest:(b.drop (j * 64)++DX b.length).length=b.length - j * 64 + 9 + zp b.length:=by rw[hpl]; omega
 generalize hRe:b.drop (j * 64)++DX b.length=R at *
 have hmod:(b.length - j * 64 + 9 + zp b.length) % 64=0:=by omega
 obtain⟨n,hn⟩ : ∃ n,b.length - j * 64 + 9 + zp b.length=64 * n:=⟨(b.length - j * 64 + 9 + zp b.length) / 64,by omega⟩
 rw[hn] at hrest
 have YX:=Bs.own o11
 have n11:=k11.ax n6 l6 (by simp)
 have n311:=k11.ax n36 l36 (by simp)
 have l11:M4.next<M11.next:=Nat.lt_of_lt_of_le l6 k11.next
 have Vi:M2.next<M11.next:=Nat.lt_of_lt_of_le l36 k11.next
 generalize hH:dG kW j hW b=H at *
 have hrn:∀ x∈aD rv2,x ∉ [M4.next]:=fun x hx hm=>by
  have:=(Own.blk o11 x hx).1
  simp at hm; omega
 refine aP (fun m ys M12=>∃ i:Nat,m=n - i∧ys=[N .i64 ((i * 64:Nat) : Int)]∧i≤n∧ae [M4.next] M11 M12∧M12.heap M4.next=some (.row (fD.row (dG kW i H R)) false TS 0)) _
  ⟨0,rfl,rfl,by omega,ae.refl _ _,n11⟩ ?_
 rintro next m ys M12 hnext ⟨i,rfl,rfl,hi,k12,n12⟩
 simp only[iN]
 have l12:M4.next<M12.next:=Nat.lt_of_lt_of_le l11 k12.next
 have n312:=k12.ax n311 Vi (by simp; omega)
 have Yk:M2.next<M12.next:=Nat.lt_of_lt_of_le Vi k12.next
 have VP:=YX.keep k12 hrn
 rw[VP.len,jC]
 refine aZ (fun hc=>?_) fun hc=>?_
 ·have hin:i<n:=by have:=of_decide_eq_true hc; omega
  rw[pO 64 (by omega) (by omega) (by rfl)]
  refine VP.sub (KD _ _ _) (KD _ _ _) (by omega) (by omega) fun v13 h13 hs13=>?_
  rw[show i * 64 + 64 - i * 64=64 by omega] at h13
  refine ht n12 l12 (qf Tj) n312 Yk hne EN h13 (by rw[List.length_take,List.length_drop]; omega) fun M13 k13 n13=>?_
  rw[pO 64 (by omega) (by omega) (by rfl),show i * 64 + 64=(i + 1) * 64 by omega]
  refine hnext _ _ _ (by omega) ⟨i + 1,rfl,rfl,by omega,k12.trans k13, ?_⟩
  rw[Bc,Nat.mul_comm 64]
  exact n13
 have hin:i=n:=by have:=of_decide_eq_false hc; omega
 subst hin
 clear hnext
 have YP:Gx b=mM (dG kW i H R):=by
  unfold Gx
  rw[Qz,hwe,hRe,hH,hn,Nat.mul_div_cancel_left _ (by decide)]
 have hF:(dG kW i H R).length=8:=qf Tj
 generalize dG kW i H R=F at *
 have hdF:=Kg F
 rw[aF]
 have RJ:ae [M4.next] M5 M12:=k6.trans ((k11.mono (by simp)).trans k12)
 have n112:=RJ.ax n15 l15 (by simp; omega)
 have YM:M.next<M12.next:=Nat.lt_of_lt_of_le l15 RJ.next
 have k14:ae [] M12 (M12.push (.row (BY.row (List.replicate 32 0)) false T32 0)):=(ae.refl _ _).push _
 have n14:(M12.push (.row (BY.row (List.replicate 32 0)) false T32 0)).heap M12.next=some (.row (BY.row ((mM F).take 0++List.replicate (32 - 0) 0)) false T32 0):=by simp[RM.push]
 have l14:M12.next<(M12.push (.row (BY.row (List.replicate 32 0)) false T32 0)).next:=by simp[RM.push]
 show bA _ _ (M12.push (.row (BY.row (List.replicate 32 0)) false T32 0))
 generalize M12.push (.row (BY.row (List.replicate 32 0)) false T32 0)=M14 at *
 refine aP (fun m ys M15=>∃ i:Nat,m=32 - i∧ys=[N .i64 (i:Int)]∧i≤32∧ae [] M12 M15∧M12.next<M15.next∧M15.heap M12.next=some (.row (BY.row ((mM F).take i++List.replicate (32 - i) 0)) false T32 0)) _
  ⟨0,rfl,rfl,by omega,k14,l14,n14⟩ ?_
 rintro next m ys M15 hnext ⟨i',rfl,rfl,hi',k15,Yo,n15'⟩
 simp only[iN]
 have Yn:=k15.ax n12 l12 (by simp)
 rw[DJ 32 (by rfl)]
 refine aZ (fun hc=>?_) fun hc=>?_
 ·have Au:i'<32:=of_decide_eq_true hc
  rw[JP]
  refine⟨by decide, ?_⟩
  rw[show IntKind.i64.wrap (((i' : Nat) : Int).tdiv 4)=((i' / 4:Nat) : Int) by
   rw[show((i' : Nat) : Int).tdiv 4=((i' / 4:Nat) : Int) by rw[Int.natCast_ediv]; exact Int.tdiv_eq_ediv_of_nonneg (by omega)]
   exact eO (by omega) (by omega)]
  rw[iO rfl (by omega),tV Yn (by omega),KI]
  refine⟨by decide, ?_⟩
  rw[show(((i' : Nat) : Int)).tmod 4=((i' % 4:Nat) : Int) by rw[Int.natCast_emod]; exact Int.tmod_eq_emod_of_nonneg (by omega),uf,eO (by omega) (by omega),lY,eO (by omega) (by omega),sH]
  refine⟨by omega, ?_⟩
  rw[qy,MO,iO rfl Au,show(24 - 8 * ((i' % 4:Nat) : Int))=((24 - 8 * (i' % 4) : Nat) : Int) by omega]
  have hget:(mM F)[i']?=some (GZ (uJ .u32 (F.getD (i' / 4) 0) ((24 - 8 * (i' % 4) : Nat) : Int))):=by
   simp[mM,Au]
  have hset:=SA Au hdF hget
  have hrow15:((mM F).take i'++List.replicate (32 - i') 0).length=32:=by rw[List.length_append,List.length_take,List.length_replicate]; omega
  rw[bM (BY.row ((mM F).take (i' + 1)++List.replicate (32 - (i' + 1)) 0)) n15' (by rw[sI]; omega) rfl rfl (by rw[← hset,qC,qC,List.map_set]),pO 1 (by omega) (by omega) (by rfl)]
  exact hnext _ _ _ (by omega) ⟨i' + 1,rfl,rfl,by omega,k15.new _ (Nat.le_refl _),Yo,ay _⟩
 ·have Au:i'=32:=by have:=of_decide_eq_false hc; omega
  subst Au
  have e:(mM F).take 32++List.replicate (32 - 32) 0=mM F:=by rw[List.take_of_length_le (by omega)]; simp
  rw[e] at n15'
  have n115:=k15.ax n112 YM (by simp)
  rw[aN n15' (by rw[sI,hdF]),Bj n115 (by rw[sI,hdF]) (by rw[sI,List.length_replicate]) (BY.jR _),aN (ay _) (by rw[sI,hdF]),← YP]
  have Rh:ae [M4.next] M M12:=(k05.mono (by simp)).trans RJ
  have Wy:ae [] M M12:=⟨Rh.base,Rh.next,fun x hx _=>Rh.heap x hx (by simp; omega)⟩
  exact hQ _ ((Wy.trans k15).new _ (Nat.le_refl _))
theorem QD {p:UInt8→Bool} (h:(List.range 256).all (fun n=>p (UInt8.ofNat n))=true) (x:UInt8) : p x=true:=by
 have:=List.all_eq_true.1 h x.toNat (List.mem_range.2 x.toNat_lt)
 simpa using this
abbrev Q7:Str:=[48,49,50,51,52,53,54,55,56,57,97,98,99,100,101,102]
def hx (n:Nat) : UInt8:=Q7.getD n 0
def yJ (d:Str) : Str:=d.flatMap fun x=>[hx (x.toNat / 16),hx (x.toNat % 16)]
theorem KY (d:Str) : (yJ d).length=2 * d.length:=by
 induction d with
 | nil=>rfl
 | cons x d ih=>unfold yJ at ih ⊢; rw[List.flatMap_cons,List.length_append,ih,List.length_cons]; simp; omega
theorem Qu (d:Str) {i:Nat} (h:i<d.length) : yJ (d.take (i + 1))=yJ (d.take i)++[hx (d[i].toNat / 16),hx (d[i].toNat % 16)]:=by
 rw[List.take_succ_eq_append_getElem h]
 unfold yJ
 rw[List.flatMap_append]
 simp
def Zn (x:UInt8) : Bool:=uJ .u8 (x.toNat:Int) 4 == ((x.toNat / 16:Nat) : Int)
def Zm (x:UInt8) : Bool:=zO .u8 (x.toNat:Int) 15 == ((x.toNat % 16:Nat) : Int)
theorem UO:∀ x,Zn x=true:=QD (by decide +kernel)
theorem UF:∀ x,Zm x=true:=QD (by decide +kernel)
theorem WN (x:UInt8) : uJ .u8 (x.toNat:Int) 4=((x.toNat / 16:Nat) : Int):=eq_of_beq (UO x)
theorem Xu (x:UInt8) : zO .u8 (x.toNat:Int) 15=((x.toNat % 16:Nat) : Int):=eq_of_beq (UF x)
theorem TQ {n:Nat} (h:n<16) {k:IntKind} {K:AV→Prop} : cK (St Q7) (N k (n:Int)) K=K (By (hx n)):=by
 rw[Ce (by show n<16; exact h)]
 have:Q7[n]'(by show n<16; exact h)=hx n:=by
  unfold hx
  rw[List.getD_eq_getElem?_getD,List.getElem?_eq_getElem (by show n<16; exact h)]; rfl
 rw[this]
theorem Xh {T:Nat} {a b z:AV} {K:RB→(Nat→AV)→Prop} (ha:a.cells=[a]) (hb:b.cells=[b]) (ha1:oneCell a=true) (hb1:oneCell b=true) :
  ek T 2 [z] [(0,1,a),(1,1,b)] K=K (.row [a,b] false T 0) (fun b=>.slc b 0 2 (.ex 2)):=by
 have:rV (mY [z] 2) [(0,1,a),(1,1,b)]=some [a,b]:=by simp[rV,mY,ha,hb,ha1,hb1]
 apply propext; unfold ek
 constructor
 ·rintro⟨l,h,hk⟩; rw[this] at h; cases h; exact hk
 ·intro hk; exact⟨_,this,hk⟩
theorem Uu {M:RM} {base T:Nat} {v:AV} {xs:Str} {x y:UInt8} {zs:List AV} {K:ai} (ho:Ow BY M base T v xs) (hb:base≤M.next) (hn:xs.length≤1000000000)
  (hK:∀ v' M',Ow BY M' base T v' (xs++[x,y])→ae (aD v) M M'→K v' M') :
  appW T 1 1 zs false v (.slc M.next 0 2 (.ex 2)) (M.push (.row [By x,By y] false T 0)) K:=by
 have hk:ae [] M (M.push (.row (BY.row [x,y]) false T 0)):=(ae.refl _ _).push _
 refine Gf (E:=BY) (ys:=[x,y]) (Own.keep ho hk (by simp)) (Nat.le_trans hb hk.next) (by decide) (Sl.new [x,y]) (by simp; omega) (by simp; omega) fun v' M' h1 h2 _ _=>?_
 exact hK v' M' h1 ((hk.mono (by simp)).trans h2)
def Pj (c:aj) : Prop:=∀ {M:RM} {d:Str} {Q:ai},d.length=32→(∀ M',ae [] M M'→Q (St (yJ d)) M')→c [.agg (BY.row d)] M Q
theorem Vb {d:Str} {i:Nat} (h:i<d.length) : (BY.row d)[i]?=some (By d[i]):=by rw[qC,List.getElem?_map,List.getElem?_eq_getElem h]; rfl
theorem QZ {T32 T8:Nat} : Pj fun args M Q=>∃ a0,args=[a0]∧BF T32 T8 a0 M Q:=by
 intro M d Q hd hQ
 refine⟨_,rfl, ?_⟩
 unfold BF
 rw[iC (BY.jR d) (by rw[sI]; omega),aF]
 have k0:ae [] M (M.push (.row (BY.row d) false T32 0)):=(ae.refl _ _).push _
 have n0:(M.push (.row (BY.row d) false T32 0)).heap M.next=some (.row (BY.row d) false T32 0):=by simp[RM.push]
 generalize M.push (.row (BY.row d) false T32 0)=M0 at *
 rw[aN n0 (by rw[sI,hd])]
 refine aP (fun m ys M3=>∃ (i:Nat) (ov:AV),m=32 - i∧ys=[ov,N .i64 (i:Int)]∧i≤32∧ae [] M M3∧Ow BY M3 M.next T8 ov (yJ (d.take i))) _ ⟨0,aB,rfl,rfl,by omega,k0,.nil⟩ ?_
 rintro next m ys M3 hnext ⟨i,ov,rfl,rfl,hi,k3,o3⟩
 simp only[iN,H5]
 rw[DJ 32 (by rfl)]
 refine aZ (fun hc=>?_) fun hc=>?_
 ·have Au:i<32:=of_decide_eq_true hc
  have hid:i<d.length:=by omega
  have hlt:=IL d[i]
  rw[Hu]
  refine⟨by omega,by omega,By d[i],by rw[Int.toNat_natCast]; exact Vb hid, ?_⟩
  rw[By,sH]
  refine⟨by decide, ?_⟩
  rw[WN,TQ (by omega),kU,Xu,TQ (by omega),Xh rfl rfl rfl rfl,ML]
  have hhl:=KY (d.take i)
  have htl:(d.take i).length=i:=by rw[List.length_take]; omega
  refine Uu o3 k3.next (by omega) fun v4 M4 o4 k4=>?_
  rw[pO 1 (by omega) (by omega) (by rfl)]
  refine hnext _ _ _ (by omega) ⟨i + 1,v4,rfl,rfl,by omega,ae.own k3 k4 (fun x hx=>(Own.blk o3 x hx).1), ?_⟩
  rw[Qu d hid]; exact o4
 ·have Au:i=32:=by have:=of_decide_eq_false hc; omega
  subst Au
  rw[List.take_of_length_le (by omega)] at o3
  rw[Sl.str (Own.sZ o3)]
  exact hQ M3 k3
def ed (b:Str) : Str:=yJ (Gx b)
theorem Ho (b:Str) : (ed b).length=64:=by unfold ed; rw[KY,Jz]
end Go.Ab.Sha
namespace Go.Ab.Vc
open Go Go.Ab Go.Ab.Vl Go.Ab.Sm
theorem Tv {α:Type} {R:jr α} {M:RM} {v:AV} {xs:List α} {S:Nat→Prop} (h:bB R M v xs S) (hc:J9 R.size v) (h0:0<xs.length) {K:AV→Prop}
  (hK:∀ v',bB R M v' (xs.drop 1) S→K v') : bN (jM R.size v (some (N .i64 1)) none none) K:=by
 obtain⟨cs,h1,h2,h3⟩:=h
 have hl:=h3.len
 have h3':=h3.drop 1
 have hlen:(xs.drop 1).length=xs.length - 1:=by simp
 generalize hn:xs.length=n at h1
 cases h1 with
 | nil=>omega
 | emp=>omega
 | slc b o _ cap cs hb hld =>
   have hp:=Ey hld (1 * R.size) ((n - 1) * R.size) (by rw[← Nat.add_mul]; exact Nat.mul_le_mul_right _ (by omega))
   have hcs:(cs.drop (1 * R.size)).take ((n - 1) * R.size)=cs.drop (1 * R.size):=by
    apply List.take_of_length_le
    rw[List.length_drop,hl,hn,Nat.sub_mul]; omega
   rw[hcs] at hp
   have b1:bnd 0 (some (N .i64 (1:Int)))=some 1:=rfl
   have b2:∀ k,bnd k none=some k:=fun _=>rfl
   have mk:∀ cap',bB R M (.slc b (o + 1 * R.size) (n - 1) cap') (xs.drop 1) S:=fun cap'=>⟨_,by rw[hlen,hn]; exact .slc _ _ _ _ _ hb hp,fun x hx=>h2 x hx,h3'⟩
   have zero:n=1→∀ {w:AV},(∀ x∈aD w,S x)→dK M R.size w [] 0→bB R M w (xs.drop 1) S:=by
    intro e w hw hr
    have:xs.drop 1=[]:=List.drop_eq_nil_of_le (by omega)
    rw[this]
    exact⟨[],hr,hw,.nil⟩
   have hSb:S b:=h2 b (by simp[aD])
   cases cap with
   | ex c =>
     have hc:n≤c:=hc
     by_cases e:c=1
     ·subst e
      refine⟨.slc b o 0 (.ex 0),by simp only[jM,b1,b2]; rw[if_pos ⟨by omega,by omega⟩]; simp,hK _ (zero (by omega) (fun x hx=>by simp[aD] at hx; subst hx; exact hSb) (.slc _ _ _ _ _ hb ?_))⟩
      have:=Ey hld 0 0 (by omega)
      simpa using this
     ·exact⟨_,by simp only[jM,b1,b2]; rw[if_pos ⟨by omega,by omega⟩,if_neg e],hK _ (mk _)⟩
   | op esz =>
     have hc:esz=R.size:=hc
     subst hc
     by_cases e:n≤1
     ·exact⟨.emp b,by simp only[jM,b1,b2]; simp[e]; omega,hK _ (zero (by omega) (fun x hx=>by simp[aD] at hx) (.emp _))⟩
     ·exact⟨_,by simp only[jM,b1,b2]; simp only[and_true]; rw[if_pos ⟨by omega,by omega⟩,if_neg e],hK _ (mk _)⟩
def Fy (x:Li) : Bool:=decide (x.1.n=wD) && decide (x.1.g=[])
def OY (B:Base) (c:aj) : Prop:=∀ {M:RM} {v:AV} {ls:List Li} {S:Nat→Prop} {all:Str} {Q:ai},bB gW M v ls S→ls.length≤200000→all.length≤100000000→(∀ M',ae [] M M'→Q (St (lJ Sha.ed ls all)) M')→c [v,St all] M Q
theorem Ps {B:Base} {TL TU:Nat} {cs ch:aj} (hs:Sha.RX cs) (hh:Sha.Pj ch) : OY B fun args M Q=>∃ a0 a1,args=[a0,a1]∧oG TL TU cs ch a0 a1 M Q:=by
 intro M v ls S all Q hv hlen hal hQ
 refine⟨_,_,rfl, ?_⟩
 unfold oG
 simp only[dJ,dB]
 have hf:lJ Sha.ed ls all=match ls.find? Fy with
  | some x=>if 1≤x.1.v.length∧x.1.v.length≤64 then x.1.v else[99,45]++(Sha.ed all).take 16
  | none=>[99,45]++(Sha.ed all).take 16:=rfl
 rw[hf] at hQ
 refine bI (fun ys M'=>ae [] M M'∧lJ Sha.ed ls all=[99,45]++(Sha.ed all).take 16) ?_ ?_
 ·rintro ys M1 ⟨k1,he⟩
  rw[hf] at he
  rw[he] at hQ
  rw[qw,aF]
  have k2:ae [] M1 (M1.push (.row (BY.row all) true TU 0)):=(ae.refl _ _).push _
  have o2:Ow BY (M1.push (.row (BY.row all) true TU 0)) M1.next TU (.slc M1.next 0 all.length (.op 1)) all:=.op _ _ _ (Nat.le_refl _) (by simp[RM.push]) (RM.aR _) (by simp[BY,Enc.fB])
  generalize M1.push (.row (BY.row all) true TU 0)=M2 at *
  refine hs (Sha.Bs.own o2) hal fun M3 k3=>?_
  refine hh (Sha.Jz all) fun M4 k4=>?_
  have h64:(Sha.yJ (Sha.Gx all)).length=64:=Sha.Ho all
  rw[show(N .i64 (16:Int))=N .i64 ((16:Nat) : Int) from rfl,gq (by omega),dI,bL]
  refine⟨by simp; omega, ?_⟩
  exact hQ M4 (((k1.trans k2).trans k3).trans k4)
 intro J hJ
 rw[hv.len]
 refine aP (fun m ys M1=>∃ i:Nat,m=ls.length - i∧ys=[N .i64 (i:Int)]∧i≤ls.length∧ae [] M M1∧(ls.drop i).find? Fy=ls.find? Fy) _
  ⟨0,rfl,rfl,Nat.zero_le _,ae.refl _ _,rfl⟩ ?_
 rintro next m ys M1 hnext ⟨i,rfl,rfl,hi,k1,he⟩
 dsimp only[ag]
 have hv1:=hv.keep k1 (bs:=[]) (by simp)
 rw[jC]
 refine aZ (fun h=>?_) (fun h=>?_)
 rotate_left 1
 ·have h:¬ i<ls.length:=of_decide_eq_false h
  rw[List.drop_eq_nil_of_le (by omega)] at he
  refine hJ _ _ ⟨k1, ?_⟩
  rw[hf,← he]; rfl
 have h:i<ls.length:=of_decide_eq_true h
 obtain⟨pw,hpw,hq,_⟩:=vC hv1 h
 rw[hq,aF]
 rw[List.drop_eq_getElem_cons h,List.find?_cons] at he
 generalize ls[i]=x at *
 have hall:([St x.1.g,St x.1.n,pw,St x.1.v,N .i64 x.2] : List AV).all oneCell=true:=by simp[eF,hpw.one]
 refine zv (b:=0) 5 rfl rfl _ rfl hall rfl fun M2 k2 n2 h2=>?_
 rw[aU,az h2 rfl,mh]
 refine mP (p:=x.1.g != []) (fun hc kk hk=>?_) ?_
 ·rw[aU,az h2 rfl,mh]; exact hk
 have hu:Fy x=!((x.1.n != wD) || (x.1.g != [])):=by
  unfold Fy
  by_cases h1:x.1.n=wD <;> by_cases h2:x.1.g=[] <;> simp[h1,h2]
 refine aZ (fun hc=>?_) (fun hc=>?_)
 ·rw[hu,hc] at he
  rw[add1 (by omega)]
  exact hnext _ _ _ (by omega) ⟨i + 1,rfl,rfl,by omega,k1.trans k2,he⟩
 ·rw[hu,hc] at he
  simp only[Bool.not_false] at he
  rw[aU,az h2 rfl,bu,show(N .i64 (1:Int))=N .i64 ((1:Nat) : Int) from rfl,fq]
  have hd:lJ Sha.ed ls all=if 1≤x.1.v.length∧x.1.v.length≤64 then x.1.v else[99,45]++(Sha.ed all).take 16:=by rw[hf,← he]
  rw[← hf,hd] at hQ
  refine uY (p:=decide (x.1.v.length≤64)) (fun hc kk hk=>?_) ?_
  ·rw[aU,az h2 rfl,bu,show(N .i64 (64:Int))=N .i64 ((64:Nat) : Int) from rfl,O8]; exact hk
  refine aZ (fun hc=>?_) (fun hc=>?_)
  ·simp only[Bool.and_eq_true,decide_eq_true_eq] at hc
   rw[if_pos ⟨by omega,hc.2⟩] at hQ
   rw[aU,az h2 rfl]
   exact hQ _ (k1.trans k2)
  ·refine hJ _ _ ⟨k1.trans k2, ?_⟩
   rw[hd,if_neg]
   rintro⟨a1,a2⟩
   simp only[Bool.and_eq_false_iff,decide_eq_false_iff_not] at hc
   rcases hc with hc | hc <;> omega
theorem RN (n:Str) (k:Nat) (hk:k<4611686018427387904) : (kJ n k).length≤n.length + 22:=by
 unfold kJ
 split
 ·omega
 ·have hw : -9223372036854775808≤IntKind.wrap .i64 ((k:Int) + 1)∧IntKind.wrap .i64 ((k:Int) + 1)≤9223372036854775807:=by
   rw[IntKind.wrap_i64]; omega
  have:=Lib.itoa_length_le _ hw.1 hw.2
  simp; omega
theorem H9 (fs:List Fd) (p:Fd) : pq (fs++[p])=pq fs++(p.1++[0]++p.2++[0]):=by simp[pq]
def O7 (B:Base) (c:aj) : Prop:=∀ {M:RM} {v:AV} {ls:List Li} {S:Nat→Prop} {Q:ai},M.base=B→bB gW M v ls S→J9 5 v→ls≠[]→ls.length≤110000→(∀ x∈ls,qF 100000 x.1) →
 (∀ M' w c,ae [] M M'→lL Sha.ed ls=.ok c→Ow oV M' M.next 30 w c.2.1→Q (.tup [.agg [St c.1,w,N .i64 c.2.2],N .i64 0,N .i64 0]) M') →
 (∀ M' k e,ae [] M M'→lL Sha.ed ls=.error (k,e)→e≠0→Q (.tup [.agg [St [],aB,N .i64 0],N .i64 k,N .i64 e]) M')→c [v] M Q
theorem Ar {B:Base} {TC TL:Nat} {cp cn cc:aj} (hp:EC B cp) (hn:NN B cn) (hc:OY B cc) : O7 B fun args M Q=>∃ a0,args=[a0]∧tK TC TL cp 30 cn cc a0 M Q:=by
 intro M v ls S Q hM hv0 hcap hne hlen hsz hO hE
 refine⟨_,rfl, ?_⟩
 unfold tK
 simp only[dJ]
 have hv:=hv0.lt
 obtain⟨b,r,rfl⟩ : ∃ b r,ls=b :: r:=by
  cases ls with
  | nil=>exact absurd rfl hne
  | cons b r=>exact⟨b,r,rfl⟩
 have hr:lL Sha.ed (b :: r)=match lF r [] [] with | .error e=>.error e | .ok fs=>.ok (lJ Sha.ed r (pq fs),fs,b.2):=rfl
 simp only[List.length_cons] at hlen
 rw[aF]
 have k1:ae [] M (M.push (.row [St [],aB,N .i64 0] false TC 0)):=(ae.refl _ _).push _
 have h1:(M.push (.row [St [],aB,N .i64 0] false TC 0)).heap M.next=some (.row [St [],aB,N .i64 0] false TC 0):=RM.aR _
 have n1:(M.push (.row [St [],aB,N .i64 0] false TC 0)).next=M.next + 1:=bH _
 generalize M.push (.row [St [],aB,N .i64 0] false TC 0)=M1 at *
 have hv1:=hv.keep k1 (by simp)
 obtain⟨_,_,_,_,_,_,hq4⟩:=vC hv1 (i:=0) (by simp)
 rw[show(N .i64 (0:Int))=N .i64 ((0:Nat) : Int) from rfl,hq4,List.getElem_cons_zero,aU,bM (l':=[St [],aB,N .i64 b.2]) h1 (by simp) rfl rfl rfl]
 have k2:ae [] M (M1.put M.next (.row [St [],aB,N .i64 b.2] false TC 0)):=k1.put _ (.inl (Nat.le_refl _))
 have h2:(M1.put M.next (.row [St [],aB,N .i64 b.2] false TC 0)).heap M.next=some (.row [St [],aB,N .i64 b.2] false TC 0):=ay _
 have n2:(M1.put M.next (.row [St [],aB,N .i64 b.2] false TC 0)).next=M1.next:=rfl
 generalize M1.put M.next (.row [St [],aB,N .i64 b.2] false TC 0)=M2 at *
 rw[aF]
 have k3:ae [] M2 (M2.push (.map [] 0)):=(ae.refl _ _).push _
 have c3:=jT.new M2
 have n3:(M2.push (.map [] 0)).next=M2.next + 1:=bH _
 generalize M2.push (.map [] 0)=M3 at *
 have h3:=k3.ax h2 (by omega) (by simp)
 have k03:=k2.trans k3
 have hv3:=hv.keep k03 (by simp)
 refine Tv (R:=gW) hv3 hcap (by simp) fun v' hv'=>?_
 rw[List.drop_one,List.tail_cons] at hv'
 rw[hv'.len]
 refine aP (fun m ys M4=>∃ (i:Nat) (ns:List Str) (fs:List Fd) (w:AV),m=r.length - i∧ys=[St (pq fs),N .i64 (i:Int)]∧i≤r.length∧ae [M.next,M2.next] M3 M4∧M2.next<M4.next ∧
   M4.heap M.next=some (.row [St [],w,N .i64 b.2] false TC 0)∧Ow oV M4 (M2.next + 1) 30 w fs∧jT M4 M2.next (eQ ns)∧ns.length=i∧fs.length=i∧(pq fs).length≤600 * i∧lF (r.drop i) ns fs=lF r [] []) _
  ⟨0,[],[],aB,rfl,rfl,Nat.zero_le _,ae.refl _ _,by omega,h3,.nil,c3,rfl,rfl,by simp[pq],rfl⟩ ?_
 rintro next m ys M4 hnext ⟨i,ns,fs,w,rfl,rfl,hi,k34,n4,h4,o4,c4,hns,hfs,hal,he⟩
 have k4:ae [] M M4:=k03.eD k34 fun c hc=>.inl (by simp at hc; rcases hc with rfl | rfl <;> omega)
 dsimp only[ag]
 have hM4:M4.base=B:=k4.base.trans hM
 have hwb:=o4.blk
 rw[jC]
 refine aZ (fun h=>?_) (fun h=>?_)
 rotate_left 1
 ·have h:¬ i<r.length:=of_decide_eq_false h
  rw[List.drop_eq_nil_of_le (by omega),lF] at he
  rw[← he] at hr
  refine Tv (R:=gW) (hv.keep k4 (by simp)) hcap (by simp) fun v4 hv4=>?_
  rw[List.drop_one,List.tail_cons] at hv4
  refine hc hv4 (by omega) (by omega) fun M5 k5=>?_
  have h5:=k5.ax h4 (by omega) (by simp)
  have n5:=k5.next
  have o5:=o4.keep k5 (by simp)
  have how:∀ x:Str,([St x,w,N .i64 b.2] : List AV).all oneCell=true:=fun x=>by
   have hw1:oneCell w=true:=dK.one (Own.sZ o4)
   simp[eF,hw1]
  rw[aU,bM (l':=[St (lJ Sha.ed r (pq fs)),w,N .i64 b.2]) h5 (by simp) rfl rfl rfl,aN (n:=3) (ay _) rfl,
   bK (n:=3) (x:=.agg [St (lJ Sha.ed r (pq fs)),w,N .i64 b.2]) (ay _) rfl rfl (how _),aN (n:=3) (ay _) rfl]
  refine hO _ w _ (((k4.trans k5).put _ (.inl (Nat.le_refl _))).put _ (.inl (Nat.le_refl _))) hr ?_
  have kA:ae [M.next] M5 (M5.put M.next (.row [St (lJ Sha.ed r (pq fs)),w,N .i64 b.2] false TC 0)):=(ae.refl _ _).put _ (.inr (by simp))
  generalize M5.put M.next (.row [St (lJ Sha.ed r (pq fs)),w,N .i64 b.2] false TC 0)=MA at *
  have kB:ae [M.next] MA (MA.put M.next (.row (AV.agg [St (lJ Sha.ed r (pq fs)),w,N .i64 b.2]).cells false TC 0)):=(ae.refl _ _).put _ (.inr (by simp))
  exact((o5.keep kA (fun c hc=>by have:=(hwb c hc).1; simp; omega)).keep kB (fun c hc=>by have:=(hwb c hc).1; simp; omega)).mono (by omega)
 have h:i<r.length:=of_decide_eq_true h
 have hv4:=hv'.keep k34 (fun c hc=>by simp at hc; rcases hc with rfl | rfl <;> omega)
 obtain⟨pw,hpw,hq,_⟩:=vC hv4 h
 have hx:=hsz _ (List.mem_cons_of_mem _ (List.getElem_mem h))
 rw[hq,aF]
 rw[List.drop_eq_getElem_cons h,lF] at he
 generalize r[i]=x at *
 have hall:([St x.1.g,St x.1.n,pw,St x.1.v,N .i64 x.2] : List AV).all oneCell=true:=by simp[eF,hpw.one]
 refine zv (b:=0) 5 rfl rfl _ rfl hall rfl fun M5 k5 n5 h5=>?_
 have hLB:LB 1000000 x.1:=(hx.mono (by omega)).lb
 have XY:=hx.VH
 rw[aN (n:=5) h5 rfl]
 refine hp (k5.base.trans hM4) (jN (k:=x.2) (hpw.keep k5 (by simp))) hLB (by omega) fun M6 k6=>?_
 have hpl:=Jg hLB
 have hcl:=MQ ns (bC x.1).1
 have hnl:=RN (bC x.1).1 (eQ ns (bC x.1).1) (by omega)
 have hcs:∀ y:Str,eQ (ns++[(bC x.1).1]) y=if y=(bC x.1).1 then eQ ns (bC x.1).1 + 1 else eQ ns y:=fun y=>GU ns _ y
 generalize bC x.1=p at *
 have h6:=k6.ax h5 (by omega) (by simp)
 have n6:=k6.next
 unfold lK
 rw[aF]
 refine zv (b:=0) 2 rfl rfl _ rfl rfl rfl fun M7 k7 n7 h7=>?_
 have k47:ae [] M4 M7:=(k5.trans k6).trans k7
 have h67:=k7.ax h6 (by omega) (by simp)
 rw[aU,az h7 rfl]
 have c7:jT M7 M2.next (eQ ns):=c4.keep k47 (by simp)
 refine c7.look ?_
 refine hn (k47.base.trans hM4) (by omega) fun M8 k8=>?_
 have h8:=k8.ax h7 (by omega) (by simp)
 have h68:=k8.ax h67 (by omega) (by simp)
 have n8:=k8.next
 rw[aU,bM (l':=[St (kJ p.1 (eQ ns p.1)),St p.2]) h8 (by simp) rfl rfl rfl]
 have k9:ae [] M4 (M8.put M6.next (.row [St (kJ p.1 (eQ ns p.1)),St p.2] false 30 0)):=(k47.trans k8).put _ (.inl (by omega))
 have h9:(M8.put M6.next (.row [St (kJ p.1 (eQ ns p.1)),St p.2] false 30 0)).heap M6.next=some (.row [St (kJ p.1 (eQ ns p.1)),St p.2] false 30 0):=ay _
 have h69:(M8.put M6.next (.row [St (kJ p.1 (eQ ns p.1)),St p.2] false 30 0)).heap M4.next=_:=dh h68 (by omega)
 have n9:(M8.put M6.next (.row [St (kJ p.1 (eQ ns p.1)),St p.2] false 30 0)).next=M8.next:=rfl
 generalize M8.put M6.next (.row [St (kJ p.1 (eQ ns p.1)),St p.2] false 30 0)=M9 at *
 have c9:jT M9 M2.next (eQ ns):=c4.keep k9 (by simp)
 refine c9.look ?_
 rw[add1 (by omega)]
 refine c9.upd fun Ma ca ka na=>?_
 have ca' : jT Ma M2.next (eQ (ns++[p.1])):=by rw[show eQ (ns++[p.1])=_ from funext hcs]; exact ca
 have ha:=ka.ax h9 (by omega) (by simp; omega)
 have h6a:=ka.ax h69 (by omega) (by simp; omega)
 have h4a:=ka.ax (k9.ax h4 (by omega) (by simp)) (by omega) (by simp; omega)
 have k3a:ae [M.next,M2.next] M3 Ma:=(k34.trans (k9.mono (by simp))).trans (ka.mono (by simp))
 have oa:Ow oV Ma (M2.next + 1) 30 w fs:=(o4.keep k9 (by simp)).keep ka fun c hc=>by have:=(hwb c hc).1; simp; omega
 rw[aU,az ha rfl,bu,show(N .i64 (64:Int))=N .i64 ((64:Nat) : Int) from rfl,AP]
 refine mP (p:=decide (p.2.length > 512)) (fun hc kk hk=>?_) ?_
 ·rw[aU,az ha rfl,bu,show(N .i64 (512:Int))=N .i64 ((512:Nat) : Int) from rfl,AP]; exact hk
 have hMa:ae [] M Ma:=k03.eD k3a fun c hc=>.inl (by simp at hc; rcases hc with rfl | rfl <;> omega)
 refine aZ (fun hb=>?_) (fun hb=>?_)
 ·simp only[Bool.or_eq_true,decide_eq_true_eq] at hb
  rw[if_pos hb] at he
  rw[← he] at hr
  rw[iJ]
  refine⟨[St [],aB,N .i64 0],rfl, ?_⟩
  rw[aU,az h6a rfl,bK (n:=3) (x:=.agg [St [],aB,N .i64 0]) h4a rfl rfl rfl,az (dh h6a (by omega)) rfl]
  refine⟨rfl, ?_⟩
  rw[aN (n:=3) (ay _) rfl]
  exact hE _ _ _ (hMa.put _ (.inl (Nat.le_refl _))) hr (by decide)
 ·simp only[Bool.or_eq_false_iff,decide_eq_false_iff_not] at hb
  rw[if_neg (by omega)] at he
  generalize hnf:kJ p.1 (eQ ns p.1)=nf at *
  rw[aU,az h4a rfl,aN (n:=2) ha rfl,jg (x:=.agg [St nf,St p.2]) (size:=2) rfl rfl rfl,aF]
  refine nT (E:=oV) (a:=(nf,p.2)) oa (by omega) (by decide) (by omega) (by omega) ?_
  intro w' Mb ob kb nb hwv
  have hb4:=kb.ax h4a (by omega) (fun h=>by have:=(hwb _ h).1; omega)
  have hb9:=kb.ax ha (by omega) (fun h=>by have:=(hwb _ h).2; omega)
  have hob:=ob.blk
  have how' : oneCell w'=true:=dK.one (Own.sZ ob)
  have YQ:w'.cells=[w']:=dK.cells (Own.sZ ob)
  rw[aU,bM (l':=[St [],w',N .i64 b.2]) hb4 (by simp) YQ how' rfl]
  have kc:ae [M.next] Mb (Mb.put M.next (.row [St [],w',N .i64 b.2] false TC 0)):=(ae.refl _ _).put _ (.inr (by simp))
  have hc4:(Mb.put M.next (.row [St [],w',N .i64 b.2] false TC 0)).heap M.next=some (.row [St [],w',N .i64 b.2] false TC 0):=ay _
  have hc9:(Mb.put M.next (.row [St [],w',N .i64 b.2] false TC 0)).heap M6.next=_:=dh hb9 (by omega)
  have nc:(Mb.put M.next (.row [St [],w',N .i64 b.2] false TC 0)).next=Mb.next:=rfl
  generalize Mb.put M.next (.row [St [],w',N .i64 b.2] false TC 0)=Mc at *
  have oc:Ow oV Mc (M2.next + 1) 30 w' (fs++[(nf,p.2)]):=ob.keep kc fun c hc=>by have:=(hob c hc).1; simp; omega
  have cc' : jT Mc M2.next (eQ (ns++[p.1])):=(ca'.keep kb (fun h=>by have:=(hwb _ h).1; omega)).keep kc (by simp; omega)
  rw[aU,az hc9 rfl,bL]
  refine⟨by simp; omega, ?_⟩
  rw[aU,az hc9 rfl,bL]
  refine⟨by simp; omega, ?_⟩
  rw[bL]
  refine⟨by simp; omega, ?_⟩
  rw[bL]
  refine⟨by simp; omega, ?_⟩
  rw[add1 (by omega)]
  have k3c:ae [M.next,M2.next] M3 Mc:=(k3a.eD kb fun c hc=>.inl (by have:=(hwb c hc).1; omega)).trans (kc.mono (by simp))
  exact hnext _ _ _ (by omega) ⟨i + 1,ns++[p.1],fs++[(nf,p.2)],w',rfl,by rw[H9],by omega,k3c,by omega,hc4,oc,cc',by simp[hns],by simp[hfs],by rw[H9]; simp; omega,he⟩
theorem Td (s:Str) : (kS s).1.length + (kS s).2.1.length≤s.length:=by
 unfold kS
 cases hh:bE 34 s with
 | true =>
   have:=bg hh
   rw[if_pos rfl]
   cases hb:brk 34 (s.drop 1) with
   | none=>simp
   | some x =>
     have:=MB (a:=x.1) (b:=x.2) (by rw[hb])
     simp at this ⊢; omega
 | false =>
   rw[if_neg (by simp)]
   split
   ·simp
   ·simp; omega
theorem JZ:∀ (k:Nat) (s:Str) (acc vs:List Str) (r:Str),1≤s.length→ic k s acc=some (vs,r)→dX vs + 3 * r.length≤dX acc + 3 * s.length
 | 0,_,_,_,_,_,h=>by cases h
 | k + 1,s,acc,vs,r,h1,h=>by
   rw[ic] at h
   have hl:=Td (s.drop 1)
   rw[List.length_drop] at hl
   generalize kS (s.drop 1)=x at *
   obtain⟨v,q,ok⟩:=x
   dsimp only at h hl
   split at h
   ·split at h
    ·rename_i hh
     have:=JZ k q _ vs r (bg hh) h
     rw[BU] at this
     omega
    ·cases h
     rw[BU]; omega
   ·cases h
theorem MJ (f:Str→Str) : ∀ (k:Nat) (s:Str) (acc ps:List jA) (r:Str),mO f k s acc=some (ps,r)→iK ps + 3 * r.length≤iK acc + 3 * s.length
 | 0,_,_,_,_,h=>by cases h
 | k + 1,s,acc,ps,r,h=>by
   rw[mO] at h
   split at h
   ·rename_i h59
    have hp:=bg h59
    have hw:=vE (s.drop 1)
    rw[List.length_drop] at hw
    split at h
    ·rename_i h61
     simp only[Bool.and_eq_true] at h61
     have hq:=bg h61.2
     cases hv:ic ((s.drop 1).drop (wk (s.drop 1))).length ((s.drop 1).drop (wk (s.drop 1))) [] with
     | none=>rw[hv] at h; cases h
     | some x =>
       obtain⟨vs,q⟩:=x
       rw[hv] at h
       dsimp only at h
       have h1:=JZ _ _ _ _ _ hq hv
       have h2:=MJ f k q _ ps r h
       rw[Nf] at h2
       simp only[show dX []=0 from rfl,List.length_drop,List.length_map,List.length_take] at h1 h2
       omega
    ·cases h
   ·cases h; omega
theorem Q8 {f:Str→Str} {s:Str} {L:Ln} (h:iw f s=some L) : qF (3 * s.length) L:=by
 unfold iw at h
 split at h
 ·have hd:∀ {g n r:Str},rP f s=some (g,n,r)→g.length≤s.length∧n.length≤s.length∧r.length≤s.length:=by
   intro g n r hh
   have h1:=vE s
   unfold rP at hh
   split at hh
   ·split at hh
    ·cases hh
     simp[dS]; omega
    ·cases hh
   ·cases hh
    simp[dS]; omega
  split at h
  ·cases h
  ·rename_i g n r hh
   obtain⟨h1,h2,h3⟩:=hd hh
   unfold xZ at h
   split at h
   ·cases h
   ·rename_i ps q hp
    unfold nY at hp
    have:=MJ f _ _ _ _ _ hp
    simp only[show iK []=0 from rfl] at this
    split at h
    ·cases h
     exact⟨by dsimp only; omega,by dsimp only; omega,by dsimp only; simp; omega,by dsimp only; omega⟩
    ·cases h
 ·cases h
theorem xD {f:Str→Str} (P:Li→Prop) : ∀ (l:List (Str × Int)) (acc ls:List Li),(∀ x∈acc,P x)→(∀ s k L,(s,k)∈l→s.length≤912→iw f s=some L→P (L,k))→fF f l acc=.ok ls→∀ x∈ls,P x
 | [],acc,ls,ha,_,h=>by
   cases h; exact ha
 | (s,k) :: r,acc,ls,ha,hl,h=>by
   have hl' : ∀ s k L,(s,k)∈r→s.length≤912→iw f s=some L→P (L,k):=fun s k L h=>hl s k L (List.mem_cons_of_mem _ h)
   rw[fF] at h
   split at h
   ·exact xD P r acc ls ha hl' h
   ·split at h
    ·cases h
    ·rename_i hn
     split at h
     ·cases h
     ·rename_i L hL
      refine xD P r _ ls (fun x hx=>?_) hl' h
      rcases List.mem_append.1 hx with hx | hx
      ·exact ha x hx
      ·simp at hx; subst hx; exact hl s k L (List.mem_cons_self ..) (by omega) hL
theorem Lg:∀ (xs acc:List Str) (ns:List Int) (k:Int),(∀ n∈ns,0<n)→0<k→k + xs.length<4611686018427387904→∀ n∈(jL acc ns k xs).2,0<n
 | [],acc,ns,k,h,_,_,n,hn=>h n hn
 | x :: xs,acc,ns,k,h,hk,hb,n,hn=>by
   rw[jL] at hn
   simp only[List.length_cons] at hb
   have hw:IntKind.wrap .i64 (k + 1)=k + 1:=by rw[IntKind.wrap_i64]; omega
   rw[hw] at hn
   refine Lg xs _ _ (k + 1) (fun m hm=>?_) (by omega) (by omega) n hn
   split at hm
   ·exact h m hm
   ·rcases List.mem_append.1 hm with hm | hm
    ·exact h m hm
    ·simp at hm; omega
theorem V4 {s:Str} {ls:List Li} (hs:s.length≤100000000) (h:Bp gP s=.ok ls) : ∀ x∈ls,qF 2736 x.1∧0<x.2:=by
 refine xD (fun x=>qF 2736 x.1∧0<x.2) _ [] ls (by simp) (fun t k L hm hl hr=>⟨(Q8 hr).mono (by omega), ?_⟩) h
 have:=(List.of_mem_zip hm).2
 have hr:=sW s []
 exact Lg _ _ _ _ (by simp) (by decide) (by omega) k this
theorem yT {f:Str→Str} : ∀ (l:List (Str × Int)) (acc ls:List Li),fF f l acc=.ok ls→ls.length≤acc.length + l.length
 | [],acc,ls,h=>by cases h; simp
 | (s,k) :: r,acc,ls,h=>by
   rw[fF] at h
   split at h
   ·have:=yT r acc ls h; simp; omega
   ·split at h
    ·cases h
    ·split at h
     ·cases h
     ·have:=yT r _ ls h; simp at this ⊢; omega
theorem Lc {s:Str} {ls:List Li} (h:Bp gP s=.ok ls) : ls.length≤s.length + 1:=by
 have h1:=yT _ _ _ h
 have h2:=F4 (dE [] s) [] [] 1
 have h3:=sW s []
 unfold Ji at h1
 rw[List.length_zip] at h1
 simp only[List.length_nil] at h1 h2
 omega
theorem Dv {b:Int} : ∀ (l acc c r:List Li),eu b l acc=.ok (c,r)→(∃ d,c=acc++d∧∀ x∈d,x∈l)∧(∀ x∈r,x∈l)∧c.length + r.length≤acc.length + l.length
 | [],_,_,_,h=>by cases h
 | x :: l,acc,c,r,h=>by
   rw[eu] at h
   split at h
   ·cases h
    exact⟨⟨[],by simp,by simp⟩,fun x hx=>List.mem_cons_of_mem _ hx,by simp⟩
   ·split at h
    ·cases h
    ·obtain⟨⟨d,h1,h2⟩,h3,h4⟩:=Dv l _ c r h
     refine⟨⟨x :: d,by rw[h1]; simp,fun y hy=>?_⟩,fun y hy=>List.mem_cons_of_mem _ (h3 y hy),by simp at h4 ⊢; omega⟩
     rcases List.mem_cons.1 hy with rfl | hy
     ·exact List.mem_cons_self ..
     ·exact List.mem_cons_of_mem _ (h2 y hy)
theorem Le {b:Int} : ∀ (l acc:List Li) (e:Int),eu b l acc=.error e→e=b∨∃ x∈l,e=x.2
 | [],_,_,h=>by cases h; exact .inl rfl
 | x :: l,acc,e,h=>by
   rw[eu] at h
   split at h
   ·cases h
   ·split at h
    ·cases h; exact .inr ⟨x,List.mem_cons_self ..,rfl⟩
    ·rcases Le l _ e h with h | ⟨y,hy,h⟩
     ·exact .inl h
     ·exact .inr ⟨y,List.mem_cons_of_mem _ hy,h⟩
theorem Eb:∀ (k:Nat) (l:List Li) (acc css:List (List Li)),iW k l acc=.ok css→∀ c∈css,c∈acc∨(c≠[]∧c.length≤l.length∧∀ x∈c,x∈l)
 | 0,l,acc,css,h,c,hc=>by cases h; exact .inl hc
 | k + 1,[],acc,css,h,c,hc=>by cases h; exact .inl hc
 | k + 1,x :: r,acc,css,h,c,hc=>by
   rw[gX] at h
   split at h
   ·cases h
   ·cases r with
    | nil=>cases h
    | cons y r =>
      dsimp only at h
      split at h
      ·cases h
      ·cases hb:eu x.2 r [x] with
       | error e=>rw[hb] at h; cases h
       | ok p =>
         obtain⟨c1,r'⟩:=p
         rw[hb] at h
         dsimp only at h
         obtain⟨⟨d,h1,h2⟩,h3,h4⟩:=Dv _ _ _ _ hb
         have hl:=uF _ _ _ _ hb
         rcases Eb k r' _ css h c hc with h5 | ⟨h5,h6,h7⟩
         ·rcases List.mem_append.1 h5 with h5 | h5
          ·exact .inl h5
          ·simp at h5; subst h5
           refine .inr ⟨by rw[h1]; simp,by simp at h4 ⊢; omega,fun z hz=>?_⟩
           rw[h1] at hz
           rcases List.mem_append.1 hz with hz | hz
           ·simp at hz; subst hz; exact List.mem_cons_self ..
           ·exact List.mem_cons_of_mem _ (List.mem_cons_of_mem _ (h2 z hz))
         ·exact .inr ⟨h5,by simp; omega,fun z hz=>List.mem_cons_of_mem _ (List.mem_cons_of_mem _ (h3 z (h7 z hz)))⟩
theorem J8:∀ (k:Nat) (l:List Li) (acc:List (List Li)) (e:Int),iW k l acc=.error e→∃ x∈l,e=x.2
 | 0,l,acc,e,h=>by cases h
 | k + 1,[],acc,e,h=>by cases h
 | k + 1,x :: r,acc,e,h=>by
   rw[gX] at h
   split at h
   ·cases h; exact⟨x,List.mem_cons_self ..,rfl⟩
   ·cases r with
    | nil=>cases h; exact⟨x,List.mem_cons_self ..,rfl⟩
    | cons y r =>
      dsimp only at h
      split at h
      ·cases h; exact⟨y,by simp,rfl⟩
      ·cases hb:eu x.2 r [x] with
       | error e' =>
         rw[hb] at h; cases h
         rcases Le _ _ _ hb with h | ⟨z,hz,h⟩
         ·exact⟨x,List.mem_cons_self ..,h⟩
         ·exact⟨z,by simp[hz],h⟩
       | ok p =>
         obtain⟨c1,r'⟩:=p
         rw[hb] at h
         obtain⟨_,h3,_⟩:=Dv _ _ _ _ hb
         obtain⟨z,hz,h⟩:=J8 k r' _ e h
         exact⟨z,by simp[h3 z hz],h⟩
def E5:jr Cd where
 size:=3
 rel M cs c S:=∃ v,cs=[St c.1,v,N .i64 c.2.2]∧bB oV.iU M v c.2.1 S
 len h:=by obtain⟨v,rfl,h⟩:=h; rfl
 one h:=by obtain⟨v,rfl,h⟩:=h; simp[h.one,eF]
 mono h hs:=by obtain⟨v,rfl,h⟩:=h; exact⟨v,rfl,h.mono hs⟩
 lt h:=by obtain⟨v,rfl,h⟩:=h; exact⟨v,rfl,h.lt⟩
 keep h hk hb:=by obtain⟨v,rfl,h⟩:=h; exact⟨v,rfl,h.keep hk hb⟩
def GH (B:Base) (c:aj) : Prop:=∀ {M:RM} {s:Str} {Q:ai},M.base=B→s.length≤100000000→(∀ ls,Bp gP s=.ok ls→ls.length≤100000) →
 (∀ M' w cs,ae [] M M'→lZ Sha.ed s=.ok cs→bB E5 M' w cs (fun b=>M.next≤b)→cs.length≤s.length + 1→Q (.tup [w,N .i64 0,N .i64 0]) M') →
 (∀ M' k e,ae [] M M'→lZ Sha.ed s=.error (k,e)→e≠0→Q (.tup [aB,N .i64 k,N .i64 e]) M')→c [St s] M Q
theorem BA {f:Str→Str} : ∀ (l:List (Str × Int)) (acc:List Li) {k e:Int},fF f l acc=.bad k e→e≠0
 | [],acc,k,e,h=>by cases h
 | (s,n) :: r,acc,k,e,h=>by
   rw[fF] at h
   split at h
   ·exact BA r acc h
   ·split at h
    ·cases h; decide
    ·split at h
     ·cases h; decide
     ·exact BA r _ h
theorem Tk {B:Base} {TC:Nat} {cr cc cd:aj} (hr:sN B gP cr) (hc:vX B cc) (hd:O7 B cd) : GH B fun args M Q=>∃ a0,args=[a0]∧pX cr cc cd TC a0 M Q:=by
 intro M s Q hM hlen hcnt hO hE
 refine⟨_,rfl, ?_⟩
 unfold pX
 unfold lZ at hO hE
 refine hr hM hlen ?_ ?_
 rotate_left 1
 ·intro M1 k e k1 hrd
  rw[hrd] at hE
  have h0:=BA _ _ hrd
  rw[bG,bJ,gF,dm,show(e != 0)=true by simpa using h0,eZ]
  exact hE M1 k e k1 rfl h0
 intro v M1 ls k1 hrd hv hll
 have hall:=V4 hlen hrd
 have hll':=hcnt ls hrd
 rw[hrd] at hO hE
 dsimp only at hO hE
 rw[bG,bJ,gF,dm,show((0:Int) != 0)=false from rfl,dx]
 have n1:=k1.next
 refine hc (k1.base.trans hM) hv (by omega) (fun x hx=>((hall x hx).1.mono (by omega)).lb) ?_ ?_
 rotate_left 1
 ·intro M2 k k2 hcut
  obtain⟨x,hx,rfl⟩:=J8 _ _ _ _ hcut
  unfold uq at hcut
  rw[hcut] at hE
  rw[bG,bJ,uK,show decide (x.2 > 0)=true from decide_eq_true (hall x hx).2,eZ]
  exact hE M2 x.2 3 (k1.trans k2) rfl (by decide)
 intro M2 w css k2 hcut hw hcl
 have hcs:=Eb _ _ _ _ hcut
 unfold uq at hcut
 rw[hcut] at hO hE
 dsimp only at hO hE
 rw[bG,bJ,uK,show decide ((0:Int) > 0)=false from rfl,dx,hw.len]
 have k02:=k1.trans k2
 have hw2:=(hw.mono (S':=fun b=>M.next≤b) fun b h=>by rcases h with h | h <;> omega).lt
 refine aP (fun m ys M3=>∃ (i:Nat) (o:AV) (acc:List Cd),m=css.length - i∧ys=[o,N .i64 (i:Int)]∧i≤css.length∧acc.length=i∧ae [] M2 M3 ∧
   eG E5 M3 M2.next TC o acc (fun b=>M2.next≤b∧b<M3.next∧b ∉ aD o)∧fZ Sha.ed (css.drop i) acc=fZ Sha.ed css []) _
  ⟨0,aB,[],rfl,rfl,Nat.zero_le _,rfl,ae.refl _ _,.nil,rfl⟩ ?_
 rintro next m ys M3 hnext ⟨i,o,acc,rfl,rfl,hi,hal,k3,ho,he⟩
 dsimp only[ag]
 have hob:=ho.blk
 have n2:=k2.next
 have n3:=k3.next
 rw[jC]
 refine aZ (fun h=>?_) (fun h=>?_)
 rotate_left 1
 ·have h:¬ i<css.length:=of_decide_eq_false h
  rw[List.drop_eq_nil_of_le (by omega),fZ] at he
  refine hO M3 o acc (k02.trans k3) he.symm ?_ (by omega)
  exact(ho.mono (S':=fun b=>M.next≤b) fun b h=>by omega).CR fun b h _=>by omega
 have h:i<css.length:=of_decide_eq_true h
 have hw3:=hw2.keep k3 (by simp)
 obtain⟨bb,oo,ds,_,_,hidx,hld,cv,rfl,hcv,hcap⟩:=bB.at hw3 1 (i:Int) h
 have c0:M3.cell bb oo=some cv:=pI hld rfl
 rw[hidx,eB,c0]
 refine⟨_,rfl, ?_⟩
 rw[List.drop_eq_getElem_cons h,fZ] at he
 rcases hcs _ (List.getElem_mem h) with hbad | ⟨hne,Vw,hsub⟩
 ·simp at hbad
 generalize css[i]=c at *
 refine hd ((k02.trans k3).base.trans hM) hcv hcap hne (by omega) (fun x hx=>(hall x (hsub x hx)).1.mono (by omega)) ?_ ?_
 rotate_left 1
 ·intro M4 k e k4 hcd h0
  rw[hcd] at he
  dsimp only at he
  rw[← he] at hE
  rw[bG,bJ,gF,aF]
  refine zv (b:=0) 3 rfl rfl _ rfl rfl rfl fun M5 k5 n5 h5=>?_
  rw[dm,show(e != 0)=true by simpa using h0,eZ]
  exact hE M5 k e (((k02.trans k3).trans k4).trans k5) rfl h0
 intro M4 fv cd k4 hcd hfv
 rw[hcd] at he
 dsimp only at he
 have hf1:oneCell fv=true:=dK.one (Own.sZ hfv)
 have TT:([St cd.1,fv,N .i64 cd.2.2] : List AV).all oneCell=true:=by simp[eF,hf1]
 have n4:=k4.next
 have hfb:=Own.blk hfv
 rw[bG,bJ,gF,aF]
 refine zv (b:=0) 3 rfl rfl _ rfl TT rfl fun M5 k5 n5 h5=>?_
 rw[dm,show((0:Int) != 0)=false from rfl,dx,aN (n:=3) h5 rfl,jg (x:=.agg [St cd.1,fv,N .i64 cd.2.2]) (size:=3) rfl TT rfl,aF]
 have k45:=k4.trans k5
 let S' : Nat→Prop:=fun b=>M2.next≤b∧b<M5.next∧b ∉ aD o
 have ho5:eG E5 M5 M2.next TC o acc S':=(ho.keep k45 (by simp) (by simp)).mono fun b h=>⟨h.1,by omega,h.2.2⟩
 have hel:E5.rel M5 [St cd.1,fv,N .i64 cd.2.2] cd S':=⟨fv,rfl,bB.WC (dK.keep (Own.sZ hfv) k5 (by simp)) fun b hb=>⟨by have:=(hfb b hb).1; omega,by have:=(hfb b hb).2; omega,fun hbo=>by have:=(hfb b hb).1; have:=(hob b hbo).2; omega⟩⟩
 refine eG.app (R:=E5) ho5 hel (by omega) (by decide) (fun b hb h=>h.2.2 hb) (fun b h=>h.2.1) (by omega) (by omega) ?_
 intro o' M6 o6 k6 n6 _ hd6
 rw[add1 (by omega)]
 refine hnext _ _ _ (by omega) ⟨i + 1,o',acc++[cd],rfl,rfl,by omega,by simp[hal],(k3.trans k45).eD k6 fun c hc=>.inl (hob c hc).1, ?_,he⟩
 exact o6.mono fun b h=>⟨h.1,by have:=h.2.1; omega,fun hb=>hd6 b hb h⟩
theorem FH {cs:List UInt8} {ci cv cq:aj} (hcs:Asc cs) (hl:cs.length≤1000) (hi:pF ci) (hv:zJ cv) : xL cs fun args M Q=>∃ a0 a1,args=[a0,a1]∧ja ci cv cq a0 a1 M Q:=by
 intro M r Q hr hQ
 refine⟨_,_,rfl, ?_⟩
 unfold ja
 simp only[dJ,dB,nL]
 by_cases h1:r<128
 ·have e1:decide ((r:Int)<128)=true:=by simp; omega
  simp only[go_sem,decide_true,e1]
  have:N .u8 (IntKind.wrap .u8 (r:Int))=By (UInt8.ofNat r):=by
   have h2:IntKind.wrap .u8 (r:Int)=(r:Int):=by unfold IntKind.wrap; simp[IntKind.bits,IntKind.signed]; omega
   rw[h2]; simp[By]; omega
  rw[this]
  refine hi ?_
  have:=hQ M (ae.refl _ _)
  rw[BZ,if_pos h1] at this
  exact this
 have hm:BZ cs r=-1:=by rw[BZ,if_neg h1]
 rw[hm] at hQ
 have e1:decide ((r:Int)<128)=false:=by simp; omega
 simp only[go_sem,decide_true,e1]
 refine⟨fun h2=>?_,fun h2=>?_⟩
 ·refine⟨cs,rfl, ?_⟩
  simp only[go_sem]
  refine aP (fun m ys M3=>∃ pos:Nat,m=cs.length - pos∧ys=[]∧M3.heap M.next=some (.fQ cs pos)∧ae [] M M3∧M.next<M3.next) _
   ⟨0,rfl,rfl,RM.aR _,(ae.refl _ _).push _,by simp[RM.push]⟩ ?_
  rintro next m ys M3 hnext ⟨pos,rfl,rfl,hh,hk,hlt⟩
  refine⟨_,_,_,rfl,hh, ?_⟩
  split
  ·rename_i hp
   rcases ul hp with⟨d1,d2⟩ | ⟨d1,_⟩
   ·rw[d2]
    simp only[go_sem]
    have e3:((bt cs pos:Int) == 65533)=false:=by simp; omega
    simp only[e3]
    refine⟨fun h=>by simp at h,fun _=>hnext _ _ _ (by omega) ⟨pos + 1,rfl,rfl,RM.jJ _ _,hk.put _ (.inl (Nat.le_refl _)),by simpa [RM.nu] using hlt⟩⟩
   ·have:=hcs.bt hp; omega
  ·simp only[go_sem]
   exact hQ M3 hk
 ·refine hv fun b=>?_
  cases b with
  | false=>simp only[go_sem]; exact hQ M (ae.refl _ _)
  | true =>
    simp only[go_sem]
    obtain⟨a,x,hax,hx,ha1,ha2⟩:=LX (r:=r) (by omega)
    rw[hax]
    have w1:IntKind.wrap .i64 (((a++[x]).length:Int) - 1)=((a.length:Nat) : Int):=by simp; rw[xR (by omega) (by omega)]
    have hxn:x ∉ cs:=fun h=>by have:=hcs x h; omega
    rw[w1]
    refine aP (fun m ys M3=>M3=M∧∃ y,ys=[N .i64 (a.length:Int),y]) 0 ⟨rfl,_,rfl⟩ ?_
    rintro next m ys M3 hnext ⟨rfl,y,rfl⟩
    simp only[go_sem]
    refine⟨fun h3=>?_,fun h3=>hQ M3 (ae.refl _ _)⟩
    have h3:a.length<cs.length:=by simpa using h3
    have hbt:=hcs.bt h3
    refine yD ?_
    have hla:(a++[x])[a.length]?=some x:=by simp
    refine⟨_,List.getElem?_eq_getElem h3,x,hla,fun _=>?_,fun hne=>?_⟩
    ·rw[show IntKind.wrap .i64 ((a.length:Int) + 1)=((a.length + 1:Nat) : Int) by rw[xR (by omega) (by omega)]; omega]
     rw[bD (by omega)]
     simp only[go_sem]
     refine⟨x,hla,hi ?_⟩
     rw[Iq (fun h=>hxn (List.mem_of_mem_drop h))]
     simp only[go_sem,show decide ((-1:Int)<0)=true from rfl]
     exact hQ M3 (ae.refl _ _)
    ·rw[II h3] at hne
     have:((bt cs a.length:Int) != (x.toNat:Int))=true:=by simp; omega
     rw[this] at hne; cases hne
theorem Jd {x:UInt8} {g:Nat} {ci xx c1 c2:aj} (hi:pF ci) : FW x fun args M Q=>∃ a0 a1,args=[a0,a1]∧eY ci g xx c1 c2 a0 a1 M Q:=by
 intro M s Q hQ
 refine⟨_,_,rfl, ?_⟩
 unfold eY
 rw[bu,dR,show((([x] : List UInt8).length:Int) == 0)=false from rfl]
 simp only[dJ]
 by_cases h:[x]=s
 ·subst h
  have:Lib.indexByte [x] x=0:=by simp[Lib.indexByte]
  rw[this] at hQ
  simp only[go_sem,beq_self_eq_true]
  exact hQ
 ·have h' : (([x] : List UInt8) == s)=false:=by simp[h]
  simp only[go_sem,h']
  exact⟨fun _=>⟨by omega,x,rfl,hi hQ⟩,fun h=>absurd h (by decide)⟩
def TD (B:Base) (c:aj) : Prop:=∀ {M:RM} {s:Str} {Q:ai},M.base=B→s≠[]→s.length≤1000000→Q (.tup [N .i32 ((dec s).1:Int),N .i64 (rs s:Int)]) M→c [St s] M Q
def Q3 (B:Base) (c:aj) : Prop:=(∀ {M:RM} {y:UInt8} {Q:ai},M.base=B→y∈bX→Q (N .i32 ((y.toNat:Int) - 32)) M→c [N .i32 (y.toNat:Int)] M Q) ∧
 ∀ {M:RM} {y:UInt8} {Q:ai},M.base=B→y∈bX→Q (N .i32 (y.toNat:Int)) M→c [N .i32 ((y.toNat:Int) - 32)] M Q
theorem letter {y:UInt8} (h:y∈bX) : 97≤y.toNat∧y.toNat≤122:=by
 have:bX.all (fun y=>decide (97≤y.toNat) && decide (y.toNat≤122))=true:=by decide
 have:=List.all_eq_true.1 this y h
 simpa using this
theorem UQ:∀ x:Fin 256,∀ y∈bX,decide (ES .u8 (x.val:Int) (y.toNat:Int) ≥ 128)=decide (128≤x.val):=by decide +kernel
theorem Qw {c y:UInt8} (hy:y∈bX) (h:128≤c.toNat) : dw c≠y:=by
 have:=letter hy
 unfold dw
 rw[if_neg (by omega)]
 intro e; rw[e] at h; omega
theorem add32 {c:UInt8} (h:c.toNat≤90) : (c + 32).toNat=c.toNat + 32:=by
 rw[UInt8.toNat_add,show(32:UInt8).toNat=32 from rfl,Nat.mod_eq_of_lt (by omega)]
theorem Gt {c y:UInt8} (hy:y∈bX) : dw c=y↔c=y∨(65≤c.toNat∧c.toNat≤90∧y.toNat=c.toNat + 32):=by
 have hl:=letter hy
 unfold dw
 split
 ·rename_i h
  constructor
  ·intro e
   right
   refine⟨h.1,h.2, ?_⟩
   rw[← e]; first | exact add32 h.2 | (rw[UInt8.toNat_ofNat',Nat.mod_eq_of_lt (by omega)])
  ·rintro(rfl | ⟨_,_,e⟩)
   ·omega
   ·apply UInt8.toNat_inj.1
    first | (rw[add32 h.2,e]) | (rw[UInt8.toNat_ofNat',Nat.mod_eq_of_lt (by omega),e])
 ·rename_i h
  constructor
  ·exact fun e=>.inl e
  ·rintro(rfl | ⟨h1,h2,_⟩)
   ·rfl
   ·exact absurd ⟨h1,h2⟩ h
theorem Ic {c:UInt8} {r:Str} (h:c.toNat<128) : dec (c :: r)=(c.toNat,1):=by
 unfold dec
 have hb:bt (c :: r) 0=c.toNat:=rfl
 rw[hb]
 simp[Lib.decodeN,h]
theorem Yp {a b:Nat} {K:AV→Prop} : Gm false (N .i64 (a:Int)) (N .i64 (b:Int)) K=K (N .i64 ((min a b:Nat) : Int)):=by
 rw[Vo]
 have:(if false=true then(if (b:Int) > a then(b:Int) else a) else(if (b:Int)<a then(b:Int) else a))=((min a b:Nat) : Int):=by
  rw[if_neg (by simp)]; split <;> omega
 rw[this]
theorem Mf {B:Base} {cd cs:aj} (hd:TD B cd) (hs:Q3 B cs) : F7 B fun args M Q=>∃ a0 a1,args=[a0,a1]∧lq cd cs a0 a1 M Q:=by
 intro M s Q hM hl hQ
 refine⟨_,_,rfl, ?_⟩
 unfold lq
 simp only[dJ,dB]
 rw[bu,bu,Yp,show bX.length=5 from rfl]
 have hno:(∃ i,i<s.length∧∃ h:i<5,dw (s.getD i 0)≠bX.getD i 0)→∀ M',ae [] M M'→Q (Bo false) M':=by
  rintro⟨i,h1,h2,h3⟩ M' k'
  refine hQ M' false k' ?_
  rw[Bool.false_and]
  refine(decide_eq_false fun e=>h3 ?_).symm
  have:=congrArg (fun l:Str=>l.getD i 0) e
  simp only[List.getD_eq_getElem?_getD,List.getElem?_map,List.getElem?_eq_getElem h1,Option.map_some,Option.getD_some] at this ⊢
  exact this
 refine aP (fun m ys M1=>∃ i:Nat,m=5 - i∧ys=[N .i64 (i:Int)]∧i≤min s.length 5∧M1=M∧(s.take i).map dw=bX.take i) _
  ⟨0,rfl,rfl,Nat.zero_le _,rfl,rfl⟩ ?_
 rintro next m ys M1 hnext ⟨i,rfl,rfl,hi,rfl,he⟩
 dsimp only[ag]
 rw[jC]
 refine aZ (fun h=>?_) (fun h=>?_)
 rotate_left 1
 ·have h:¬ i<min s.length 5:=of_decide_eq_false h
  rw[bu,bu,show bX.length=5 from rfl,dR]
  have hi:i=min s.length 5:=by omega
  refine hQ _ _ (ae.refl _ _) ?_
  by_cases h5:s.length=5
  ·have:i=5:=by omega
   subst this
   have e1:((s.length:Int) == (5:Nat))=true:=by simp[h5]
   rw[e1,decide_eq_true h5]
   rw[List.take_of_length_le (by omega),show bX.take 5=bX from rfl] at he
   rw[decide_eq_true he]; rfl
  ·rw[decide_eq_false h5,Bool.and_false]
   refine(decide_eq_false fun e=>h5 ?_).symm
   have:=congrArg List.length e
   simpa using this
 have h:i<min s.length 5:=of_decide_eq_true h
 have h1:i<s.length:=by omega
 have h2:i<bX.length:=by show i<5; omega
 have hy:bX[i]∈bX:=List.getElem_mem h2
 have hgs:s.getD i 0=s[i]:=by rw[List.getD_eq_getElem?_getD,List.getElem?_eq_getElem h1]; rfl
 have hgt:bX.getD i 0=bX[i]:=by rw[List.getD_eq_getElem?_getD,List.getElem?_eq_getElem h2]; rfl
 have hne:dw s[i]≠bX[i]→∀ M',ae [] M1 M'→Q (Bo false) M':=fun hn=>hno ⟨i,h1,h2,by rw[hgs,hgt]; exact hn⟩
 have hst:dw s[i]=bX[i]→(s.take (i + 1)).map dw=bX.take (i + 1):=by
  intro e
  rw[List.take_succ_eq_append_getElem h1,List.take_succ_eq_append_getElem h2,List.map_append,he,List.map_singleton,e]
 have hdt:bX.drop i=bX[i] :: bX.drop (i + 1):=List.drop_eq_getElem_cons h2
 have hds:s.drop i=s[i] :: s.drop (i + 1):=List.drop_eq_getElem_cons h1
 refine bI (fun ys M'=>M'=M1∧dw s[i]=bX[i]) ?_ ?_
 ·rintro ys M' ⟨rfl,e⟩
  rw[add1 (by omega)]
  exact hnext _ _ _ (by omega) ⟨i + 1,rfl,rfl,by omega,rfl,hst e⟩
 intro J hJ
 rw[Ce h1,Ce h2,By,By,je,fq]
 generalize s[i]=x at *
 generalize bX[i]=y at *
 have hor:=UQ ⟨x.toNat,x.toNat_lt⟩ y hy
 dsimp only at hor
 rw[hor]
 have hly:=letter hy
 refine aZ (fun hc=>?_) (fun hc=>?_)
 ·have hc:128≤x.toNat:=of_decide_eq_true hc
  have hn:=hne (Qw hy hc)
  rw[bD (by omega),dI,bD (by omega),dI,hds,hdt]
  refine⟨_,rfl, ?_⟩
  dsimp only
  rw[aF]
  refine aP (fun m ys M2=>ys=[St (y :: bX.drop (i + 1))]∧M2=M1.push (.fQ (x :: s.drop (i + 1)) 0)) 0 ⟨rfl,rfl⟩ ?_
  rintro Cf m ys M2 kZ ⟨rfl,rfl⟩
  dsimp only[ag]
  refine⟨_,_,_,rfl,RM.aR _, ?_⟩
  rw[if_pos (by simp)]
  rcases ul (s:=x :: s.drop (i + 1)) (i:=0) (by simp) with⟨d1,_⟩ | ⟨_,d2,d3,_,_⟩
  ·have:bt (x :: s.drop (i + 1)) 0=x.toNat:=rfl
   omega
  generalize Utf8.decode ⟨⟨x :: s.drop (i + 1)⟩⟩ 0=rr at *
  obtain⟨r,n⟩:=rr
  dsimp only at d2 d3 ⊢
  have k2:ae [] M1 ((M1.push (.fQ (x :: s.drop (i + 1)) 0)).put M1.next (.fQ (x :: s.drop (i + 1)) (0 + n))):=((ae.refl _ _).push _).put _ (.inl (Nat.le_refl _))
  generalize (M1.push (.fQ (x :: s.drop (i + 1)) 0)).put M1.next (.fQ (x :: s.drop (i + 1)) (0 + n))=M2 at *
  rw[bG,eZ,gF,bu,dR,show(((y :: bX.drop (i + 1)).length:Int) == 0)=false by simp; omega,dx]
  have hB2:M2.base=B:=k2.base.trans hM
  refine hd hB2 (by simp) (by simp; omega) ?_
  have hrs:rs (y :: bX.drop (i + 1))=1:=by rw[rs,if_neg (by simp),Ic (by omega)]
  rw[Ic (by omega),hrs,bG,bJ,bD (by simp),dI,dR]
  have e1:((y.toNat:Int) == (r:Int))=false:=by simp; omega
  rw[e1,dx]
  refine bI (fun ys M'=>M'=M2∧ys=[N .i32 (y.toNat:Int),N .i32 (r:Int)]) ?_ ?_
  rotate_left 1
  ·intro J2 hJ2
   rw[lN,show decide ((y.toNat:Int)<(r:Int))=true from decide_eq_true (by omega),eZ]
   exact hJ2 _ _ ⟨rfl,rfl⟩
  rintro _ M3 ⟨rfl,rfl⟩
  dsimp only[ag]
  rw[lN,show decide ((r:Int)<128)=false from decide_eq_false (by omega),dx]
  refine hs.1 hB2 hy ?_
  refine aP (fun m ys M4=>M4=M3∧((m=1∧ys=[N .i32 ((y.toNat:Int) - 32)])∨(m=0∧ys=[N .i32 (y.toNat:Int)]))) 1 ⟨rfl,.inl ⟨rfl,rfl⟩⟩ ?_
  rintro next3 m ys M4 Vx ⟨rfl,hys⟩
  rcases hys with⟨rfl,rfl⟩ | ⟨rfl,rfl⟩
  ·dsimp only[ag]
   rw[dm,show(((y.toNat:Int) - 32) != (y.toNat:Int))=true by simp; omega]
   simp only[qD]
   rw[lN,show decide (((y.toNat:Int) - 32)<(r:Int))=true from decide_eq_true (by omega),gD,eZ]
   exact hs.2 hB2 hy (Vx _ _ _ (by omega) ⟨rfl,.inr ⟨rfl,rfl⟩⟩)
  ·dsimp only[ag]
   rw[dm,show((y.toNat:Int) != (y.toNat:Int))=false by simp]
   simp only[u7,iH,dx]
   rw[dR,e1,dx]
   exact hn _ k2
 ·have hc:x.toNat<128:=by have:=of_decide_eq_false hc; omega
  rw[dR]
  refine aZ (fun hq=>?_) (fun hq=>?_)
  ·have hq:y=x:=by
    have:(y.toNat:Int)=(x.toNat:Int):=by simpa using hq
    exact UInt8.toNat_inj.1 (by omega)
   exact hJ _ _ ⟨rfl,(Gt hy).2 (.inl hq.symm)⟩
  have hxy:x≠y:=fun e=>by rw[e] at hq; simp at hq
  refine bI (fun ys M'=>M'=M1∧ys=[N .u8 (min (x.toNat:Int) y.toNat),N .u8 (max (x.toNat:Int) y.toNat)]) ?_ ?_
  rotate_left 1
  ·intro J2 hJ2
   rw[lN]
   refine aZ (fun h=>?_) (fun h=>?_)
   ·have h:=of_decide_eq_true h
    exact hJ2 _ _ ⟨rfl,by congr 2 <;> first | omega | (congr 1; omega) | (congr 2; omega)⟩
   ·have h:=of_decide_eq_false h
    exact hJ2 _ _ ⟨rfl,by congr 2 <;> first | omega | (congr 1; omega) | (congr 2; omega)⟩
  rintro _ M2 ⟨rfl,rfl⟩
  dsimp only[ag]
  have hxn:x.toNat≠y.toNat:=fun e=>hxy (UInt8.toNat_inj.1 e)
  have YK:¬ (65≤x.toNat∧x.toNat≤90∧y.toNat=x.toNat + 32)→∀ M',ae [] M2 M'→Q (Bo false) M':=fun hh=>hne (fun e=>by
   rcases(Gt hy).1 e with e | e
   ·exact hxy e
   ·exact hh e)
  rw[nL]
  refine uY (p:=decide (min (x.toNat:Int) y.toNat≤90)) (fun hc kk hk=>?_) ?_
  ·rw[nL]; exact hk
  refine uY (p:=decide ((max (x.toNat:Int) y.toNat)=IntKind.wrap .u8 (IntKind.wrap .u8 (min (x.toNat:Int) y.toNat + 97) - 65))) (fun hc kk hk=>?_) ?_
  ·rw[eH,lY,dR]
   have:((max (x.toNat:Int) y.toNat) == IntKind.wrap .u8 (IntKind.wrap .u8 (min (x.toNat:Int) y.toNat + 97) - 65))=decide ((max (x.toNat:Int) y.toNat)=IntKind.wrap .u8 (IntKind.wrap .u8 (min (x.toNat:Int) y.toNat + 97) - 65)):=by
    by_cases h:(max (x.toNat:Int) y.toNat)=IntKind.wrap .u8 (IntKind.wrap .u8 (min (x.toNat:Int) y.toNat + 97) - 65) <;> simp[h]
   rw[this] at *
   exact hk
  refine aZ (fun h=>?_) (fun h=>?_)
  ·simp only[Bool.and_eq_true,decide_eq_true_eq] at h
   obtain⟨⟨a1,a2⟩,a3⟩:=h
   have hw:IntKind.wrap .u8 (IntKind.wrap .u8 (min (x.toNat:Int) y.toNat + 97) - 65)=min (x.toNat:Int) y.toNat + 32:=by
    rw[IntKind.wrap_u8,IntKind.wrap_u8]; omega
   rw[hw] at a3
   exact hJ _ _ ⟨rfl,(Gt hy).2 (.inr (by omega))⟩
  ·refine YK (fun⟨b1,b2,b3⟩=>?_) _ (ae.refl _ _)
   have hw:IntKind.wrap .u8 (IntKind.wrap .u8 (min (x.toNat:Int) y.toNat + 97) - 65)=min (x.toNat:Int) y.toNat + 32:=by
    rw[IntKind.wrap_u8,IntKind.wrap_u8]; omega
   rw[hw] at h
   simp only[Bool.and_eq_false_iff,decide_eq_false_iff_not] at h
   omega
end Go.Ab.Vc
set_option maxRecDepth 100000
namespace Go.Ab.Vc
open Go Go.Ab Go.Ab.Vl
abbrev XO:Str:=[66,69,71,73,78,58,86,67,65,82,68,10,86,69,82,83,73,79,78,58,52,46,48,10,70,78,58,65,110,110,92,44,32,66,10,84,69,76,59,84,89,80,69,61,104,111,109,101,58,49,10,84,69,76,59,84,89,80,69,61,104,111,109,101,58,50,10,69,78,68,58,86,67,65,82,68,10]
abbrev TY:Str:=[66,69,71,73,78,58,86,67,65,82,68,13,10,86,69,82,83,73,79,78,58,52,46,48,13,10,70,78,58,65,110,110,92,44,32,66,13,10,84,69,76,59,84,89,80,69,61,104,111,109,101,58,49,13,10,84,69,76,59,84,89,80,69,61,104,111,109,101,58,50,13,10,69,78,68,58,86,67,65,82,68,13,10]
abbrev kF:List Fd:=[([102,110],[65,110,110,44,32,66]),([116,101,108,59,116,121,112,101,61,104,111,109,101],[49]),([116,101,108,59,116,121,112,101,61,104,111,109,101,35,50],[50])]
abbrev RV:Str:=[102,110,0,65,110,110,44,32,66,0,116,101,108,59,116,121,112,101,61,104,111,109,101,0,49,0,116,101,108,59,116,121,112,101,61,104,111,109,101,35,50,0,50,0]
abbrev kP:Fd:=([116,101,108,59,116,121,112,101,61,104,111,109,101,35,50],[50])
abbrev kL:Ln:=⟨[],[116,101,108],[([116,121,112,101],[[104,111,109,101]])],[50]⟩
theorem VY (h:Str→Str) : lZ h XO=.ok [([99,45]++(h RV).take 16,kF,1)]:=by kernel_rfl
theorem Xq:Pb kF=some TY:=by kernel_rfl
theorem Vd (h:Str→Str) : lZ h TY=.ok [([99,45]++(h RV).take 16,kF,1)]:=by kernel_rfl
theorem Vt:dN kP=(kL,1,true):=by kernel_rfl
theorem UN:iV kL 1=(kP,true):=by kernel_rfl
theorem Vh:Cz kP=true:=by kernel_rfl
end Go.Ab.Vc
set_option maxRecDepth 10000
namespace Go.Ab.Vc
open Go Go.Ab Go.Ab.Vl Go.Ab.Sm
theorem ou {M:RM} {c p:Bool} {f:KR→Prop} {G:AV→RM→Prop} (hf:c=true→∀ k:KR,k (Bo p) M none→f k) (hG:G (Bo (c && p)) M) :
  aK (Bo c) true f (fun k=>k .undef M none) (fun t M' b=>aC (Bo c) t (Bo false) fun u=>G u M'):=by
 cases c with
 | false=>rw[nU]; dsimp only; rw[Go.Ab.iH]; exact hG
 | true=>rw[lS]; exact hf rfl _ (by rw[Go.Ab.gD]; exact hG)
theorem I8 {M:RM} {v:AV} {cs:List Cd} {S:Nat→Prop} (h:bB E5 M v cs S) {i:Nat} (hi:i<cs.length) :
  ∃ w,bB oV.iU M w cs[i].2.1 S∧(∀ K:AV→Prop,(bf v (N .i64 (i:Int)) 3 fun p=>aH M p 3 K)=K (.agg [St cs[i].1,w,N .i64 cs[i].2.2])) ∧
    (∀ K:AV→Prop,(bf v (N .i64 (i:Int)) 3 fun p=>aG p 0 fun q=>ak M q K)=K (St cs[i].1)) ∧
    (∀ K:AV→Prop,(bf v (N .i64 (i:Int)) 3 fun p=>aG p 1 fun q=>ak M q K)=K w) ∧
    (∀ K:AV→Prop,(bf v (N .i64 (i:Int)) 3 fun p=>aG p 2 fun q=>ak M q K)=K (N .i64 cs[i].2.2)):=by
 obtain⟨b,o,ds,hb,hbm,hidx,hld,w,rfl,hw⟩:=bB.at h 3 (i:Int) hi
 have c0:M.cell b (o + 0)=some (St cs[i].1):=gy hld (j:=0) rfl
 have c1:M.cell b (o + 1)=some w:=gy hld (j:=1) rfl
 have c2:M.cell b (o + 2)=some (N .i64 cs[i].2.2):=gy hld (j:=2) rfl
 refine⟨w,hw,fun K=>?_,fun K=>?_,fun K=>?_,fun K=>?_⟩
 ·rw[hidx,qz,hld]; simp
 ·rw[hidx,iD,eB,c0]; simp
 ·rw[hidx,iD,eB,c1]; simp
 ·rw[hidx,iD,eB,c2]; simp
theorem Eg {M:RM} {v:AV} {c:Cd} {S:Nat→Prop} (h:bB E5 M v [c] S) :
  ∃ w,bB oV.iU M w c.2.1 S∧(∀ K:AV→Prop,(bf v (N .i64 (0:Int)) 3 fun p=>aH M p 3 K)=K (.agg [St c.1,w,N .i64 c.2.2])) ∧
    (∀ K:AV→Prop,(bf v (N .i64 (0:Int)) 3 fun p=>aG p 0 fun q=>ak M q K)=K (St c.1)) ∧
    (∀ K:AV→Prop,(bf v (N .i64 (0:Int)) 3 fun p=>aG p 1 fun q=>ak M q K)=K w):=by
 obtain⟨w,h1,h2,h3,h4,_⟩:=I8 h (i:=0) (by simp)
 exact⟨w,h1,h2,h3,h4⟩
theorem Og {B:Base} {c:aj} (h:GH B c) {M:RM} {s:Str} {Q:ai} {cs:List Cd} (hM:M.base=B) (hs:s.length≤90000) (he:lZ Sha.ed s=.ok cs)
  (hQ:∀ M' w,ae [] M M'→bB E5 M' w cs (fun b=>M.next≤b)→Q (.tup [w,N .i64 0,N .i64 0]) M') : c [St s] M Q:=by
 refine h hM (by omega) (fun ls hl=>by have:=Lc hl; omega) (fun M' w cs' k h1 h2 _=>?_) (fun M' k e _ h1 _=>?_)
 ·rw[he] at h1; cases h1; exact hQ M' w k h2
 ·rw[he] at h1; cases h1
theorem b2 (x y:Str) {K:AV→Prop} (h:K (.agg [St x,St y])) : dV [(St []),(St [])] [(0,1,(St x)),(1,1,(St y))] K:=by
 rw[iJ]; exact⟨_,by simp[mD,known,AV.cells,oneCell],h⟩
def VI (B:Base) (c:aj) : Prop:=∀ {M:RM} {Q:ai},M.base=B→(∀ M',ae [] M M'→Q (Bo true) M')→c [] M Q
theorem n18 (h:Str) (hh:h.length=64) : ([99,45]++h.take 16).length=18:=by simp; omega
set_option maxHeartbeats 1000000 in
theorem Ou {B:Base} {TL TP:Nat} {ci ce cl cf cg:aj} (hi:GH B ci) (he:Sw B ce) (hl:Er B cl) (hf:FC B cf) (hg:IK B cg) : VI B fun args M Q=>args=[]∧qN ci ce cl TL cf TP cg M Q:=by
 intro M Q hM hQ
 refine⟨rfl, ?_⟩
 unfold qN
 simp only[dJ,Nr]
 generalize hct:([99,45]++(Sha.ed RV).take 16:Str)=ct
 have Yt:ct.length=18:=by rw[← hct]; exact n18 _ (Sha.Ho _)
 have i1:=VY Sha.ed
 have i2:=Vd Sha.ed
 rw[hct] at i1 i2
 refine Og hi (s:=XO) hM (by decide) i1 fun M1 v k1 hv=>?_
 rw[bG,bJ,gF,dm]
 refine mP (p:=false) (fun _ kk hk=>by rw[dm]; exact hk) ?_
 refine mP (p:=false) (fun _ kk hk=>by rw[hv.len,dm]; exact hk) ?_
 obtain⟨w,hw,q3,q0,q1⟩:=Eg hv
 have hw:bB oV.iU M1 w kF _:=hw
 refine mP (p:=false) (fun _ kk hk=>by rw[q1,hw.len,dm]; exact hk) ?_
 rw[show(((((0:Int) != 0) || false) || false) || false)=false from rfl,dx]
 rw[q3]
 have kFs:∀ p∈kF,p.1.length≤10000000∧p.2.length≤10000000:=by decide
 refine he (ct:=ct) (k1.base.trans hM) hw.sl (by decide) kFs fun M2 k2=>?_
 rw[show Pb kF=some TY from Xq]
 dsimp only
 rw[bG,bJ]
 have k02:=k1.trans k2
 refine Og hi (s:=TY) (k02.base.trans hM) (by decide) i2 fun M3 v2 k3 hv2=>?_
 have k03:=k02.trans k3
 have k13:=k2.trans k3
 have hv3:=hv.keep k13 (by simp)
 obtain⟨w3,hw3,_,_,r1⟩:=Eg hv3
 have hw3:bB oV.iU M3 w3 kF _:=hw3
 rw[bG,bJ,gF,r1]
 rw[show(N .i64 (2:Int))=N .i64 ((2:Nat) : Int) from rfl,Co hw3.sl (i:=2) (by decide)]
 rw[show(kF)[2]=kP from rfl]
 refine hl (p:=kP) (k03.base.trans hM) (by decide) (by decide) fun M4 cs k4 hrel=>?_
 rw[Vt] at hrel ⊢
 dsimp only at hrel ⊢
 rw[if_pos rfl] at hrel ⊢
 obtain⟨pw,rfl,hpw,hall,_⟩:=xV hrel
 rw[bG,bJ,aF]
 refine zv (b:=0) 5 rfl rfl _ rfl hall rfl fun M5 k5 n5 h5=>?_
 rw[aN (n:=5) h5 rfl]
 have k05:=(k03.trans k4).trans k5
 have hkL:qF 1000 kL:=⟨by decide,by decide,by decide,by decide⟩
 refine hf (j:=1) (k05.base.trans hM) (jN (hpw.keep k5 (by simp))) (hkL.mono (by omega)).lb (by have:=hkL.laid; omega) fun M6 k6=>?_
 rw[UN]
 dsimp only[lK]
 rw[bG,bJ,aF]
 refine zv (b:=0) 2 rfl rfl _ rfl rfl rfl fun M7 k7 n7 h7=>?_
 have k07:=(k05.trans k6).trans k7
 have k37:ae [] M3 M7:=((k4.trans k5).trans k6).trans k7
 have h57:=(k6.trans k7).ax h5 (by omega) (by simp)
 have hv7:=hv3.keep k37 (by simp)
 have hv27:=hv2.keep k37 (by simp)
 obtain⟨w7,hw7,_,s0,s1⟩:=Eg hv7
 have hw7:bB oV.iU M7 w7 kF _:=hw7
 obtain⟨x7,hx7,_,t0,t1⟩:=Eg hv27
 have hx7:bB oV.iU M7 x7 kF _:=hx7
 have l0:∀ K:AV→Prop,(bf w7 (N .i64 (0:Int)) 2 fun p=>aH M7 p 2 K)=K (lK ([102,110],[65,110,110,44,32,66])):=fun K=>Co hw7.sl (i:=0) (by decide)
 have l2:∀ K:AV→Prop,(bf w7 (N .i64 ((2:Nat) : Int)) 2 fun p=>aH M7 p 2 K)=K (lK kP):=fun K=>Co hw7.sl (i:=2) (by decide)
 rw[s1,l0]
 refine b2 _ _ ?_
 rw[lK,qJ (r:=true) rfl rfl (Fa ([102,110],[65,110,110,44,32,66]) ([102,110],[65,110,110,44,32,66]) |>.trans (by simp)),show(true != false)=true from rfl]
 have e0:(N .i64 (0:Int))=N .i64 ((0:Nat) : Int):=rfl
 refine ou (p:=true) (fun _ kk hk=>?_) ?_
 ·rw[s1,l2]
  refine b2 _ _ ?_
  rw[lK,qJ (r:=true) rfl rfl ((Fa kP kP).trans (by simp))]; exact hk
 refine ou (p:=true) (fun _ kk hk=>by rw[dR]; exact hk) ?_
 refine ou (p:=true) (fun _ kk hk=>by rw[dR]; exact hk) ?_
 refine ou (p:=true) (fun _ kk hk=>by rw[hv27.len,dR]; exact hk) ?_
 refine ou (p:=true) (fun _ kk hk=>by rw[t1,hx7.len,dR]; exact hk) ?_
 refine ou (p:=true) (fun _ kk hk=>by rw[t0,s0,fV,beq_self_eq_true]; exact hk) ?_
 refine ou (p:=true) (fun _ kk hk=>by rw[s0,bu,dR,show((ct.length:Int) == 18)=true by simp[Yt]]; exact hk) ?_
 refine ou (p:=true) (fun _ kk hk=>by rw[dR]; exact hk) ?_
 refine ou (p:=true) (fun _ kk hk=>by rw[aU,az h57 rfl,fV]; exact hk) ?_
 refine ou (p:=true) (fun _ kk hk=>hk) ?_
 refine ou (p:=true) (fun _ kk hk=>?_) ?_
 ·rw[aN (n:=2) h7 rfl,s1,l2]
  rw[lK,qJ (r:=true) rfl rfl ((Fa kP kP).trans (by simp))]; exact hk
 simp only[Bool.and_self,lS,qD]
 rw[aN (n:=2) h7 rfl]
 refine hg (p:=kP) (k07.base.trans hM) (by decide) (by decide) fun M8 k8=>?_
 rw[gD,Vh]
 exact hQ _ (k07.trans k8)
end Go.Ab.Vc
namespace Go.Ab
open Go Go.RowKit
variable {H:Type} {enc:TypeId × Value→H}
end Go.Ab
namespace Go.Ab.Vc
open Go Go.Ab Go.Ab.Vl
def jW:List Str→Option (List Ln)
 | []=>some []
 | s :: r=>if s=[] then jW r else if 912<s.length then none else match iw gP s with
   | none=>none
   | some L=>(jW r).map (L :: ·)
theorem KM:∀ (l:List (Str × Int)) (acc ls:List Li),fF gP l acc=.ok ls→∃ t,jW (l.map Prod.fst)=some t∧ls.map Prod.fst=acc.map Prod.fst++t
 | [],acc,ls,h=>by cases h; exact⟨[],rfl,by simp⟩
 | (s,k) :: r,acc,ls,h=>by
   rw[fF] at h
   rw[List.map_cons,jW]
   dsimp only
   split at h
   ·rename_i h0; rw[if_pos h0]; exact KM r acc ls h
   ·rename_i h0; rw[if_neg h0]
    split at h
    ·cases h
    ·rename_i h1; rw[if_neg h1]
     cases hL:iw gP s with
     | none=>rw[hL] at h; cases h
     | some L =>
       rw[hL] at h
       obtain⟨t,h2,h3⟩:=KM r _ ls h
       exact⟨L :: t,by rw[h2]; rfl,by rw[h3]; simp⟩
theorem JU:∀ (l:List (Str × Int)) (acc:List Li) (t:List Ln),jW (l.map Prod.fst)=some t→∃ ls,fF gP l acc=.ok ls∧ls.map Prod.fst=acc.map Prod.fst++t
 | [],acc,t,h=>by cases h; exact⟨acc,rfl,by simp⟩
 | (s,k) :: r,acc,t,h=>by
   rw[fF]
   rw[List.map_cons,jW] at h
   dsimp only at h
   split at h
   ·rename_i h0; rw[if_pos h0]; exact JU r acc t h
   ·rename_i h0; rw[if_neg h0]
    split at h
    ·cases h
    ·rename_i h1; rw[if_neg h1]
     cases hL:iw gP s with
     | none=>rw[hL] at h; cases h
     | some L =>
       rw[hL] at h
       dsimp only at h ⊢
       obtain⟨t',h2,rfl⟩:=Option.map_eq_some_iff.1 h
       obtain⟨ls,h3,h4⟩:=JU r (acc++[(L,k)]) t' h2
       exact⟨ls,h3,by rw[h4]; simp⟩
theorem CE:∀ (a b:List Str),jW (a++b)=(jW a).bind fun x=>(jW b).map (x ++ ·)
 | [],b=>by cases h:jW b <;> simp[jW,h]
 | s :: a,b=>by
   rw[List.cons_append,jW,jW]
   split
   ·exact CE a b
   ·split
    ·rfl
    ·cases hL:iw gP s with
     | none=>rfl
     | some L =>
       dsimp only
       rw[CE a b]
       cases jW a with
       | none=>rfl
       | some x=>cases jW b <;> rfl
def U (s:Str) : List Str:=(dE [] s).foldl glue []
theorem Ld (s:Str) : (Ji s).map Prod.fst=U s:=by
 unfold Ji U
 rw[List.map_fst_zip,KF]
 have:=Dx (dE [] s) [] [] 1 rfl
 omega
abbrev nn (l:List Li) : List Ln:=l.map Prod.fst
theorem MH {b b' : Int} : ∀ (l l' acc acc' c r:List Li),nn l=nn l'→nn acc=nn acc'→eu b l acc=.ok (c,r)→∃ c' r',eu b' l' acc'=.ok (c',r')∧nn c=nn c'∧nn r=nn r'
 | [],l',acc,acc',c,r,h1,h2,h=>by cases h
 | x :: l,l',acc,acc',c,r,h1,h2,h=>by
   cases l' with
   | nil=>simp[nn] at h1
   | cons y l' =>
     simp only[nn,List.map_cons,List.cons.injEq] at h1
     obtain⟨e,h1⟩:=h1
     rw[eu] at h ⊢
     rw[← e]
     split at h
     ·rename_i h0; rw[if_pos h0]; cases h; exact⟨_,_,rfl,h2,h1⟩
     ·rename_i h0; rw[if_neg h0]
      split at h
      ·cases h
      ·rename_i h3; rw[if_neg h3]
       exact MH l l' _ _ c r h1 (by simp only[nn,List.map_append,List.map_cons,List.map_nil]; rw[show acc.map Prod.fst=acc'.map Prod.fst from h2,e]) h
theorem Nj:∀ (k:Nat) (l l' : List Li) (acc acc' css:List (List Li)),nn l=nn l'→acc.map nn=acc'.map nn→iW k l acc=.ok css→∃ Ot,iW k l' acc'=.ok Ot∧css.map nn=Ot.map nn
 | 0,l,l',acc,acc',css,h1,h2,h=>by cases h; exact⟨acc',rfl,h2⟩
 | k + 1,[],l',acc,acc',css,h1,h2,h=>by
   cases l' with
   | nil=>cases h; exact⟨acc',rfl,h2⟩
   | cons y l'=>simp[nn] at h1
 | k + 1,x :: r,l',acc,acc',css,h1,h2,h=>by
   cases l' with
   | nil=>simp[nn] at h1
   | cons x' r' =>
     simp only[nn,List.map_cons,List.cons.injEq] at h1
     obtain⟨e,h1⟩:=h1
     rw[gX] at h ⊢
     rw[← e]
     split at h
     ·cases h
     ·rename_i h0; rw[if_neg h0]
      cases r with
      | nil=>cases h
      | cons y r =>
        cases r' with
        | nil=>simp at h1
        | cons y' r' =>
          simp only[List.map_cons,List.cons.injEq] at h1
          obtain⟨e2,h1⟩:=h1
          dsimp only at h ⊢
          rw[← e2]
          split at h
          ·cases h
          ·rename_i h3; rw[if_neg h3]
           cases hb:eu x.2 r [x] with
           | error e=>rw[hb] at h; cases h
           | ok p =>
             obtain⟨c,q⟩:=p
             rw[hb] at h
             obtain⟨c',q',hb',g1,g2⟩:=MH (b':=x'.2) r r' [x] [x'] c q h1 (by simp[nn,e]) hb
             rw[hb']
             exact Nj k q q' _ _ css g2 (by simp only[List.map_append,List.map_cons,List.map_nil]; rw[h2,g1]) h
theorem KO {b:Int} : ∀ (l acc c r m:List Li),eu b l acc=.ok (c,r)→eu b (l++m) acc=.ok (c,r++m)
 | [],acc,c,r,m,h=>by cases h
 | x :: l,acc,c,r,m,h=>by
   rw[List.cons_append,eu] at *
   split at h
   ·rename_i h0; rw[if_pos h0]; cases h; rfl
   ·rename_i h0; rw[if_neg h0]
    split at h
    ·cases h
    ·rename_i h3; rw[if_neg h3]; exact KO l _ c r m h
theorem KG:∀ (n:Nat) (l m:List Li) (acc css:List (List Li)) (k:Nat),l.length≤n→iW (l.length + 1) l acc=.ok css→l.length + m.length<k→iW k (l++m) acc=iW (m.length + 1) m css
 | n,[],m,acc,css,k,hn,h,hk=>by
   cases h
   exact uT m.length m _ _ _ (Nat.le_refl _) (by simpa using hk) (by omega)
 | 0,x :: r,m,acc,css,k,hn,h,hk=>by simp at hn
 | n + 1,x :: r,m,acc,css,k,hn,h,hk=>by
   obtain⟨k,rfl⟩ : ∃ j,k=j + 1:=⟨k - 1,by simp at hk; omega⟩
   rw[List.cons_append,gX]
   rw[gX] at h
   split at h
   ·cases h
   ·rename_i h0; rw[if_neg h0]
    cases r with
    | nil=>cases h
    | cons y r =>
      dsimp only[List.cons_append] at h ⊢
      split at h
      ·cases h
      ·rename_i h3; rw[if_neg h3]
       cases hb:eu x.2 r [x] with
       | error e=>rw[hb] at h; cases h
       | ok p =>
         obtain⟨c,q⟩:=p
         rw[hb] at h
         have hq:=uF _ _ _ _ hb
         rw[KO _ _ _ _ m hb]
         dsimp only at h ⊢
         simp only[List.length_cons] at hn hk
         rw[uT q.length q _ _ (q.length + 1) (Nat.le_refl _) (by simp; omega) (by omega)] at h
         exact KG n q m _ css k (by omega) h (by omega)
theorem Rm:∀ (k:Nat) (l:List Li) (acc css:List (List Li)),iW k l []=.ok css→iW k l acc=.ok (acc++css):=by
 have gen:∀ (k:Nat) (l:List Li) (a b css:List (List Li)),iW k l b=.ok css→iW k l (a++b)=.ok (a++css):=by
  intro k
  induction k with
  | zero=>intro l a b css h; cases h; rfl
  | succ k ih =>
    intro l a b css h
    cases l with
    | nil=>cases h; rfl
    | cons x r =>
      rw[gX] at h ⊢
      split at h
      ·cases h
      ·rename_i h0; rw[if_neg h0]
       cases r with
       | nil=>cases h
       | cons y r =>
         dsimp only at h ⊢
         split at h
         ·cases h
         ·rename_i h3; rw[if_neg h3]
          cases hb:eu x.2 r [x] with
          | error e=>rw[hb] at h; cases h
          | ok p =>
            obtain⟨c,q⟩:=p
            rw[hb] at h
            dsimp only at h ⊢
            rw[List.append_assoc]
            exact ih q a (b++[c]) css h
 intro k l acc css h
 have:=gen k l acc [] css h
 simpa using this
theorem MU:∀ (l l' : List Li) (ns:List Str) (acc fs:List Fd),nn l=nn l'→lF l ns acc=.ok fs→lF l' ns acc=.ok fs
 | [],l',ns,acc,fs,h1,h=>by
   cases l' with
   | nil=>exact h
   | cons y l'=>simp[nn] at h1
 | x :: l,l',ns,acc,fs,h1,h=>by
   cases l' with
   | nil=>simp[nn] at h1
   | cons y l' =>
     simp only[nn,List.map_cons,List.cons.injEq] at h1
     obtain⟨e,h1⟩:=h1
     rw[lF] at h ⊢
     rw[← e]
     split at h
     ·cases h
     ·rename_i h0; rw[if_neg h0]; exact MU l l' _ _ fs h1 h
theorem UJ (h:Str→Str) (all:Str) : ∀ (l l' : List Li),nn l=nn l'→lJ h l all=lJ h l' all:=by
 have hf:∀ (l l' : List Li),nn l=nn l'→(l.find? fun x=>decide (x.1.n=wD) && decide (x.1.g=[])).map Prod.fst=(l'.find? fun x=>decide (x.1.n=wD) && decide (x.1.g=[])).map Prod.fst:=by
  intro l
  induction l with
  | nil=>intro l' h; cases l' with
    | nil=>rfl
    | cons y l'=>simp[nn] at h
  | cons x l ih =>
    intro l' h
    cases l' with
    | nil=>simp[nn] at h
    | cons y l' =>
      simp only[nn,List.map_cons,List.cons.injEq] at h
      obtain⟨e,h⟩:=h
      rw[List.find?_cons,List.find?_cons,← e]
      cases(decide (x.1.n=wD) && decide (x.1.g=[])) with
      | true=>simp[e]
      | false=>exact ih l' h
 intro l l' hl
 have:=hf l l' hl
 unfold lJ
 cases h1:l.find? (fun x=>decide (x.1.n=wD) && decide (x.1.g=[])) with
 | none =>
   rw[h1] at this
   cases h2:l'.find? (fun x=>decide (x.1.n=wD) && decide (x.1.g=[])) with
   | none=>rfl
   | some y=>rw[h2] at this; cases this
 | some x =>
   rw[h1] at this
   cases h2:l'.find? (fun x=>decide (x.1.n=wD) && decide (x.1.g=[])) with
   | none=>rw[h2] at this; cases this
   | some y =>
     rw[h2] at this
     simp only[Option.map_some,Option.some.injEq] at this
     dsimp only
     rw[this]
abbrev cc (c:Cd) : Str × List Fd:=(c.1,c.2.1)
theorem UY (h:Str→Str) (l l' : List Li) (c:Cd) (hl:nn l=nn l') (hc:lL h l=.ok c) : ∃ c',lL h l'=.ok c'∧cc c=cc c':=by
 cases l with
 | nil=>cases hc
 | cons b l =>
   cases l' with
   | nil=>simp[nn] at hl
   | cons b' l' =>
     simp only[nn,List.map_cons,List.cons.injEq] at hl
     obtain⟨e,hl⟩:=hl
     unfold lL at hc ⊢
     dsimp only at hc ⊢
     cases hf:lF l [] [] with
     | error e=>rw[hf] at hc; cases hc
     | ok fs =>
       rw[hf] at hc
       rw[MU l l' [] [] fs hl hf]
       cases hc
       exact⟨_,rfl,by simp only[cc]; rw[UJ h _ l l' hl]⟩
theorem KS (h:Str→Str) : ∀ (l l' : List (List Li)) (acc acc' cs:List Cd),l.map nn=l'.map nn→acc.map cc=acc'.map cc→fZ h l acc=.ok cs→∃ cs',fZ h l' acc'=.ok cs'∧cs.map cc=cs'.map cc
 | [],l',acc,acc',cs,h1,h2,hc=>by
   cases l' with
   | nil=>cases hc; exact⟨_,rfl,h2⟩
   | cons y l'=>simp at h1
 | x :: l,l',acc,acc',cs,h1,h2,hc=>by
   cases l' with
   | nil=>simp at h1
   | cons y l' =>
     simp only[List.map_cons,List.cons.injEq] at h1
     obtain⟨e,h1⟩:=h1
     rw[fZ] at hc ⊢
     cases hx:lL h x with
     | error e=>rw[hx] at hc; cases hc
     | ok c =>
       rw[hx] at hc
       obtain⟨c',g1,g2⟩:=UY h x y c e hx
       rw[g1]
       exact KS h l l' _ _ cs h1 (by simp only[List.map_append,List.map_cons,List.map_nil]; rw[h2,g2]) hc
theorem HZ (h:Str→Str) : ∀ (a b:List (List Li)) (acc x y:List Cd),fZ h a acc=.ok x→fZ h b []=.ok y→fZ h (a++b) acc=.ok (x++y)
 | [],b,acc,x,y,h1,h2=>by
   cases h1
   have gen:∀ (b:List (List Li)) (u v y:List Cd),fZ h b v=.ok y→fZ h b (u++v)=.ok (u++y):=by
    intro b
    induction b with
    | nil=>intro u v y hh; cases hh; rfl
    | cons c b ih =>
      intro u v y hh
      rw[fZ] at hh ⊢
      cases hx:lL h c with
      | error e=>rw[hx] at hh; cases hh
      | ok d=>rw[hx] at hh; dsimp only at hh ⊢; rw[List.append_assoc]; exact ih u _ y hh
   have:=gen b acc [] y h2
   simpa using this
 | c :: a,b,acc,x,y,h1,h2=>by
   rw[List.cons_append,fZ] at *
   cases hx:lL h c with
   | error e=>rw[hx] at h1; cases h1
   | ok d=>rw[hx] at h1; exact HZ h a b _ x y h1 h2
theorem JM:∀ (l:List Li) (ns:List Str) (acc fs:List Fd),lF l ns acc=.ok fs→fs.length=acc.length + l.length
 | [],ns,acc,fs,h=>by cases h; simp
 | x :: l,ns,acc,fs,h=>by
   rw[lF] at h
   split at h
   ·cases h
   ·have:=JM l _ _ fs h; simp at this ⊢; omega
theorem Hw (h:Str→Str) : ∀ (css:List (List Li)) (acc cs:List Cd),fZ h css acc=.ok cs→∀ c∈cs,c∈acc∨∃ l∈css,lL h l=.ok c
 | [],acc,cs,hc,c,hm=>by cases hc; exact .inl hm
 | l :: css,acc,cs,hc,c,hm=>by
   rw[fZ] at hc
   cases hx:lL h l with
   | error e=>rw[hx] at hc; cases hc
   | ok d =>
     rw[hx] at hc
     rcases Hw h css _ cs hc c hm with h1 | ⟨l',h1,h2⟩
     ·rcases List.mem_append.1 h1 with h1 | h1
      ·exact .inl h1
      ·simp at h1; subst h1; exact .inr ⟨l,List.mem_cons_self ..,hx⟩
     ·exact .inr ⟨l',List.mem_cons_of_mem _ h1,h2⟩
theorem RY {h:Str→Str} {l:List Li} {c:Cd} (hc:lL h l=.ok c) : c.2.1.length≤l.length:=by
 cases l with
 | nil=>cases hc
 | cons b l =>
   unfold lL at hc
   dsimp only at hc
   cases hf:lF l [] [] with
   | error e=>rw[hf] at hc; cases hc
   | ok fs =>
     rw[hf] at hc
     cases hc
     have:=JM _ _ _ _ hf
     simp at this ⊢; omega
theorem Uk {h:Str→Str} {s:Str} {cs:List Cd} (hi:lZ h s=.ok cs) : ∀ c∈cs,c.2.1.length≤s.length + 1:=by
 intro c hc
 unfold lZ at hi
 cases hr:Bp gP s with
 | bad k e=>rw[hr] at hi; cases hi
 | ok ls =>
   rw[hr] at hi
   dsimp only at hi
   have hl:=Lc hr
   cases hcu:iW (ls.length + 1) ls [] with
   | error e=>rw[hcu] at hi; cases hi
   | ok css =>
     rw[hcu] at hi
     rcases Hw h css [] cs hi c hc with h1 | ⟨l,h1,h2⟩
     ·cases h1
     ·have h3:=RY h2
      rcases Eb _ _ _ _ hcu l h1 with h4 | ⟨_,h4,_⟩
      ·cases h4
      ·omega
def JF (h:Str→Str) (t:List Ln) (cs:List Cd) : Prop:=∃ ls css,nn ls=t∧uq ls=.ok css∧fZ h css []=.ok cs
theorem P7 {h:Str→Str} {s:Str} {cs:List Cd} (hi:lZ h s=.ok cs) : ∃ t,jW (U s)=some t∧JF h t cs:=by
 unfold lZ at hi
 cases hr:Bp gP s with
 | bad k e=>rw[hr] at hi; cases hi
 | ok ls =>
   rw[hr] at hi
   dsimp only at hi
   obtain⟨t,h1,h2⟩:=KM _ _ _ hr
   rw[Ld] at h1
   refine⟨t,h1,ls, ?_⟩
   cases hc:iW (ls.length + 1) ls [] with
   | error e=>rw[hc] at hi; cases hi
   | ok css=>rw[hc] at hi; exact⟨css,by simpa using h2,hc,hi⟩
theorem VJ {h:Str→Str} {s:Str} {cs:List Cd} {t:List Ln} (h1:jW (U s)=some t) (h2:JF h t cs) : ∃ cs',lZ h s=.ok cs'∧cs'.map cc=cs.map cc:=by
 obtain⟨ls,css,g1,g2,g3⟩:=h2
 rw[← Ld] at h1
 obtain⟨ls',e1,e2⟩:=JU _ [] t h1
 have e2:nn ls'=t:=by simpa using e2
 unfold lZ Bp
 rw[e1]
 dsimp only
 have hl:ls'.length=ls.length:=by
  have:=congrArg List.length (e2.trans g1.symm)
  simpa using this
 obtain⟨Ot,e3,e4⟩:=Nj (ls.length + 1) ls ls' [] [] css (g1.trans e2.symm) rfl g2
 rw[hl,e3]
 dsimp only
 obtain⟨cs',e5,e6⟩:=KS h css Ot [] [] cs e4 rfl g3
 exact⟨cs',e5,e6.symm⟩
theorem Sv {h:Str→Str} {t1 t2:List Ln} {x y:List Cd} (h1:JF h t1 x) (h2:JF h t2 y) : JF h (t1++t2) (x++y):=by
 obtain⟨l1,c1,a1,a2,a3⟩:=h1
 obtain⟨l2,c2,b1,b2,b3⟩:=h2
 refine⟨l1++l2,c1++c2,by simp only[nn,List.map_append] at *; rw[a1,b1], ?_,HZ h c1 c2 [] x y a3 b3⟩
 unfold uq
 rw[KG l1.length l1 l2 [] c1 _ (Nat.le_refl _) a2 (by simp),Rm _ _ _ _ b2]
def D8:Str→Str→List Str
 | cur,[]=>[strip cur]
 | cur,c :: t=>if c.toNat=10 then strip cur :: D8 [] t else D8 (cur++[c]) t
theorem wR:∀ (a cur b:Str),dE cur (a++10 :: b)=D8 cur a++dE [] b
 | [],cur,b=>by simp[dE,D8]
 | c :: a,cur,b=>by
   rw[List.cons_append,dE,D8]
   split
   ·rw[wR a [] b]; rfl
   ·exact wR a _ b
theorem xS:∀ (a cur:Str),∃ P e,D8 cur a=P++[strip e]∧dE cur a=P++(if e=[] then[] else[e])
 | [],cur=>⟨[],cur,rfl,by simp[dE]⟩
 | c :: a,cur=>by
   rw[D8,dE]
   split
   ·obtain⟨P,e,h1,h2⟩:=xS a []
    exact⟨strip cur :: P,e,by rw[h1]; rfl,by rw[h2]; rfl⟩
   ·exact xS a _
theorem S9 (a b:Str) : dE [] (a++10 :: b)=dE [] (a++[10])++dE [] b:=by
 rw[wR,wR]; simp[dE]
theorem Us {acc:List Str} (h:acc≠[]) (pre:List Str) (x:Str) : glue (pre++acc) x=pre++glue acc x:=by
 unfold glue
 by_cases hx:isSp x=true
 ·rw[if_pos ⟨by simp[h],hx⟩,if_pos ⟨h,hx⟩]
  have hl:1≤acc.length:=List.length_pos_iff.2 h
  rw[List.length_append,show pre.length + acc.length - 1=pre.length + (acc.length - 1) by omega,List.set_append_right _ _ (by omega),Nat.add_sub_cancel_left]
  congr 3
  rw[List.getD_eq_getElem?_getD,List.getD_eq_getElem?_getD,List.getElem?_append_right (by omega),Nat.add_sub_cancel_left]
 ·rw[if_neg (fun h=>hx h.2),if_neg (fun h=>hx h.2),List.append_assoc]
theorem Su (acc:List Str) (x:Str) : glue acc x≠[]:=by
 unfold glue
 split
 ·rename_i h
  intro e
  have:=congrArg List.length e
  simp at this
  exact h.1 this
 ·simp
theorem NC {acc:List Str} (h:acc≠[]) (pre:List Str) : ∀ xs:List Str,xs.foldl glue (pre++acc)=pre++xs.foldl glue acc:=by
 intro xs
 induction xs generalizing acc with
 | nil=>rfl
 | cons x xs ih =>
   rw[List.foldl_cons,List.foldl_cons,Us h]
   exact ih (Su acc x)
def OW:List Str→Prop
 | []=>True
 | x :: _=>isSp x=false
theorem OE (acc:List Str) : ∀ {xs:List Str},OW xs→xs.foldl glue acc=acc++xs.foldl glue []
 | [],_=>by simp
 | x :: xs,h=>by
   have hx:isSp x=false:=h
   rw[List.foldl_cons,List.foldl_cons]
   have e1:glue acc x=acc++[x]:=by unfold glue; rw[if_neg (fun h=>by rw[hx] at h; exact absurd h.2 (by simp))]
   have e2:glue [] x=[x]:=by unfold glue; rw[if_neg (fun h=>h.1 rfl)]; rfl
   rw[e1,e2]
   exact NC (by simp) acc xs
theorem WE {a b:Str} (h:OW (dE [] b)) : U (a++10 :: b)=U (a++[10])++U b:=by
 unfold U
 rw[S9,List.foldl_append,OE _ h]
theorem Xe {c:UInt8} {t:Str} (h:c.toNat=32∨c.toNat=9) : wk (c :: t)=0:=by
 rw[Tm]
 unfold wn
 have:zT c=false:=by
  unfold zT
  rcases h with h | h <;> simp[h]
 rw[List.takeWhile_cons,if_neg (by rw[this]; simp)]; rfl
theorem Ux {c:UInt8} {t:Str} (h:c.toNat=32∨c.toNat=9) : iw gP (c :: t)=none:=by
 unfold iw
 split
 ·have hw:=Xe (t:=t) h
  have hh:∀ x:UInt8,x.toNat≠32→x.toNat≠9→bE x (c :: t)=false:=by
   intro x h1 h2
   show(c == x)=false
   rw[beq_eq_false_iff_ne]
   intro e; subst e
   rcases h with h | h
   ·exact h1 h
   ·exact h2 h
  unfold rP
  rw[hw,List.drop_zero,if_neg (by rw[hh 46 (by decide) (by decide)]; simp)]
  dsimp only
  unfold xZ nY
  rw[mO,if_neg (by rw[hh 59 (by decide) (by decide)]; simp)]
  dsimp only
  have:jO gP (dS (c :: t))=false:=by
   unfold jO dS
   rw[hw]; rfl
  rw[this]; rfl
 ·rfl
theorem VL {b:Str} {t:List Ln} (h:jW (U b)=some t) : OW (dE [] b):=by
 cases hr:dE [] b with
 | nil=>trivial
 | cons x xs =>
   show isSp x=false
   cases hx:isSp x with
   | false=>rfl
   | true =>
     exfalso
     unfold U at h
     rw[hr,List.foldl_cons] at h
     have e2:glue [] x=[x]:=by unfold glue; rw[if_neg (fun h=>h.1 rfl)]; rfl
     rw[e2] at h
     have hf:∀ (xs:List Str) (y z:Str) (r:List Str),∃ z' r',xs.foldl glue ((y++z) :: r)=(y++z') :: r':=by
      intro xs
      induction xs with
      | nil=>intro y z r; exact⟨z,r,rfl⟩
      | cons v xs ih =>
        intro y z r
        rw[List.foldl_cons]
        have:∃ z1 r1,glue ((y++z) :: r) v=(y++z1) :: r1:=by
         unfold glue
         split
         ·cases r with
          | nil=>exact⟨z++v.drop 1,[],by simp⟩
          | cons u r=>exact⟨z,_,by simp; rfl⟩
         ·exact⟨z,r++[v],by simp⟩
        obtain⟨z1,r1,e⟩:=this
        rw[e]
        exact ih y z1 r1
     obtain⟨z,r,hz⟩:=hf xs x [] []
     rw[List.append_nil] at hz
     rw[hz,jW] at h
     cases x with
     | nil=>cases hx
     | cons c x =>
       have hc:c.toNat=32∨c.toNat=9:=by simpa [isSp] using hx
       rw[if_neg (by simp)] at h
       split at h
       ·cases h
       ·rw[show(c :: x)++z=c :: (x++z) from rfl,Ux hc] at h
        cases h
def Pl (s:Str) : Prop:=∀ c∈s,mo c=true
theorem Pl.nil:Pl []:=by simp[Pl]
theorem Pl.app {a b:Str} (h:Pl a) (k:Pl b) : Pl (a++b):=fun c hc=>(List.mem_append.1 hc).elim (h c) (k c)
theorem Pl.cons {c:UInt8} {a:Str} (h:mo c=true) (k:Pl a) : Pl (c :: a):=fun d hd=>by
 rcases List.mem_cons.1 hd with rfl | hd
 ·exact h
 ·exact k d hd
theorem Pl.good {x s:Str} (h:lG x s=true) : Pl s:=fun c hc=>by
 unfold lG at h
 simp only[Bool.and_eq_true] at h
 have:=List.all_eq_true.1 h.1 c hc
 unfold okB at this
 simp only[Bool.and_eq_true] at this
 exact this.1
theorem PK {c:UInt8} (h:zT c=true) : mo c=true:=by
 have h1:=Pt h
 unfold zT at h
 unfold mo
 simp only[Bool.or_eq_true,Bool.and_eq_true,decide_eq_true_eq] at h ⊢
 omega
theorem Pl.word (s:Str) : Pl (s.take (wk s)):=fun c hc=>by
 rw[Tm,UG] at hc
 exact PK (all_takeWhile _ s c hc)
theorem Uv {s v r:Str} (h:kS s=(v,r,true)) : ∃ p,s=p++r∧Pl p:=by
 unfold kS at h
 cases hh:bE 34 s with
 | true =>
   rw[if_pos hh] at h
   have hs:=ll hh
   rcases sw 34 (s.drop 1) with⟨h1,_⟩ | ⟨a,b,h1,_,h3,_⟩
   ·rw[h1] at h; cases h
   ·rw[h1] at h
    dsimp only at h
    injection h with e1 e2
    injection e2 with e2 e3
    subst e1 e2
    refine⟨34 :: (a++[34]), ?_,Pl.cons (by decide) ((Pl.good e3).app (Pl.cons (by decide) Pl.nil))⟩
    rw[hs,h3]; simp
 | false =>
   rw[if_neg (by rw[hh]; simp)] at h
   split at h
   ·cases h
   ·injection h with e1 e2
    injection e2 with e2 e3
    subst e2
    exact⟨_,(List.take_append_drop _ s).symm,Pl.good e3⟩
theorem Lm:∀ (k:Nat) (c:UInt8) (t:Str) (acc vs:List Str) (r:Str),mo c=true→ic k (c :: t) acc=some (vs,r)→∃ p,c :: t=p++r∧Pl p
 | 0,_,_,_,_,_,_,h=>by cases h
 | k + 1,c,t,acc,vs,r,hc,h=>by
   rw[ic,List.drop_one,List.tail_cons] at h
   cases hv:kS t with
   | mk v x =>
     obtain⟨q,ok⟩:=x
     rw[hv] at h
     dsimp only at h
     split at h
     ·rename_i hok
      have hok:ok=true:=hok
      subst hok
      obtain⟨p,e,hp⟩:=Uv hv
      split at h
      ·rename_i hh
       have hq:=ll hh
       rw[hq] at h
       obtain⟨p2,e2,hp2⟩:=Lm k 44 (q.drop 1) _ vs r (by decide) h
       refine⟨c :: (p++p2), ?_,Pl.cons hc (hp.app hp2)⟩
       rw[e,hq,e2]; simp
      ·cases h
       exact⟨c :: p,by rw[e]; rfl,Pl.cons hc hp⟩
     ·cases h
theorem Mw:∀ (k:Nat) (s:Str) (acc ps:List jA) (r:Str),mO gP k s acc=some (ps,r)→∃ p,s=p++r∧Pl p
 | 0,_,_,_,_,h=>by cases h
 | k + 1,s,acc,ps,r,h=>by
   rw[mO] at h
   split at h
   ·rename_i h59
    obtain⟨t,rfl⟩ : ∃ t,s=59 :: t:=⟨s.drop 1,ll h59⟩
    rw[show(59 :: t).drop 1=t from rfl] at h
    have e3:=(List.take_append_drop (wk t) t).symm
    have hpl:=Pl.word t
    generalize t.take (wk t)=w1 at *
    generalize t.drop (wk t)=w2 at *
    split at h
    ·rename_i h61
     simp only[Bool.and_eq_true] at h61
     obtain⟨u,rfl⟩ : ∃ u,w2=61 :: u:=⟨w2.drop 1,ll h61.2⟩
     cases hv:ic (61 :: u).length (61 :: u) [] with
     | none=>rw[hv] at h; cases h
     | some x =>
       obtain⟨vs,q⟩:=x
       rw[hv] at h
       dsimp only at h
       obtain⟨p,e,hp⟩:=Lm _ _ _ _ _ _ (by decide) hv
       obtain⟨p2,e2,hp2⟩:=Mw k q _ ps r h
       refine⟨59 :: (w1++(p++p2)), ?_,Pl.cons (by decide) (hpl.app (hp.app hp2))⟩
       rw[e3,e,e2]; simp
    ·cases h
   ·cases h; exact⟨[],rfl,Pl.nil⟩
theorem Uf {s:Str} {L:Ln} (h:iw gP s=some L) : Pl s:=by
 unfold iw at h
 split at h
 ·have tail:∀ {g n r:Str},xZ gP g n r=some L→Pl r:=by
   intro g n r ht
   unfold xZ at ht
   split at ht
   ·cases ht
   ·rename_i ps q hp
    unfold nY at hp
    obtain⟨p,e,hp⟩:=Mw _ _ _ _ _ hp
    split at ht
    ·rename_i hc
     simp only[Bool.and_eq_true] at hc
     have hq:=ll hc.1.2
     rw[e]
     refine hp.app ?_
     rw[hq]
     exact Pl.cons (by decide) (Pl.good hc.2)
    ·cases ht
  have hw:s=s.take (wk s)++s.drop (wk s):=(List.take_append_drop _ s).symm
  unfold rP at h
  split at h
  ·cases h
  ·rename_i g n r hh
   split at hh
   ·rename_i h46
    have hq:=ll h46
    split at hh
    ·cases hh
     have ht:=tail h
     rw[hw]
     refine(Pl.word s).app ?_
     rw[hq]
     refine Pl.cons (by decide) ?_
     rw[← List.take_append_drop (wk ((s.drop (wk s)).drop 1)) ((s.drop (wk s)).drop 1)]
     exact(Pl.word _).app ht
    ·cases hh
   ·cases hh
    rw[hw]
    exact(Pl.word s).app (tail h)
 ·cases h
theorem Jn:∀ (l:List Str) (t:List Ln),jW l=some t→∀ x∈l,Pl x
 | [],t,_,x,hx=>by cases hx
 | s :: r,t,h,x,hx=>by
   rw[jW] at h
   split at h
   ·rename_i h0
    rcases List.mem_cons.1 hx with rfl | hx
    ·rw[h0]; exact Pl.nil
    ·exact Jn r t h x hx
   ·split at h
    ·cases h
    ·cases hL:iw gP s with
     | none=>rw[hL] at h; cases h
     | some L =>
       rw[hL] at h
       obtain⟨t',h2,_⟩:=Option.map_eq_some_iff.1 h
       rcases List.mem_cons.1 hx with rfl | hx
       ·exact Uf hL
       ·exact Jn r t' h2 x hx
theorem K8 {e:Str} (h:∀ c∈e,c.toNat≠13) : strip e=e:=RQ h
theorem P6 {P:List Str} {e:Str} {c:UInt8} (hc:c∈e) (h1:c.toNat≠32) (h2:c.toNat≠9) : ∃ y∈(P++[e]).foldl glue [],c∈y:=by
 rw[List.foldl_append,List.foldl_cons,List.foldl_nil]
 generalize P.foldl glue []=acc
 unfold glue
 split
 ·refine⟨acc.getD (acc.length - 1) []++e.drop 1,List.mem_set (by rename_i h; have:=List.length_pos_iff.2 h.1; omega) _,List.mem_append_right _ ?_⟩
  rename_i h
  cases e with
  | nil=>cases hc
  | cons d e =>
    rcases List.mem_cons.1 hc with rfl | hc
    ·have:c.toNat=32∨c.toNat=9:=by simpa [isSp] using h.2
     omega
    ·exact hc
 ·exact⟨e,List.mem_append_right _ (by simp),hc⟩
theorem Q5 {a:Str} {t:List Ln} (h:jW (U a)=some t) : jW (U (a++[10]))=some t:=by
 obtain⟨P,e,h1,h2⟩:=xS a []
 have hE:dE [] (a++[10])=P++[strip e]:=by rw[wR,h1]; simp[dE]
 by_cases he:e=[]
 ·subst he
  rw[if_pos rfl,List.append_nil] at h2
  unfold U at h ⊢
  rw[hE,show strip []=[] from rfl,List.foldl_append,List.foldl_cons,List.foldl_nil]
  rw[h2] at h
  have:glue (P.foldl glue []) []=P.foldl glue []++[[]]:=by
   unfold glue; rw[if_neg (fun h=>by cases h.2)]
  rw[this,CE,h]
  simp[jW]
 ·rw[if_neg he] at h2
  have h13:∀ c∈e,c.toNat≠13:=by
   intro c hc h13
   obtain⟨y,hy,hcy⟩:=P6 (P:=P) hc (by omega) (by omega)
   have hp:=Jn _ _ h y (by unfold U; rw[h2]; exact hy) c hcy
   exact(PX hp).2 h13
  unfold U at h ⊢
  rw[hE,K8 h13,← h2]; exact h
theorem U1 {a b:Str} {t1 t2:List Ln} (h1:jW (U a)=some t1) (h2:jW (U b)=some t2) : jW (U (a++10 :: b))=some (t1++t2):=by
 rw[WE (VL h2),CE,Q5 h1,h2]; rfl
theorem Rt {h:Str→Str} {a b:Str} {x y:List Cd} (h1:lZ h a=.ok x) (h2:lZ h b=.ok y) : ∃ z,lZ h (a++[10]++b)=.ok z∧z.map cc=(x++y).map cc:=by
 obtain⟨t1,a1,a2⟩:=P7 h1
 obtain⟨t2,b1,b2⟩:=P7 h2
 refine VJ (t:=t1++t2) ?_ (Sv a2 b2)
 rw[List.append_assoc]
 exact U1 a1 b1
end Go.Ab.Vc
namespace Go.Ab.Vc
open Go Go.Ab Go.Ab.Vl Go.Ab.Sm
theorem JL {B:Base} {c:aj} (h:GH B c) {M:RM} {s:Str} {Q:ai} (hM:M.base=B) (hs:s.length≤90000)
  (hO:∀ cs M' w,lZ Sha.ed s=.ok cs→ae [] M M'→bB E5 M' w cs (fun b=>M.next≤b)→cs.length≤s.length + 1→Q (.tup [w,N .i64 0,N .i64 0]) M')
  (hE:∀ M' k e,lZ Sha.ed s=.error (k,e)→ae [] M M'→(e != 0)=true→Q (.tup [aB,N .i64 k,N .i64 e]) M') : c [St s] M Q :=
 h hM (by omega) (fun ls hl=>by have:=Lc hl; omega) (fun M' w cs k h1 h2 h3=>hO cs M' w h1 k h2 h3) (fun M' k e kk h1 h2=>hE M' k e h1 kk (by simpa using h2))
theorem We {x y:List Cd} (h:x.map cc=y.map cc) {i:Nat} (h1:i<x.length) (h2:i<y.length) : x[i].1=y[i].1∧x[i].2.1=y[i].2.1:=by
 have:(x.map cc)[i]'(by simpa using h1)=(y.map cc)[i]'(by simpa using h2):=by simp only[h]
 simp only[List.getElem_map,cc,Prod.mk.injEq] at this
 exact this
theorem Y4 (p:Fd) {K:AV→Prop} : lc true [2,2] (lK p) (lK p) K=K (Bo false):=by
 rw[lK,qJ (r:=true) rfl rfl ((Fa p p).trans (by simp))]; rfl
theorem Qo {B:Base} {TC:Nat} {ca ci:aj} (ha:VI B ca) (hi:GH B ci) {a b:Str} {M:RM} {Q:ai} (hM:M.base=B) (hQ:∀ M',ae [] M M'→Q (Bo true) M') :
  mX ca ci TC (St a) (St b) M Q:=by
 unfold mX
 simp only[dJ,Nr,dB]
 refine ha hM fun M1 k1=>?_
 rw[bQ,show(!true)=false from rfl,dx,bu,show(N .i64 (2000:Int))=N .i64 ((2000:Nat) : Int) from rfl,AP]
 refine mP (p:=decide (b.length > 2000)) (fun _ kk hk=>by rw[bu,AP]; exact hk) ?_
 refine aZ (fun h=>hQ _ k1) (fun h=>?_)
 simp only[Bool.or_eq_false_iff,decide_eq_false_iff_not] at h
 refine JL hi (k1.base.trans hM) (by omega) (fun xs M2 v hx k2 hv hxl=>?_) (fun M2 k e hx k2 he=>?_)
 rotate_left 1
 ·rw[bG,bJ,gF]
  refine JL hi ((k1.trans k2).base.trans hM) (by omega) (fun ys M3 v hx k3 hv _=>?_) (fun M3 k' e' hx k3 he'=>?_)
  all_goals
   rw[bG,bJ,gF,dm,he]
   refine mP (p:=false) (fun h=>by cases h) ?_
   exact⟨fun _=>hQ _ ((k1.trans k2).trans k3),fun h=>by cases h⟩
 rw[bG,bJ,gF]
 have k02:=k1.trans k2
 refine JL hi (k02.base.trans hM) (by omega) (fun ys M3 u hy k3 hu hyl=>?_) (fun M3 k' e' hx k3 he'=>?_)
 rotate_left 1
 ·rw[bG,bJ,gF,dm]
  refine mP (p:=true) (fun _ kk hk=>by rw[dm,he']; exact hk) ?_
  exact⟨fun _=>hQ _ (k02.trans k3),fun h=>by cases h⟩
 have k03:=k02.trans k3
 rw[bG,bJ,gF,dm]
 refine mP (p:=false) (fun _ kk hk=>by rw[dm]; exact hk) ?_
 rw[show(((0:Int) != 0) || false)=false from rfl,dx,bL]
 refine⟨by simp; omega, ?_⟩
 rw[bL]
 refine⟨by simp; omega, ?_⟩
 obtain⟨zs,hz,hzc⟩:=Rt hx hy
 refine Og hi (k03.base.trans hM) (by simp; omega) hz fun M4 t k4 ht=>?_
 have k04:=k03.trans k4
 rw[bG,bJ,gF,dm,show((0:Int) != 0)=false from rfl,dx]
 have hzl:zs.length=xs.length + ys.length:=by have:=congrArg List.length hzc; simpa using this
 have hv4:=hv.keep (k3.trans k4) (by simp)
 have hu4:=hu.keep k4 (by simp)
 rw[ht.len,hv4.len,hu4.len,addN (by omega),dm,show((zs.length:Int) != ((xs.length + ys.length:Nat) : Int))=false by simp[hzl],dx]
 refine aP (fun m yy M5=>∃ i:Nat,m=zs.length - i∧yy=[N .i64 (i:Int)]∧i≤zs.length∧ae [] M4 M5) _ ⟨0,rfl,rfl,Nat.zero_le _,ae.refl _ _⟩ ?_
 rintro next m yy M5 hnext ⟨i,rfl,rfl,hil,k5⟩
 dsimp only[ag]
 have ht5:=ht.keep k5 (by simp)
 have hv5:=hv4.keep k5 (by simp)
 have hu5:=hu4.keep k5 (by simp)
 rw[ht5.len,jC]
 refine aZ (fun h=>?_) (fun h=>hQ _ (k04.trans k5))
 have h:i<zs.length:=of_decide_eq_true h
 refine bI (fun yy M'=>ae [] M4 M') ?_ ?_
 ·rintro yy M6 k6
  rw[add1 (by omega)]
  exact hnext _ _ _ (by omega) ⟨i + 1,rfl,rfl,by omega,k6⟩
 intro J hJ
 rw[iJ]
 refine⟨[St [],aB,N .i64 0],rfl, ?_⟩
 rw[aF]
 refine zv (b:=0) 3 rfl rfl _ rfl rfl rfl fun M6 k6 n6 h6=>?_
 have hv6:=hv5.keep k6 (by simp)
 have hu6:=hu5.keep k6 (by simp)
 have ht6:=ht5.keep k6 (by simp)
 have hxy:i<(xs++ys).length:=by simp; omega
 have n4:=k5.next
 refine bI (fun yy M'=>ae [M5.next] M6 M'∧M'.next=M6.next∧∃ w at',M'.heap M5.next=some (.row [St (xs++ys)[i].1,w,N .i64 at'] false TC 0)∧bB oV.iU M' w (xs++ys)[i].2.1 (fun b=>M2.next≤b∧b<M5.next∨M1.next≤b∧b<M5.next)) ?_ ?_
 rotate_left 1
 ·intro J2 hJ2
  have put:∀ (c:Cd) (w:AV) (S:Nat→Prop),(xs++ys)[i]=c→bB oV.iU M6 w c.2.1 S→(∀ b,S b→b≠M5.next→M2.next≤b∧b<M5.next∨M1.next≤b∧b<M5.next)→(∀ b,S b→b≠M5.next) →
    aA M6 (.ptr M5.next 0) (.agg [St c.1,w,N .i64 c.2.2]) 3 fun Yj=>J2 [] Yj:=by
   intro c w S hc hw hS hS2
   have hall:([St c.1,w,N .i64 c.2.2] : List AV).all oneCell=true:=by simp[eF,hw.one]
   rw[bK (n:=3) (x:=.agg [St c.1,w,N .i64 c.2.2]) (l:=[St [],aB,N .i64 0]) h6 rfl rfl hall]
   have kp:ae [M5.next] M6 (M6.put M5.next (.row (AV.agg [St c.1,w,N .i64 c.2.2]).cells false TC 0)):=(ae.refl _ _).put _ (.inr (by simp))
   refine hJ2 _ _ ⟨kp,rfl,w,c.2.2,by rw[hc]; exact ay _, ?_⟩
   rw[hc]
   refine(hw.keep kp (fun b hb h=>?_)).mono fun b hb=>hS b hb (hS2 b hb)
   simp at hb; exact hS2 b h hb
  rw[hv6.len,jC]
  refine aZ (fun hlt=>?_) (fun hge=>?_)
  ·have hlt:i<xs.length:=of_decide_eq_true hlt
   have X6:=(hv5.lt).keep k6 (by simp)
   obtain⟨w,hw,q,_⟩:=I8 X6 hlt
   rw[q]
   exact put _ w _ (List.getElem_append_left hlt) hw (fun b hb _=>.inr hb) (fun b hb=>by have:=hb.2; omega)
  ·have hge:¬ i<xs.length:=of_decide_eq_false hge
   have Ye:=(hu5.lt).keep k6 (by simp)
   rw[hv6.len,SL (by omega) (by omega)]
   obtain⟨w,hw,q,_⟩:=I8 Ye (i:=i - xs.length) (by omega)
   rw[q]
   exact put _ w _ (List.getElem_append_right (by omega)) hw (fun b hb _=>.inl hb) (fun b hb=>by have:=hb.2; omega)
 rintro yy M7 ⟨k7,n7,w,at',h7,hw7⟩
 have Wm:ae [] M5 M7:=k6.eD k7 fun c hc=>.inl (by simp at hc; omega)
 have ht7:=ht5.keep Wm (by simp)
 obtain⟨e1,e2⟩:=We hzc h hxy
 obtain⟨z7,hz7,_,q0,q1,_⟩:=I8 ht7 h
 rw[q0,aU,az h7 rfl,mh,e1,bne_self_eq_false]
 rw[e2] at hz7
 have hcl:=Uk hz _ (List.getElem_mem h)
 rw[e2] at hcl
 simp only[List.length_append,List.length_cons,List.length_nil] at hcl
 generalize (xs++ys)[i]=c at *
 refine Yw (p:=false) (fun _ kk hk=>?_) ?_
 ·rw[q1,hz7.len,aU,az h7 rfl,hw7.len,dm,bne_self_eq_false]; exact hk
 rw[Bool.or_false,dx]
 refine aP (fun m yy M8=>∃ j:Nat,m=c.2.1.length - j∧yy=[N .i64 (j:Int)]∧j≤c.2.1.length∧M8=M7) _ ⟨0,rfl,rfl,Nat.zero_le _,rfl⟩ ?_
 rintro Cf m yy M8 kZ ⟨j,rfl,rfl,hj,rfl⟩
 dsimp only[ag]
 rw[aU,az h7 rfl,hw7.len,jC]
 refine aZ (fun hl=>?_) (fun hl=>hJ _ _ (k5.trans Wm))
 have hl:j<c.2.1.length:=of_decide_eq_true hl
 rw[q1,Co hz7.sl hl,aU,az h7 rfl,Co hw7.sl hl,Y4,dx,add1 (by omega)]
 exact kZ _ _ _ (by omega) ⟨j + 1,rfl,rfl,by omega,rfl⟩
end Go.Ab.Vc
