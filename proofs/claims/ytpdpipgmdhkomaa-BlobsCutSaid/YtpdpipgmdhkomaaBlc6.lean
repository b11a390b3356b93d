/- Part 6 of the ground of the proofs of this seat (texts B5 to B9). By an AI agent. -/
import Derived.Test.YtpdpipgmdhkomaaBlc5
set_option maxRecDepth 10000
set_option linter.unusedVariables false
set_option linter.unusedSimpArgs false
namespace Go.Ab.Sha
open Go Go.Ab Go.Ab.Sm
structure VS (M:RM) (base T:Nat) (v:AV) (l:List Int) : Prop where
 ex:∃ vb p cap,v=.slc vb 0 l.length cap∧M.heap vb=some (.row (bB.row l) p T 0)∧base≤vb∧vb<M.next
theorem VS.keep {M M' : RM} {base T:Nat} {v:AV} {l:List Int} (h:VS M base T v l) (k:aa [] M M') : VS M' base T v l:=by
 obtain⟨vb,p,cap,e,h1,h2,h3⟩:=h.ex
 exact⟨vb,p,cap,e,k.az h1 h3 (by simp),h2,Nat.lt_of_lt_of_le h3 k.next⟩
theorem VS.mono {M:RM} {base base' T:Nat} {v:AV} {l:List Int} (h:VS M base T v l) (hb:base'≤base) : VS M base' T v l:=by
 obtain⟨vb,p,cap,e,h1,h2,h3⟩:=h.ex
 exact⟨vb,p,cap,e,h1,by omega,h3⟩
theorem VS.sl {M:RM} {base T:Nat} {v:AV} {l:List Int} (h:VS M base T v l) : Sl bB M v l:=by
 obtain⟨vb,p,cap,rfl,h1,h2,h3⟩:=h.ex
 exact Rw.sl ⟨h1,h3⟩
theorem H9 {M:RM} {base T:Nat} {v:AV} {s:List Int} (h:Ow bB M base T v s) (hs:s≠[]) : VS M base T v s:=by
 unfold Ow at h
 generalize hc:bB.row s=cs at h
 generalize hn:s.length=n at h
 cases h with
 | nil=>exact absurd (List.length_eq_zero_iff.1 hn) hs
 | ex0 b o _ _ _=>exact absurd (List.length_eq_zero_iff.1 hn) hs
 | op b n cs h1 h2 h3 h4=>subst hc; subst hn; exact⟨b,_,_,rfl,h3,h1,h2⟩
theorem wP {vb n i:Nat} {c:Cap} {j:Int} {k:IntKind} {K:AV→Prop} (hj:j=(i:Int)) (h:i<n) : aZ (.slc vb 0 n c) (N k j) 1 K=K (.ptr vb i):=by
 subst hj
 rw[uC,Nat.zero_add,Nat.mul_one,Int.toNat_natCast]
 exact propext ⟨fun h=>h.2.2,fun k=>⟨by omega,by omega,k⟩⟩
theorem TE {M:RM} {vb T:Nat} {p:Bool} {l:List Int} (h:M.heap vb=some (.row (bB.row l) p T 0)) {i:Nat} (hi:i<l.length) (x:Int) {K:RM→Prop} : aU M (.ptr vb i) (N .u32 x) 1 K=K (M.put vb (.row (bB.row (l.set i x)) p T 0)):=by
 refine gB _ h (by rw[iQ]; exact hi) rfl rfl ?_
 rw[kK,kK,List.map_set]
theorem VK {M:RM} {vb T:Nat} {p:Bool} {l:List Int} (h:M.heap vb=some (.row (bB.row l) p T 0)) {i:Nat} (hi:i<l.length) {K:AV→Prop} : ag M (.ptr vb i) K=K (N .u32 (l.getD i 0)):=by
 refine aH h ?_
 rw[kK,List.getElem?_map,List.getElem?_eq_getElem hi]
 simp[List.getD,hi]
theorem FU {M:RM} {v:AV} {l:List Int} (h:Sl bB M v l) {i:Nat} (hi:i<l.length) {K:AV→Prop} : (aZ v (N .i64 (i:Int)) 1 fun t=>ag M t K)=K (N .u32 (l.getD i 0)):=by
 obtain⟨c,o,_,_,hix,hld⟩:=h.Om (i:Int) hi
 rw[hix,fJ,hld _ rfl]
 have e:l[i]=l.getD i 0:=by simp[List.getD,hi]
 rw[← e]
 exact propext ⟨fun⟨v,e,k⟩=>by cases e; exact k,fun k=>⟨_,rfl,k⟩⟩
theorem RA {M:RM} {v:AV} {l:List Int} (h:Sl bB M v l) {i:Nat} (hi:i<l.length) : ∃ c o,c<M.next∧(∀ {K:AV→Prop},aZ v (N .i64 (i:Int)) 1 K=K (.ptr c o))∧M.cell c o=some (N .u32 (l.getD i 0)):=by
 obtain⟨c,o,hc,_,hix,hld⟩:=h.Om (i:Int) hi
 have e:l[i]=l.getD i 0:=by simp[List.getD,hi]
 exact⟨c,o,hc,fun {K} => hix _ K,by rw[← e]; exact hld _ rfl⟩
theorem jX {M:RM} {c o:Nat} {x:AV} (h:M.cell c o=some x) {K:AV→Prop} : ag M (.ptr c o) K=K x:=by
 rw[fJ,h]
 exact propext ⟨fun⟨v,e,k⟩=>by cases e; exact k,fun k=>⟨_,rfl,k⟩⟩
theorem nT {cs:List AV} {rest:List (Nat × Nat × AV)} {off:Nat} {k:IntKind} {n:Int} (h:off<cs.length) : kC cs ((off,1,N k n) :: rest)=kC (cs.set off (N k n)) rest:=by
 rw[kC,if_pos ⟨rfl,rfl,by omega⟩,List.set_eq_take_append_cons_drop,if_pos h,List.append_assoc]
 rfl
theorem YS {T:Nat} {a b c d e f g h:Int} {K:RB→(Nat→AV)→Prop} :
  bN T 8 [N .u32 0] [(0,1,N .u32 a),(1,1,N .u32 b),(2,1,N .u32 c),(3,1,N .u32 d),(4,1,N .u32 e),(5,1,N .u32 f),(6,1,N .u32 g),(7,1,N .u32 h)] K=K (.row (bB.row [a,b,c,d,e,f,g,h]) false T 0) (fun b=>.slc b 0 8 (.ex 8)):=by
 have:kC (fP [N .u32 0] 8) [(0,1,N .u32 a),(1,1,N .u32 b),(2,1,N .u32 c),(3,1,N .u32 d),(4,1,N .u32 e),(5,1,N .u32 f),(6,1,N .u32 g),(7,1,N .u32 h)]=some (bB.row [a,b,c,d,e,f,g,h]):=by
  have e0:fP [N .u32 0] 8=[N .u32 0,N .u32 0,N .u32 0,N .u32 0,N .u32 0,N .u32 0,N .u32 0,N .u32 0]:=rfl
  rw[e0]
  rw[nT (by simp)]
  simp only[List.set]
  rw[nT (by simp)]
  simp only[List.set]
  rw[nT (by simp)]
  simp only[List.set]
  rw[nT (by simp)]
  simp only[List.set]
  rw[nT (by simp)]
  simp only[List.set]
  rw[nT (by simp)]
  simp only[List.set]
  rw[nT (by simp)]
  simp only[List.set]
  rw[nT (by simp)]
  simp only[List.set]
  rfl
 apply propext; unfold bN
 constructor
 ·rintro⟨l,h,hk⟩; rw[this] at h; cases h; exact hk
 ·intro hk; exact⟨_,this,hk⟩
def K8 (TU:Nat) (c:au) : Prop:=∀ {M:RM} {hv kv bv:AV} {h k:List Int} {b:Str} {Q:aj},Sl bB M hv h→h.length=8→Sl bB M kv k→k.length=64→Bs M bv b→b.length=64 →
 (∀ v' M',aa [] M M'→VS M' M.next TU v' (lN h k b)→Q v' M')→c [hv,kv,bv] M Q
theorem PV {TK TU:Nat} {ct:au} (ht:DK .u64 ct) : K8 TU fun args M Q=>∃ a0 a1 a2,args=[a0,a1,a2]∧uF TK ct TU a0 a1 a2 M Q:=by
 intro M hv kv bv h k b Q hs hhl hk hkl hb hbl hQ
 refine⟨_,_,_,rfl, ?_⟩
 unfold uF
 refine fF (bB.row (List.replicate 64 0)) fun M0 k0 n0' e0=>?_
 have n0:M0.heap M.next=some (.row (bB.row (sched b 0++List.replicate (64 - 0) 0)) false TK 0):=n0'
 refine aM (fun m ys M4=>∃ i:Nat,m=64 - i∧ys=[N .i64 (i:Int)]∧i≤64∧aa [] M M4∧M.next<M4.next∧M4.heap M.next=some (.row (bB.row (sched b i++List.replicate (64 - i) 0)) false TK 0)) _
  ⟨0,rfl,rfl,by omega,k0,by omega,n0⟩ ?_
 rintro next m ys M4 hnext ⟨i,rfl,rfl,hi,k4,l4,n4⟩
 simp only[aI]
 rw[lJ 64 (by rfl)]
 have hb4:=hb.keep k4 (by simp)
 refine aS (fun hc=>?_) fun hc=>?_
 ·have kU:i<64:=of_decide_eq_true hc
  have hlen:(sched b i++List.replicate (64 - i) 0).length=64:=by rw[List.length_append,jk,List.length_replicate]; omega
  have e:=BD b (i:=i) (by omega)
  rw[gz]
  refine fV (fun xs M5=>xs=[]∧aa [] M M5∧M.next<M5.next∧M5.heap M.next=some (.row (bB.row (sched b (i + 1)++List.replicate (64 - (i + 1)) 0)) false TK 0)) ?_ ?_
  ·rintro xs M5 ⟨rfl,k5,l5,n5⟩
   rw[eT 1 (by omega) (by omega) (by rfl)]
   exact hnext _ _ _ (by omega) ⟨i + 1,rfl,rfl,by omega,k5,l5,n5⟩
  intro J hJ
  rw[lJ 16 (by rfl)]
  refine aS (fun hc=>?_) fun hc=>?_
  ·have Fy:i<16:=of_decide_eq_true hc
   rw[Bq (by omega),hb4.vE (by omega),By,bT,jd]
   refine⟨by decide, ?_⟩
   rw[Bq (by omega),eT 1 (by omega) (by omega) (by rfl),hb4.vE (by omega),By,bT,jd]
   refine⟨by decide, ?_⟩
   rw[dx,Bq (by omega),eT 2 (by omega) (by omega) (by rfl),hb4.vE (by omega),By,bT,jd]
   refine⟨by decide, ?_⟩
   rw[dx,Bq (by omega),eT 3 (by omega) (by omega) (by rfl),hb4.vE (by omega),By,bT,dx,bO rfl (by omega)]
   rw[if_pos Fy] at e
   rw[qD n4 (by omega)]
   refine hJ _ _ ⟨rfl,k4.new _ (Nat.le_refl _),l4, ?_⟩
   rw[aG,← e]
   rfl
  ·have Fy:¬ i<16:=of_decide_eq_false hc
   rw[if_neg Fy] at e
   have ld:∀ (j:Nat),j<i→∀ {K:AV→Prop},ag M4 (.ptr M.next j) K=K (N .u32 ((sched b i).getD j 0)):=fun j hj K=>by
    rw[nG n4 (by omega),JD (by rw[jk]; exact hj)]
   have L15:∀ {K:AV→Prop},ag M4 (.ptr M.next (i - 15)) K=K (N .u32 ((sched b i).getD (i - 15) 0)):=ld _ (by omega)
   have L2:∀ {K:AV→Prop},ag M4 (.ptr M.next (i - 2)) K=K (N .u32 ((sched b i).getD (i - 2) 0)):=ld _ (by omega)
   have L16:∀ {K:AV→Prop},ag M4 (.ptr M.next (i - 16)) K=K (N .u32 ((sched b i).getD (i - 16) 0)):=ld _ (by omega)
   have L7:∀ {K:AV→Prop},ag M4 (.ptr M.next (i - 7)) K=K (N .u32 ((sched b i).getD (i - 7) 0)):=ld _ (by omega)
   rw[vU 15 (by omega) (by omega) (by rfl),bO rfl (by omega),L15,vU 2 (by omega) (by omega) (by rfl),bO rfl (by omega),L2,vU 16 (by omega) (by omega) (by rfl),bO rfl (by omega),L16,vU 7 (by omega) (by omega) (by rfl),bO rfl (by omega),L7,bi,gK]
   refine⟨by decide, ?_⟩
   rw[gK]
   refine⟨by decide, ?_⟩
   refine ht (by decide) ?_
   rw[L16]; refine⟨rfl, ?_⟩
   rw[L7]; refine⟨rfl, ?_⟩
   refine ht (by decide) ?_
   rw[L16]; refine⟨rfl, ?_⟩
   rw[L7]; refine⟨rfl, ?_⟩
   rw[di,di,bi]
   refine ht (by decide) ?_
   rw[L16]; refine⟨rfl, ?_⟩
   rw[L7]; refine⟨rfl, ?_⟩
   refine ht (by decide) ?_
   rw[L16]; refine⟨rfl, ?_⟩
   rw[L7]; refine⟨rfl, ?_⟩
   rw[di,di,bi,bO rfl (by omega),qD n4 (by omega)]
   refine hJ _ _ ⟨rfl,k4.new _ (Nat.le_refl _),l4, ?_⟩
   rw[aG,← e]
   have ew:Gr (sched b i) i=dB (dB (dB ((sched b i).getD (i - 16) 0) ((sched b i).getD (i - 7) 0)) (XT ((sched b i).getD (i - 15) 0))) (Wv ((sched b i).getD (i - 2) 0)):=by
    unfold Gr
    rw[Sc ((sched b i).getD (i - 16) 0)]
   rw[ew]
   rfl
 have kU:i=64:=by have:=of_decide_eq_false hc; omega
 subst kU
 clear hnext
 rw[Nat.sub_self,List.replicate_zero,List.append_nil] at n4
 have hwl:=jk b 64
 generalize hwe:sched b 64=w at *
 have hs4:Sl bB M4 hv h:=aK.keep hs k4 (by simp)
 have hk4:Sl bB M4 kv k:=aK.keep hk k4 (by simp)
 rw[PN,aN]
 have k5' : aa [] M4 (M4.push (.row [] false TU 0)):=(aa.refl _ _).push _
 refine pI (E:=bB) (Ow.lit bB M4) (by simp[RM.push]) (by decide) (aK.keep hs4 k5' (by simp)) (by simp; omega) (by simp; omega) fun v5 M5 o5 k5 _ _=>?_
 have k45:aa [] M4 M5:=aa.own k5' k5 (fun x hx=>by simp[ak] at hx; omega)
 rw[List.nil_append] at o5
 have Zu:h≠[]:=fun e=>by rw[e] at hhl; cases hhl
 refine aM (fun m ys M6=>∃ (i:Nat) (v:AV),m=64 - i∧ys=[v,N .i64 (i:Int)]∧i≤64∧aa [] M4 M6∧VS M6 M4.next TU v (oz k w h i)) _
  ⟨0,v5,rfl,rfl,by omega,k45,H9 o5 Zu⟩ ?_
 rintro next m ys M6 hnext ⟨i,v,rfl,rfl,hi,k6,hV⟩
 simp only[aI,dH]
 rw[lJ 64 (by rfl)]
 have hk6:Sl bB M6 kv k:=aK.keep hk4 k6 (by simp)
 have n46:=k6.az n4 l4 (by simp)
 have hrl:=zN k w hhl i
 obtain⟨vb,pp,cap,rfl,nv,hvb,lvb⟩:=hV.ex
 rw[hrl]
 refine aS (fun hc=>?_) fun hc=>?_
 ·have kU:i<64:=of_decide_eq_true hc
  have hstep:oz k w h (i + 1)=Ou (oz k w h i) (k.getD i 0) (w.getD i 0):=rfl
  obtain⟨va,vb',vc,vd,ve,vf,vg,vh,hv'⟩:=eight hrl
  rw[hv'] at nv hstep
  have hrow:bB.row [va,vb',vc,vd,ve,vf,vg,vh]=[N .u32 va,N .u32 vb',N .u32 vc,N .u32 vd,N .u32 ve,N .u32 vf,N .u32 vg,N .u32 vh]:=rfl
  rw[hrow] at nv
  have I0:∀ {K:AV→Prop},aZ (.slc vb 0 8 cap) (N .i64 0) 1 K=K (.ptr vb 0):=wP rfl (by omega)
  have I1:∀ {K:AV→Prop},aZ (.slc vb 0 8 cap) (N .i64 1) 1 K=K (.ptr vb 1):=wP rfl (by omega)
  have I2:∀ {K:AV→Prop},aZ (.slc vb 0 8 cap) (N .i64 2) 1 K=K (.ptr vb 2):=wP rfl (by omega)
  have I3:∀ {K:AV→Prop},aZ (.slc vb 0 8 cap) (N .i64 3) 1 K=K (.ptr vb 3):=wP rfl (by omega)
  have I4:∀ {K:AV→Prop},aZ (.slc vb 0 8 cap) (N .i64 4) 1 K=K (.ptr vb 4):=wP rfl (by omega)
  have I5:∀ {K:AV→Prop},aZ (.slc vb 0 8 cap) (N .i64 5) 1 K=K (.ptr vb 5):=wP rfl (by omega)
  have I6:∀ {K:AV→Prop},aZ (.slc vb 0 8 cap) (N .i64 6) 1 K=K (.ptr vb 6):=wP rfl (by omega)
  have I7:∀ {K:AV→Prop},aZ (.slc vb 0 8 cap) (N .i64 7) 1 K=K (.ptr vb 7):=wP rfl (by omega)
  have L0:∀ {K:AV→Prop},ag M6 (.ptr vb 0) K=K (N .u32 va):=aH nv rfl
  have L1:∀ {K:AV→Prop},ag M6 (.ptr vb 1) K=K (N .u32 vb'):=aH nv rfl
  have L2:∀ {K:AV→Prop},ag M6 (.ptr vb 2) K=K (N .u32 vc):=aH nv rfl
  have L3:∀ {K:AV→Prop},ag M6 (.ptr vb 3) K=K (N .u32 vd):=aH nv rfl
  have L4:∀ {K:AV→Prop},ag M6 (.ptr vb 4) K=K (N .u32 ve):=aH nv rfl
  have L5:∀ {K:AV→Prop},ag M6 (.ptr vb 5) K=K (N .u32 vf):=aH nv rfl
  have L6:∀ {K:AV→Prop},ag M6 (.ptr vb 6) K=K (N .u32 vg):=aH nv rfl
  have L7:∀ {K:AV→Prop},ag M6 (.ptr vb 7) K=K (N .u32 vh):=aH nv rfl
  obtain⟨kc,ko,_,Ik,hkc⟩:=RA hk6 (i:=i) (by omega)
  have Iw:∀ {K:AV→Prop},bE (.ptr M.next 0) (N .i64 (i:Int)) 64 1 K=K (.ptr M.next i):=bO rfl kU
  have Lk:∀ {K:AV→Prop},ag M6 (.ptr kc ko) K=K (N .u32 (k.getD i 0)):=jX hkc
  have Lw:∀ {K:AV→Prop},ag M6 (.ptr M.next i) K=K (N .u32 (w.getD i 0)):=nG n46 (by omega)
  simp only[I0,I1,I2,I3,I4,I5,I6,I7,L0,L1,L2,L3,L4,L5,L6,L7,Ik,Iw,Lk,Lw,dE,dx,di,bi,gm,true_and]
  refine ht (by decide) ?_
  simp only[I0,I1,I2,I3,I4,I5,I6,I7,L0,L1,L2,L3,L4,L5,L6,L7,Ik,Iw,Lk,Lw,dE,dx,di,bi,gm,true_and]
  refine ht (by decide) ?_
  simp only[I0,I1,I2,I3,I4,I5,I6,I7,L0,L1,L2,L3,L4,L5,L6,L7,Ik,Iw,Lk,Lw,dE,dx,di,bi,gm,true_and]
  refine ht (by decide) ?_
  simp only[I0,I1,I2,I3,I4,I5,I6,I7,L0,L1,L2,L3,L4,L5,L6,L7,Ik,Iw,Lk,Lw,dE,dx,di,bi,gm,true_and]
  refine ht (by decide) ?_
  simp only[I0,I1,I2,I3,I4,I5,I6,I7,L0,L1,L2,L3,L4,L5,L6,L7,Ik,Iw,Lk,Lw,dE,dx,di,bi,gm,true_and]
  refine ht (by decide) ?_
  simp only[I0,I1,I2,I3,I4,I5,I6,I7,L0,L1,L2,L3,L4,L5,L6,L7,Ik,Iw,Lk,Lw,dE,dx,di,bi,gm,true_and]
  refine ht (by decide) ?_
  simp only[I0,I1,I2,I3,I4,I5,I6,I7,L0,L1,L2,L3,L4,L5,L6,L7,Ik,Iw,Lk,Lw,dE,dx,di,bi,gm,true_and]
  rw[YS,yA,show(IntKind.i64.wrap ((i:Int) + 1))=((i + 1:Nat) : Int) from lH (by omega)]
  have k7:aa [] M6 (M6.push (.row (bB.row (Ou [va,vb',vc,vd,ve,vf,vg,vh] (k.getD i 0) (w.getD i 0))) false TU 0)):=(aa.refl _ _).push _
  refine hnext _ _ (M6.push (.row (bB.row (Ou [va,vb',vc,vd,ve,vf,vg,vh] (k.getD i 0) (w.getD i 0))) false TU 0)) (by omega) ⟨i + 1,.slc M6.next 0 8 (.ex 8),rfl,rfl,by omega,k6.trans k7, ?_⟩
  rw[hstep]
  refine⟨M6.next,false,.ex 8,by rw[Og rfl],by simp[RM.push],k6.next,by simp[RM.push]⟩
 have kU:i=64:=by have:=of_decide_eq_false hc; omega
 subst kU
 clear hnext
 have hbf:lN h k b=List.zipWith dB h (oz k w h 64):=by
  unfold lN
  rw[hwe]
 rw[hbf] at hQ
 generalize oz k w h 64=v at *
 have k46:=k4.trans k6
 have n4x:=k4.next
 have hs6:Sl bB M6 hv h:=aK.keep hs k46 (by simp)
 have hnv:∀ x∈ak hv,x ∉ [vb]:=fun x hx hm=>by
  have:=aK.lt hs x hx
  simp at hm; omega
 refine aM (fun m ys M7=>∃ j:Nat,m=8 - j∧ys=[N .i64 (j:Int)]∧j≤8∧aa [vb] M6 M7∧M7.heap vb=some (.row (bB.row ((List.zipWith dB h v).take j++v.drop j)) pp TU 0)) _
  ⟨0,rfl,rfl,by omega,aa.refl _ _,by rw[List.take_zero,List.drop_zero]; exact nv⟩ ?_
 rintro next m ys M7 hnext ⟨j,rfl,rfl,hj,k7,s7⟩
 simp only[aI]
 rw[lJ 8 (by rfl)]
 have hs7:Sl bB M7 hv h:=aK.keep hs6 k7 hnv
 have zc:List.zipWith dB h v=List.zipWith dB v h:=List.zipWith_comm_of_comm QH
 rw[zc] at s7
 refine aS (fun hc=>?_) fun hc=>?_
 ·have hj8:j<8:=of_decide_eq_true hc
  have hl7:=NR (v:=h) (h:=v) (Nat.le_of_lt hj8) hrl hhl
  rw[wP rfl (by omega),VK s7 (by omega),FU hs7 (by omega),bi,wP rfl (by omega),TE s7 (by omega),eT 1 (by omega) (by omega) (by rfl)]
  refine hnext _ _ _ (by omega) ⟨j + 1,rfl,rfl,by omega,k7.put _ (.inr (by simp)), ?_⟩
  rw[aG,NK hj8 hrl hhl,zc,← Lh hj8 hrl hhl]
  rfl
 ·have hj8:j=8:=by have:=of_decide_eq_false hc; omega
  subst hj8
  have hzl:(List.zipWith dB v h).length=8:=by rw[List.length_zipWith,hrl,hhl]; rfl
  rw[List.drop_of_length_le (by omega),List.append_nil,List.take_of_length_le (by omega),← zc] at s7
  have Zl:(List.zipWith dB h v).length=8:=by rw[zc]; exact hzl
  exact hQ _ M7 (Ai k46 k7 (by omega)) ⟨vb,pp,cap,by rw[Zl],s7,by omega,Nat.lt_of_lt_of_le lvb k7.next⟩
def IA (TU:Nat) (c:au) : Prop:=∀ {M:RM} {Q:aj},(∀ hv kv M',aa [] M M'→VS M' M.next TU hv hW→VS M' M.next TU kv kW→Q (.tup [hv,kv]) M')→c [] M Q
theorem MM {T32 TU T8:Nat} {cc cb:au} (hc:IA TU cc) (hB:K8 TU cb) : Cr fun args M Q=>∃ a0,args=[a0]∧Av T32 cc T8 cb a0 M Q:=by
 intro M v b Q hv hl hQ
 refine⟨_,rfl, ?_⟩
 unfold Av
 refine fF (BY.row (List.replicate 32 0)) fun M1 k1 n1 e1=>?_
 refine hc fun hv2 kv M2 k2 hH hK=>?_
 simp only[bZ,dG]
 have k02:=k1.trans k2
 rw[PN,aN]
 have k3' : aa [] M2 (M2.push (.row [] false T8 0)):=(aa.refl _ _).push _
 have Xh:=hv.keep k02 (by simp)
 refine pI (E:=BY) (Ow.lit BY M2) (by simp[RM.push]) (by decide) (Xh.keep k3' (by simp)).sl (by simp; omega) (by simp; omega) fun v3 M3 o3 k3 _ _=>?_
 have k23:aa [] M2 M3:=aa.own k3' k3 (fun x hx=>by simp[ak] at hx; omega)
 rw[List.nil_append] at o3
 rw[iq (by rfl) (by rfl) (by rfl),aN]
 refine iw (E:=BY) (a:=(128:UInt8)) o3 k23.next (by decide) (by omega) (by omega) fun v4 M4 o4 k4 _ _=>?_
 have k24:aa [] M2 M4:=aa.own k23 k4 (fun x hx=>(Own.blk o3 x hx).1)
 have hzp:zp b.length<64:=Nat.mod_lt _ (by decide)
 have hz:(b.length + 1 + zp b.length) % 64=56:=by unfold zp; omega
 refine aM (fun m ys M10=>∃ (i:Nat) (rv:AV),m=zp b.length - i∧ys=[rv]∧i≤zp b.length∧aa [] M2 M10∧Ow BY M10 M2.next T8 rv (b++128 :: List.replicate i 0)) _
  ⟨0,v4,rfl,rfl,by omega,k24,o4⟩ ?_
 rintro next m ys M10 hnext ⟨i,rv,rfl,rfl,hi,k10,o10⟩
 simp only[aI]
 have hrl:(b++128 :: List.replicate i 0).length=b.length + 1 + i:=by simp; omega
 rw[aK.len (Own.kY o10),hrl,nH]
 refine⟨by decide, ?_⟩
 rw[show(((b.length + 1 + i:Nat) : Int)).tmod 64=(((b.length + 1 + i) % 64:Nat) : Int) by rw[Int.natCast_emod]; exact Int.tmod_eq_emod_of_nonneg (by omega),cB]
 refine aS (fun hc=>?_) fun hc=>?_
 ·have hne:(b.length + 1 + i) % 64≠56:=fun e=>by rw[e] at hc; cases hc
  have hlt:i<zp b.length:=by
   rcases Nat.lt_or_ge i (zp b.length) with h | h
   ·exact h
   ·have:i=zp b.length:=by omega
    subst this; exact absurd hz hne
  rw[iq (by rfl) (by rfl) (by rfl),aN]
  refine iw (E:=BY) (a:=(0:UInt8)) o10 k10.next (by decide) (by omega) (by omega) fun v11 M11 o11 k11 _ _=>?_
  refine hnext _ _ _ (by omega) ⟨i + 1,v11,rfl,rfl,by omega,aa.own k10 k11 (fun x hx=>(Own.blk o10 x hx).1), ?_⟩
  have e:b++128 :: List.replicate (i + 1) 0=b++128 :: List.replicate i 0++[0]:=by rw[List.replicate_succ']; simp
  rw[e]; exact o11
 have aaL:(b.length + 1 + i) % 64=56:=by
  have:((((b.length + 1 + i) % 64:Nat) : Int) != 56)=false:=hc
  have:=bne_eq_false_iff_eq.1 this
  omega
 have hiz:i=zp b.length:=by omega
 subst hiz
 clear hnext
 have aaF:=Xh.keep k10 (by simp)
 rw[aaF.len,bT,bL (by omega) (by omega),fo,bL (by omega) (by omega),show((b.length:Int) * 8)=((8 * b.length:Nat) : Int) by omega]
 generalize hpre:b++128 :: List.replicate (zp b.length) 0=P at *
 refine aM (fun m ys M11=>∃ (i:Nat) (rv:AV),m=8 - i∧ys=[rv,N .i64 (7 - (i:Int))]∧i≤8∧aa [] M2 M11∧Ow BY M11 M2.next T8 rv (P++(kV b.length).take i)) _
  ⟨0,rv,rfl,rfl,by omega,k10,by rw[List.take_zero,List.append_nil]; exact o10⟩ ?_
 rintro next m ys M11 hnext ⟨i,rv2,rfl,rfl,hi,k11,o11⟩
 simp only[aI,dH]
 have hll:((kV b.length).take i).length=i:=by rw[List.length_take]; simp[kV]; omega
 have hpl:(P++(kV b.length).take i).length=b.length + 1 + zp b.length + i:=by rw[List.length_append,hrl,hll]
 rw[kD]
 refine aS (fun hc=>?_) fun hc=>?_
 ·have hi8:i<8:=by have:=of_decide_eq_true hc; omega
  rw[fo,aL (by omega) (by omega),bT,bL (by omega) (by omega),gK]
  refine⟨by omega, ?_⟩
  rw[bT,show(8 * (7 - (i:Int)))=((56 - 8 * i:Nat) : Int) by omega,DC,iq (by rfl) (by rfl) (by rfl),aN]
  refine iw (E:=BY) (a:=Ey (jc .u64 ((8 * b.length:Nat) : Int) ((56 - 8 * i:Nat) : Int))) o11 k11.next (by decide) (by omega) (by omega) fun v12 M12 o12 k12 _ _=>?_
  rw[gq,aL (by omega) (by omega)]
  refine hnext _ _ _ (by omega) ⟨i + 1,v12,rfl,by congr 2; congr 1; omega,by omega,aa.own k11 k12 (fun x hx=>(Own.blk o11 x hx).1), ?_⟩
  rw[Kk hi8,← List.append_assoc]
  exact o12
 have hi8:i=8:=by have:=of_decide_eq_false hc; omega
 subst hi8
 clear hnext
 rw[List.take_of_length_le (by simp[kV])] at o11 hpl
 have hfull:P++kV b.length=b++rq b.length:=by rw[← hpre]; simp[rq]
 rw[hfull] at o11 hpl
 have hrest:(b++rq b.length).length=b.length + 9 + zp b.length:=by rw[hpl]; omega
 have Pq:rA b=jE (bW kW ((b.length + 9 + zp b.length) / 64) hW (b++rq b.length)):=rfl
 generalize hRe:b++rq b.length=R at *
 obtain⟨n,hn⟩ : ∃ n,b.length + 9 + zp b.length=64 * n:=⟨(b.length + 9 + zp b.length) / 64,by omega⟩
 rw[hn] at hrest
 rw[hn,Nat.mul_div_cancel_left _ (by decide)] at Pq
 have SV:=Bs.own o11
 refine aM (fun m ys M12=>∃ (i:Nat) (w:AV),m=n - i∧ys=[w,N .i64 ((i * 64:Nat) : Int)]∧i≤n∧aa [] M11 M12∧VS M12 M1.next TU w (bW kW i hW R)) _
  ⟨0,hv2,rfl,rfl,by omega,aa.refl _ _,hH.keep k11⟩ ?_
 rintro next m ys M12 hnext ⟨i,w,rfl,rfl,hi,k12,hw⟩
 simp only[aI,dH]
 have LY:=SV.keep k12 (by simp)
 have aak:=(hK.keep k11).keep k12
 have hFl:(bW kW i hW R).length=8:=mI FP
 rw[LY.len,jQ]
 refine aS (fun hc=>?_) fun hc=>?_
 ·have hin:i<n:=by have:=of_decide_eq_true hc; omega
  rw[eT 64 (by omega) (by omega) (by rfl)]
  refine LY.sub (qc _ _ _) (qc _ _ _) (by omega) (by omega) fun v13 h13 Zo=>?_
  rw[show i * 64 + 64 - i * 64=64 by omega] at h13
  refine hB hw.sl hFl aak.sl BV h13 (by rw[List.length_take,List.length_drop]; omega) fun v14 M13 k13 h14=>?_
  rw[eT 64 (by omega) (by omega) (by rfl),show i * 64 + 64=(i + 1) * 64 by omega]
  refine hnext _ _ _ (by omega) ⟨i + 1,v14,rfl,rfl,by omega,k12.trans k13, ?_⟩
  rw[sU,Nat.mul_comm 64]
  exact h14.mono (Nat.le_trans k2.next (Nat.le_trans k11.next k12.next))
 have hin:i=n:=by have:=of_decide_eq_false hc; omega
 subst hin
 clear hnext
 generalize bW kW i hW R=F at *
 have hdF:=Fg F
 have Un:=k11.trans k12
 have n112:=(k2.trans Un).az n1 (by omega) (by simp)
 have Ub:M.next<M12.next:=Nat.lt_of_lt_of_le (by omega:M.next<M1.next) (k2.trans Un).next
 refine fF (BY.row (List.replicate 32 0)) fun M14 k14 n14' e14=>?_
 have n14:M14.heap M12.next=some (.row (BY.row ((jE F).take 0++List.replicate (32 - 0) 0)) false T32 0):=n14'
 refine aM (fun m ys M15=>∃ i:Nat,m=32 - i∧ys=[N .i64 (i:Int)]∧i≤32∧aa [] M12 M15∧M12.next<M15.next∧M15.heap M12.next=some (.row (BY.row ((jE F).take i++List.replicate (32 - i) 0)) false T32 0)) _
  ⟨0,rfl,rfl,by omega,k14,by omega,n14⟩ ?_
 rintro next m ys M15 hnext ⟨i',rfl,rfl,hi',k15,Sq,n15'⟩
 simp only[aI]
 have Z6:=hw.keep k15
 rw[lJ 32 (by rfl)]
 refine aS (fun hc=>?_) fun hc=>?_
 ·have jK:i'<32:=of_decide_eq_true hc
  rw[pK]
  refine⟨by decide, ?_⟩
  rw[show IntKind.i64.wrap (((i' : Nat) : Int).tdiv 4)=((i' / 4:Nat) : Int) by
   rw[show((i' : Nat) : Int).tdiv 4=((i' / 4:Nat) : Int) by rw[Int.natCast_ediv]; exact Int.tdiv_eq_ediv_of_nonneg (by omega)]
   exact aL (by omega) (by omega)]
  rw[FU Z6.sl (by omega),nH]
  refine⟨by decide, ?_⟩
  rw[show(((i' : Nat) : Int)).tmod 4=((i' % 4:Nat) : Int) by rw[Int.natCast_emod]; exact Int.tmod_eq_emod_of_nonneg (by omega),fo,aL (by omega) (by omega),gq,aL (by omega) (by omega),bT,bL (by omega) (by omega),gK]
  refine⟨by omega, ?_⟩
  rw[bT,DC,bO rfl jK,show(24 - 8 * ((i' % 4:Nat) : Int))=((24 - 8 * (i' % 4) : Nat) : Int) by omega]
  have hget:(jE F)[i']?=some (Ey (jc .u32 (F.getD (i' / 4) 0) ((24 - 8 * (i' % 4) : Nat) : Int))):=by
   simp[jE,jK]
  have hset:=Mh jK hdF hget
  have Ww:((jE F).take i'++List.replicate (32 - i') 0).length=32:=by rw[List.length_append,List.length_take,List.length_replicate]; omega
  rw[gB (BY.row ((jE F).take (i' + 1)++List.replicate (32 - (i' + 1)) 0)) n15' (by rw[eY]; omega) rfl rfl (by rw[← hset,kG,kG,List.map_set]),eT 1 (by omega) (by omega) (by rfl)]
  exact hnext _ _ _ (by omega) ⟨i' + 1,rfl,rfl,by omega,k15.new _ (Nat.le_refl _),Sq,aG _⟩
 ·have jK:i'=32:=by have:=of_decide_eq_false hc; omega
  subst jK
  have e:(jE F).take 32++List.replicate (32 - 32) 0=jE F:=by rw[List.take_of_length_le (by omega)]; simp
  rw[e] at n15'
  have n115:=k15.az n112 Ub (by simp)
  rw[dX n15' (by rw[eY,hdF]),kH n115 (by rw[eY,hdF]) (by rw[eY,List.length_replicate]) (BY.bX _),dX (aG _) (by rw[eY,hdF]),← Pq]
  exact hQ _ ((k02.trans (Un.trans k15)).new _ (Nat.le_refl _))
def JF (n:Nat) : Bool:=(List.range n).all fun d=>!(decide (2≤d) && decide (d * d≤n) && decide (n % d=0))
def KW (c:au) : Prop:=∀ {M:RM} {n:Nat} {Q:aj},2≤n→n<100000→Q (Bo (JF n)) M→c [N .i64 (n:Int)] M Q
theorem Qk:KW fun args M Q=>∃ a0,args=[a0]∧sV a0 M Q:=by
 intro M n Q h2 hn hQ
 refine⟨_,rfl, ?_⟩
 unfold sV
 refine aM (fun m ys M3=>∃ d:Nat,m=1000 - d∧ys=[N .i64 (d:Int)]∧2≤d∧d<1000∧(∀ e,2≤e→e<d→n % e≠0)∧M3=M) _ ⟨2,rfl,rfl,by omega,by omega,fun e h1 h2=>by omega,rfl⟩ ?_
 rintro next m ys M3 hnext ⟨d,rfl,rfl,hd2,hdl,hne,rfl⟩
 simp only[aI]
 have hdd:d * d≤999 * 999:=Nat.mul_le_mul (by omega) (by omega)
 rw[fo,show((d:Int) * (d:Int))=((d * d:Nat) : Int) by rw[Int.natCast_mul],aL (by omega) (by omega),Z8]
 refine aS (fun hc=>?_) fun hc=>?_
 ·have hc:=of_decide_eq_true hc
  rw[nH]
  refine⟨by omega, ?_⟩
  rw[show((n:Int)).tmod (d:Int)=((n % d:Nat) : Int) by rw[Int.natCast_emod]; exact Int.tmod_eq_emod_of_nonneg (by omega),show(N .i64 0)=N .i64 ((0:Nat) : Int) from rfl,ZP]
  have hdn:d<n:=by
   have:d * 2≤d * d:=Nat.mul_le_mul_left d hd2
   omega
  refine aS (fun h=>?_) fun h=>?_
  ·have h:=of_decide_eq_true h
   have:JF n=false:=by
    unfold JF
    rw[List.all_eq_false]
    refine⟨d,List.mem_range.2 hdn, ?_⟩
    simp[hd2,hc,h]
   rw[← this]; exact hQ
  ·have h:=of_decide_eq_false h
   have hd316:d<400:=by
    rcases Nat.lt_or_ge d 400 with h | h
    ·exact h
    ·have:=Nat.mul_le_mul h h; omega
   rw[add1 (by omega)]
   refine hnext _ _ _ (by omega) ⟨d + 1,rfl,rfl,by omega,by omega,fun e h1 h3=>?_,rfl⟩
   rcases Nat.lt_or_ge e d with h4 | h4
   ·exact hne e h1 h4
   ·have:e=d:=by omega
    rw[this]; exact h
 ·have hc:=of_decide_eq_false hc
  rw[gu,show decide ((n:Int) > 1)=true from decide_eq_true (by omega)]
  have:JF n=true:=by
   unfold JF
   rw[List.all_eq_true]
   intro e he
   by_cases h1:2≤e
   ·by_cases h3:e * e≤n
    ·have hed:e<d:=by
      rcases Nat.lt_or_ge e d with h | h
      ·exact h
      ·have:=Nat.mul_le_mul h h; omega
     have:=hne e h1 hed
     simp[this]
    ·simp[h3]
   ·simp[h1]
  rw[← this]; exact hQ
def pl (i:Nat) : List Nat:=(List.range i).filter fun n=>decide (2≤n) && JF n
def jU:List Nat:=[2,3,5,7,11,13,17,19,23,29,31,37,41,43,47,53,59,61,67,71,73,79,83,89,97,101,103,107,109,113,127,131,137,139,149,151,157,163,167,173,179,181,191,193,197,199,211,223,227,229,233,239,241,251,257,263,269,271,277,281,283,293,307,311]
theorem QL:pl 312=jU:=by decide +kernel
theorem xI:jU.length=64:=by decide
theorem Oq {i:Nat} (h:2≤i) : pl (i + 1)=pl i++(if JF i=true then[i] else[]):=by
 unfold pl
 rw[List.range_succ,List.filter_append]
 congr 1
 cases hp:JF i <;> simp[hp,h]
theorem Wu {i:Nat} (h:i≤312) : pl i <+: jU:=by
 rw[← QL]
 unfold pl
 have:List.range i <+: List.range 312:=by
  rw[show 312=i + (312 - i) by omega,List.range_add]
  exact List.prefix_append _ _
 exact this.filter _
def JE:Enc Nat:=⟨1,fun n=>[N .i64 (n:Int)],fun _=>rfl,fun _=>rfl⟩
def Hy (TI:Nat) (c:au) : Prop:=∀ {M:RM} {Q:aj},(∀ v' M',aa [] M M'→Sl JE M' v' jU→Q v' M')→c [N .i64 64] M Q
theorem Np {TI:Nat} {cp:au} (hp:KW cp) : Hy TI fun args M Q=>∃ a0,args=[a0]∧qW TI cp a0 M Q:=by
 intro M Q hQ
 refine⟨_,rfl, ?_⟩
 unfold qW
 refine Dt ?_
 show aQ _ _ _ _
 rw[aN]
 have k0:aa [] M (M.push (.row [] false TI 0)):=(aa.refl _ _).push _
 refine aM (fun m ys M3=>∃ (i:Nat) (v:AV),m=312 - i∧ys=[v,N .i64 (i:Int)]∧2≤i∧i≤312∧aa [] M M3∧Ow JE M3 M.next TI v (pl i)) _ ⟨2,_,rfl,rfl,by omega,by omega,k0,Ow.lit JE M⟩ ?_
 rintro next m ys M3 hnext ⟨i,v,rfl,rfl,hi2,hi,k3,o3⟩
 simp only[aI,dH]
 have hpre:=Wu hi
 have hle:=hpre.length_le
 rw[xI] at hle
 rw[aK.len (Own.kY o3),show(N .i64 64)=N .i64 ((64:Nat) : Int) from rfl,jQ]
 refine aS (fun hc=>?_) fun hc=>?_
 ·have hc:=of_decide_eq_true hc
  have hi312:i<312:=by
   rcases Nat.lt_or_ge i 312 with h | h
   ·exact h
   ·have:i=312:=by omega
    subst this
    rw[QL,xI] at hc
    omega
  rw[gz]
  refine fV (fun xs M4=>∃ v',xs=[v']∧aa [] M M4∧Ow JE M4 M.next TI v' (pl (i + 1))) ?_ ?_
  ·rintro xs M4 ⟨v',rfl,k4,o4⟩
   simp only[aI]
   rw[add1 (by omega)]
   exact hnext _ _ _ (by omega) ⟨i + 1,v',rfl,rfl,by omega,by omega,k4,o4⟩
  ·intro J hJ
   refine hp hi2 (by omega) ?_
   refine aS (fun h=>?_) fun h=>?_
   ·rw[iq (by rfl) (by rfl) (by rfl),aN]
    refine iw (E:=JE) (a:=i) o3 k3.next (by decide) (by omega) (by omega) fun v4 M4 o4 k4 _ _=>?_
    refine hJ _ _ ⟨v4,rfl,aa.own k3 k4 (fun x hx=>(Own.blk o3 x hx).1), ?_⟩
    rw[Oq hi2,if_pos h]; exact o4
   ·refine hJ _ _ ⟨v,rfl,k3, ?_⟩
    rw[Oq hi2,if_neg (by rw[h]; decide),List.append_nil]; exact o3
 ·have hc:=of_decide_eq_false hc
  have:pl i=jU:=hpre.eq_of_length (by rw[xI]; omega)
  rw[this] at o3
  exact hQ v M3 k3 (Own.kY o3)
def val:List Nat→Nat
 | []=>0
 | x :: xs=>x + 65536 * val xs
theorem IR:∀ (l r:List Nat),val (l++r)=val l + 65536 ^ l.length * val r
 | [],r=>by simp[val]
 | x :: l,r=>by
   rw[List.cons_append,val,IR l r,val,List.length_cons,Nat.pow_succ,Nat.mul_add,Nat.mul_comm (65536 ^ l.length) 65536,Nat.mul_assoc]
   omega
theorem Aq {l:List Nat} {i:Nat} (h:i<l.length) : val (l.take (i + 1))=val (l.take i) + 65536 ^ i * l.getD i 0:=by
 have hl:(l.take i).length=i:=by rw[List.length_take]; omega
 rw[List.take_succ_eq_append_getElem h,IR,hl]
 simp[val,List.getD,h]
theorem Ca {l:List Nat} (i:Nat) (h:i≤l.length) : val l=val (l.take i) + 65536 ^ i * val (l.drop i):=by
 have hl:(l.take i).length=i:=by rw[List.length_take]; omega
 conv=>lhs; rw[← List.take_append_drop i l,IR,hl]
theorem Ij:∀ {l:List Nat} {i:Nat} (x:Nat),i<l.length→val (l.set i x) + 65536 ^ i * l.getD i 0=val l + 65536 ^ i * x
 | [],i,x,h=>by simp at h
 | y :: l,0,x,h=>by simp[val]; omega
 | y :: l,i + 1,x,h=>by
   have ih:=Ij (l:=l) (i:=i) x (by simpa using h)
   rw[List.set_cons_succ,val,val,Nat.pow_succ,show(y :: l).getD (i + 1) 0=l.getD i 0 from rfl]
   have e1:65536 ^ i * 65536 * l.getD i 0=65536 * (65536 ^ i * l.getD i 0):=by rw[Nat.mul_comm (65536 ^ i) 65536,Nat.mul_assoc]
   have e2:65536 ^ i * 65536 * x=65536 * (65536 ^ i * x):=by rw[Nat.mul_comm (65536 ^ i) 65536,Nat.mul_assoc]
   rw[e1,e2]
   generalize 65536 ^ i * l.getD i 0=p at *
   generalize 65536 ^ i * x=q at *
   omega
def rH (l:List Nat) : Prop:=l.length=8∧∀ x∈l,x<65536
theorem Mg:∀ {l:List Nat},(∀ x∈l,x<65536)→val l<65536 ^ l.length
 | [],_=>by simp[val]
 | x :: l,h=>by
   have h1:=Mg (l:=l) fun y hy=>h y (List.mem_cons_of_mem _ hy)
   have h2:=h x List.mem_cons_self
   rw[val,List.length_cons,Nat.pow_succ,Nat.mul_comm (65536 ^ l.length) 65536]
   have:65536 * (val l + 1)≤65536 * 65536 ^ l.length:=Nat.mul_le_mul_left _ h1
   rw[Nat.mul_add] at this
   omega
theorem getD_lt {l:List Nat} (h:∀ x∈l,x<65536) (i:Nat) : l.getD i 0<65536:=by
 rw[List.getD_eq_getElem?_getD]
 rcases hi:l[i]? with _ | x
 ·show 0<65536; decide
 ·exact h x (List.mem_of_getElem? hi)
def dY:Enc Nat:=⟨1,fun n=>[N .u64 (n:Int)],fun _=>rfl,fun _=>rfl⟩
theorem nU (xs:List Nat) : dY.row xs=xs.map (fun n:Nat=>N .u64 (n:Int)):=by
 induction xs with
 | nil=>rfl
 | cons x xs ih=>rw[Enc.gJ,ih]; rfl
theorem dR (xs:List Nat) : (dY.row xs).length=xs.length:=by rw[nU,List.length_map]
section
variable {M:RM} {b T:Nat} {ws:List Nat}
theorem tu (h:M.heap b=some (.row (dY.row ws) false T 0)) {i:Nat} (hi:i<ws.length) {K:AV→Prop} : ag M (.ptr b i) K=K (N .u64 (ws.getD i 0:Nat)):=by
 refine aH h ?_
 rw[nU,List.getElem?_map,List.getElem?_eq_getElem hi]
 simp[List.getD,hi]
theorem Cc (h:M.heap b=some (.row (dY.row ws) false T 0)) {i:Nat} (hi:i<ws.length) (x:Nat) {K:RM→Prop} : aU M (.ptr b i) (N .u64 (x:Int)) 1 K=K (M.put b (.row (dY.row (ws.set i x)) false T 0)):=by
 refine gB _ h (by rw[dR]; exact hi) rfl rfl ?_
 rw[nU,nU,List.map_set]
end
theorem P8 {n:Nat} (h:n<18446744073709551616) : oW .u64 (n:Int) 65535=((n % 65536:Nat) : Int):=by
 unfold oW
 have e:(BitVec.ofInt IntKind.u64.bits (n:Int) &&& BitVec.ofInt IntKind.u64.bits 65535).toNat=n % 65536:=by
  show(BitVec.ofInt 64 (n:Int) &&& BitVec.ofInt 64 65535).toNat=_
  rw[BitVec.toNat_and,BitVec.ofInt_natCast,BitVec.toNat_ofNat,Nat.mod_eq_of_lt (show n<2 ^ 64 by omega)]
  have:(BitVec.ofInt 64 65535).toNat=2 ^ 16 - 1:=by decide
  rw[this,Nat.and_two_pow_sub_one_eq_mod]
 rw[e,bL (by omega) (by omega)]
theorem Qq {n k:Nat} (hk:k<64) : jc .u64 (n:Int) (k:Int)=((n / 2 ^ k:Nat) : Int):=by
 unfold jc
 have:min (Int.toNat (k:Int)) IntKind.u64.bits=k:=by
  rw[Int.toNat_natCast]; exact Nat.min_eq_left (Nat.le_of_lt hk)
 rw[this]
 rw[show((2:Int) ^ k)=((2 ^ k:Nat) : Int) by rw[Int.natCast_pow]; rfl,Int.fdiv_eq_ediv_of_nonneg _ (Int.natCast_nonneg _)]
 rfl
def Ld (c:au) : Prop:=∀ {M:RM} {a b:List Nat} {Q:aj},rH a→rH b→(∀ M',aa [] M M'→Q (Bo (decide (val a > val b))) M')→c [.agg (dY.row a),.agg (dY.row b)] M Q
theorem RJ {a b:List Nat} (ha:rH a) (hb:rH b) {i:Nat} (hi:i<8) (he:a.drop (i + 1)=b.drop (i + 1)) (hne:a.getD i 0≠b.getD i 0) : decide (val a > val b)=decide (a.getD i 0 > b.getD i 0):=by
 have ea:=Ca (l:=a) (i + 1) (by rw[ha.1]; omega)
 have eb:=Ca (l:=b) (i + 1) (by rw[hb.1]; omega)
 rw[Aq (by rw[ha.1]; exact hi)] at ea
 rw[Aq (by rw[hb.1]; exact hi),← he] at eb
 have la:=Mg (l:=a.take i) fun x hx=>ha.2 x (List.mem_of_mem_take hx)
 have lb:=Mg (l:=b.take i) fun x hx=>hb.2 x (List.mem_of_mem_take hx)
 rw[List.length_take,ha.1,Nat.min_eq_left (by omega)] at la
 rw[List.length_take,hb.1,Nat.min_eq_left (by omega)] at lb
 generalize 65536 ^ (i + 1) * val (a.drop (i + 1))=R at *
 generalize a.getD i 0=x at *
 generalize b.getD i 0=y at *
 rw[decide_eq_decide]
 have m1:x<y→65536 ^ i * (x + 1)≤65536 ^ i * y:=fun h=>Nat.mul_le_mul_left _ h
 have m2:y<x→65536 ^ i * (y + 1)≤65536 ^ i * x:=fun h=>Nat.mul_le_mul_left _ h
 rw[Nat.mul_add,Nat.mul_one] at m1 m2
 generalize 65536 ^ i * x=X at *
 generalize 65536 ^ i * y=Y at *
 omega
theorem Ph {T:Nat} : Ld fun args M Q=>∃ a0 a1,args=[a0,a1]∧tT T a0 a1 M Q:=by
 intro M a b Q ha hb hQ
 refine⟨_,_,rfl, ?_⟩
 unfold tT
 rw[lI (dY.bX a) (by rw[dR,ha.1]; omega)]
 refine fF _ fun M1 k1 n1 e1=>?_
 rw[lI (dY.bX b) (by rw[dR,hb.1]; omega)]
 refine fF _ fun M2 k2 n2 e2=>?_
 have n12:=k2.az n1 (by omega) (by simp)
 have k02:=k1.trans k2
 refine aM (fun m ys M3=>∃ c:Nat,m=9 - c∧ys=[N .i64 (7 - (c:Int))]∧c≤8∧a.drop (8 - c)=b.drop (8 - c)∧M3=M2) _ ⟨0,rfl,rfl,by omega,by rw[List.drop_of_length_le (by rw[ha.1]; omega),List.drop_of_length_le (by rw[hb.1]; omega)],rfl⟩ ?_
 rintro next m ys M3 hnext ⟨c,rfl,rfl,hc,he,rfl⟩
 simp only[aI]
 rw[kD]
 refine aS (fun h=>?_) fun h=>?_
 ·have hc8:c<8:=by have:=of_decide_eq_true h; omega
  have hi:(7 - (c:Int))=((7 - c:Nat) : Int):=by omega
  rw[hi]
  have Ia:∀ {K:AV→Prop},bE (.ptr M.next 0) (N .i64 ((7 - c:Nat) : Int)) 8 1 K=K (.ptr M.next (7 - c)):=bO rfl (by omega)
  have Ib:∀ {K:AV→Prop},bE (.ptr M1.next 0) (N .i64 ((7 - c:Nat) : Int)) 8 1 K=K (.ptr M1.next (7 - c)):=bO rfl (by omega)
  have La:∀ {K:AV→Prop},ag M3 (.ptr M.next (7 - c)) K=K (N .u64 (a.getD (7 - c) 0:Nat)):=tu n12 (by rw[ha.1]; omega)
  have Lb:∀ {K:AV→Prop},ag M3 (.ptr M1.next (7 - c)) K=K (N .u64 (b.getD (7 - c) 0:Nat)):=tu n2 (by rw[hb.1]; omega)
  rw[Ia,La,Ib,Lb,cB]
  refine aS (fun hn=>?_) fun hn=>?_
  ·rw[Ia,La,Ib,Lb,gu]
   have hne:a.getD (7 - c) 0≠b.getD (7 - c) 0:=fun e=>by rw[e] at hn; simp at hn
   have hd:=RJ ha hb (i:=7 - c) (by omega) (by rw[show 7 - c + 1=8 - c by omega]; exact he) hne
   have e2:decide ((a.getD (7 - c) 0:Int) > (b.getD (7 - c) 0:Int))=decide (val a > val b):=by rw[hd,decide_eq_decide]; omega
   rw[e2]
   exact hQ M3 k02
  ·have heq:a.getD (7 - c) 0=b.getD (7 - c) 0:=by
    have:=bne_eq_false_iff_eq.1 hn
    omega
   rw[gq,aL (by omega) (by omega)]
   refine hnext _ _ _ (by omega) ⟨c + 1,rfl,by congr 2; omega,by omega, ?_,rfl⟩
   have da:a.drop (8 - (c + 1))=a.getD (7 - c) 0 :: a.drop (8 - c):=by
    rw[show 8 - (c + 1)=7 - c by omega,List.drop_eq_getElem_cons (by rw[ha.1]; omega),show 7 - c + 1=8 - c by omega]
    simp[List.getD,show 7 - c<a.length by rw[ha.1]; omega]
   have db:b.drop (8 - (c + 1))=b.getD (7 - c) 0 :: b.drop (8 - c):=by
    rw[show 8 - (c + 1)=7 - c by omega,List.drop_eq_getElem_cons (by rw[hb.1]; omega),show 7 - c + 1=8 - c by omega]
    simp[List.getD,show 7 - c<b.length by rw[hb.1]; omega]
   rw[da,db,heq,he]
 ·have hc8:c=8:=by have:=of_decide_eq_false h; omega
  subst hc8
  rw[Nat.sub_self,List.drop_zero,List.drop_zero] at he
  have:decide (val a > val b)=false:=by rw[he]; simp
  rw[← this]
  exact hQ M3 k02
def Rn (c:au) : Prop:=∀ {M:RM} {v:Nat} {Q:aj},v<2 ^ 40→(∀ M' l,aa [] M M'→rH l→val l=v→Q (.agg (dY.row l)) M')→c [N .u64 (v:Int)] M Q
theorem N9 {T:Nat} : Rn fun args M Q=>∃ a0,args=[a0]∧BQ T a0 M Q:=by
 intro M v Q hv hQ
 refine⟨_,rfl, ?_⟩
 unfold BQ
 refine fF (dY.row (List.replicate 8 0)) fun M1 k1 n1 e1=>?_
 rw[dE,P8 (by omega),gK]
 refine⟨by decide, ?_⟩
 rw[show jc .u64 (v:Int) 16=((v / 2 ^ 16:Nat) : Int) from Qq (k:=16) (by decide),dE,P8 (by omega),gK]
 refine⟨by decide, ?_⟩
 rw[show jc .u64 (v:Int) 32=((v / 2 ^ 32:Nat) : Int) from Qq (k:=32) (by decide),jm]
 have fl:lc [N .u64 0,N .u64 0,N .u64 0,N .u64 0,N .u64 0,N .u64 0,N .u64 0,N .u64 0] [(0,1,N .u64 ((v % 65536:Nat) : Int)),(1,1,N .u64 ((v / 2 ^ 16 % 65536:Nat) : Int)),(2,1,N .u64 ((v / 2 ^ 32:Nat) : Int))]=some (dY.row [v % 65536,v / 2 ^ 16 % 65536,v / 2 ^ 32,0,0,0,0,0]):=by
  rw[je (by simp)]
  simp only[List.set]
  rw[je (by simp)]
  simp only[List.set]
  rw[je (by simp)]
  simp only[List.set]
  rfl
 refine⟨_,fl, ?_⟩
 rw[kH n1 (by rw[dR]; rfl) (by rw[dR]; rfl) (dY.bX _),dX (aG _) (by rw[dR]; rfl)]
 refine hQ _ _ (k1.new _ (Nat.le_refl _)) ⟨rfl,fun x hx=>?_⟩ ?_
 ·simp only[List.mem_cons,List.not_mem_nil,or_false] at hx
  show x<65536
  omega
 ·simp only[val]
  omega
def LX (c:au) : Prop:=∀ {M:RM} {a b:List Nat} {Q:aj},rH a→rH b→val a * val b<65536 ^ 8→(∀ M' l,aa [] M M'→rH l→val l=val a * val b→Q (.agg (dY.row l)) M')→c [.agg (dY.row a),.agg (dY.row b)] M Q
theorem PP {va k q A B ai bj C C' cij t P:Nat} (h:C + k * P + q * 65536 ^ 8=A + ai * B) (hs:C' + P * cij=C + P * (t % 65536)) (ht:t=k + cij + ai * bj) :
  C' + (t / 65536) * (P * 65536) + q * 65536 ^ 8=A + ai * B + P * (ai * bj):=by
 have e:P * (t % 65536) + (t / 65536) * (P * 65536)=P * t:=by
  have:t=t % 65536 + 65536 * (t / 65536):=(Nat.mod_add_div t 65536).symm
  conv=>rhs; rw[this,Nat.mul_add]
  rw[Nat.mul_comm (t / 65536) (P * 65536),Nat.mul_assoc]
 have e2:P * t=k * P + P * cij + P * (ai * bj):=by rw[ht,Nat.mul_add,Nat.mul_add,Nat.mul_comm P k]
 generalize (t / 65536) * (P * 65536)=X at *
 generalize P * (t % 65536)=Y at *
 generalize P * cij=Z at *
 generalize P * (ai * bj)=W at *
 generalize k * P=U at *
 generalize q * 65536 ^ 8=V at *
 generalize ai * B=S at *
 omega
theorem O5 {c k q X Y Z P:Nat} (h:c + k * P + q * P=Z + Y) : c + (q * P + k * P + X)=Z + Y + X:=by
 generalize k * P=U at *
 generalize q * P=V at *
 omega
theorem NG {l:List Nat} {i x:Nat} (h:rH l) (hx:x<65536) : rH (l.set i x):=by
 refine⟨by rw[List.length_set]; exact h.1,fun y hy=>?_⟩
 rcases List.mem_or_eq_of_mem_set hy with hy | rfl
 ·exact h.2 y hy
 ·exact hx
theorem Po {T:Nat} : LX fun args M Q=>∃ a0 a1,args=[a0,a1]∧tO T a0 a1 M Q:=by
 intro M a b Q ha hb hlt hQ
 refine⟨_,_,rfl, ?_⟩
 unfold tO
 rw[lI (dY.bX a) (by rw[dR,ha.1]; omega)]
 refine fF _ fun M1 k1 n1 e1=>?_
 rw[lI (dY.bX b) (by rw[dR,hb.1]; omega)]
 refine fF _ fun M2 k2 n2 e2=>?_
 refine fF (dY.row (List.replicate 8 0)) fun M3 k3 n3 e3=>?_
 refine fF (dY.row (List.replicate 8 0)) fun M4 k4 n4 e4=>?_
 have k04:=k1.trans (k2.trans (k3.trans k4))
 have n14:=(k2.trans (k3.trans k4)).az n1 (by omega) (by simp)
 have n24:=(k3.trans k4).az n2 (by omega) (by simp)
 have n34:=k4.az n3 (by omega) (by simp)
 have d0:rH (List.replicate 8 0):=⟨rfl,fun x hx=>by rw[List.eq_of_mem_replicate hx]; decide⟩
 refine aM (fun m ys M5=>∃ (i:Nat) (c:List Nat) (q:Nat),m=8 - i∧ys=[N .i64 (i:Int)]∧i≤8∧aa [M3.next] M4 M5∧M5.heap M3.next=some (.row (dY.row c) false T 0)∧rH c∧val c + q * 65536 ^ 8=val (a.take i) * val b) _
  ⟨0,_,0,rfl,rfl,by omega,aa.refl _ _,n4,d0,by simp[val]⟩ ?_
 rintro next m ys M5 hnext ⟨i,c,q,rfl,rfl,hi,k5,n5,dc,hval⟩
 simp only[aI]
 rw[lJ 8 (by rfl)]
 refine aS (fun hc=>?_) fun hc=>?_
 ·have hi8:i<8:=of_decide_eq_true hc
  have hai:=getD_lt ha.2 i
  generalize hae:a.getD i 0=ai at *
  refine aM (fun m ys M6=>∃ (j k:Nat) (c:List Nat),m=8 - j∧ys=[N .u64 (k:Int),N .i64 (j:Int)]∧i + j≤8∧k<65536∧aa [M3.next] M4 M6∧M6.heap M3.next=some (.row (dY.row c) false T 0)∧rH c∧val c + k * 65536 ^ (i + j) + q * 65536 ^ 8=val (a.take i) * val b + ai * (65536 ^ i * val (b.take j))) _
   ⟨0,0,c,rfl,rfl,by omega,by omega,k5,n5,dc,by simp[val]; exact hval⟩ ?_
  rintro next2 m ys M6 WR ⟨j,k,c,rfl,rfl,hj,hk,k6,n6,dc6,hv6⟩
  simp only[aI,dH]
  have n16:=k6.az n14 (by omega) (by simp; omega)
  have n26:=k6.az n24 (by omega) (by simp; omega)
  rw[addN (by omega),lJ 8 (by rfl)]
  refine aS (fun hc=>?_) fun hc=>?_
  ·have hij:i + j<8:=of_decide_eq_true hc
   have hbj:=getD_lt hb.2 j
   have hcij:=getD_lt dc6.2 (i + j)
   rw[addN (by omega),bO rfl hij,tu n6 (by rw[dc6.1]; exact hij),bi,bO rfl hi8,tu n16 (by rw[ha.1]; exact hi8),bO rfl (by omega),tu n26 (by rw[hb.1]; omega),hae]
   have hset:=Ij (l:=c) (i:=i + j) ((k + c.getD (i + j) 0 + ai * b.getD j 0) % 65536) (by rw[dc6.1]; exact hij)
   have hbt:=Aq (l:=b) (i:=j) (by rw[hb.1]; omega)
   generalize b.getD j 0=bj at *
   generalize hce:c.getD (i + j) 0=cij at *
   have hprod:ai * bj≤65535 * 65535:=Nat.mul_le_mul (by omega) (by omega)
   rw[show((k:Int) + (cij:Int))=((k + cij:Nat) : Int) by omega,bL (by omega) (by omega),fo,show((ai:Int) * (bj:Int))=((ai * bj:Nat) : Int) by rw[Int.natCast_mul],bL (by omega) (by omega),bi,show(((k + cij:Nat) : Int) + ((ai * bj:Nat) : Int))=((k + cij + ai * bj:Nat) : Int) by omega,bL (by omega) (by omega)]
   generalize hte:k + cij + ai * bj=t at *
   rw[addN (by omega),dE,P8 (by omega),bO rfl hij,Cc n6 (by rw[dc6.1]; exact hij),gK]
   refine⟨by decide, ?_⟩
   rw[show jc .u64 (t:Int) 16=((t / 2 ^ 16:Nat) : Int) from Qq (k:=16) (by decide),add1 (by omega)]
   refine WR _ _ _ (by omega) ⟨j + 1,t / 2 ^ 16,_,rfl,rfl,by omega,by omega,k6.put _ (.inr (by simp)),aG _,NG dc6 (by omega), ?_⟩
   have hstep:=PP (va:=0) (A:=val (a.take i) * val b) (B:=65536 ^ i * val (b.take j)) (ai:=ai) (bj:=bj) hv6 hset hte.symm
   have e1:65536 ^ (i + (j + 1))=65536 ^ (i + j) * 65536:=by rw[← Nat.add_assoc,Nat.pow_succ]
   have e2:ai * (65536 ^ i * val (b.take (j + 1)))=ai * (65536 ^ i * val (b.take j)) + 65536 ^ (i + j) * (ai * bj):=by
    rw[hbt,Nat.mul_add,Nat.mul_add,Nat.pow_add]
    congr 1
    rw[Nat.mul_left_comm (65536 ^ i * 65536 ^ j),Nat.mul_assoc]
   rw[e1,e2,← Nat.add_assoc]
   exact hstep
  ·have hij:i + j=8:=by have:=of_decide_eq_false hc; omega
   rw[add1 (by omega)]
   refine hnext _ _ _ (by omega) ⟨i + 1,c,q + k + ai * val (b.drop j),rfl,rfl,by omega,k6,n6,dc6, ?_⟩
   have hat:=Aq (l:=a) (i:=i) (by rw[ha.1]; exact hi8)
   have hbs:=Ca (l:=b) j (by rw[hb.1]; omega)
   rw[hae] at hat
   rw[hij] at hv6
   have e3:65536 ^ 8=65536 ^ i * 65536 ^ j:=by rw[← Nat.pow_add,hij]
   have e4:ai * val (b.drop j) * 65536 ^ 8=ai * (65536 ^ i * (65536 ^ j * val (b.drop j))):=by
    rw[e3,Nat.mul_assoc,Nat.mul_comm (val (b.drop j)),Nat.mul_assoc]
   have e5:val (a.take (i + 1)) * val b=val (a.take i) * val b + ai * (65536 ^ i * val (b.take j)) + ai * (65536 ^ i * (65536 ^ j * val (b.drop j))):=by
    rw[hat,Nat.add_mul,Nat.add_assoc,← Nat.mul_add,← Nat.mul_add,← hbs]
    congr 1
    rw[Nat.mul_comm (65536 ^ i) ai,Nat.mul_assoc]
   rw[e5,Nat.add_mul,Nat.add_mul,e4]
   exact O5 hv6
 ·have hi8:i=8:=by have:=of_decide_eq_false hc; omega
  subst hi8
  rw[List.take_of_length_le (by rw[ha.1]; omega)] at hval
  have hq:q=0:=by
   rcases Nat.eq_zero_or_pos q with h | h
   ·exact h
   ·have:1 * 65536 ^ 8≤q * 65536 ^ 8:=Nat.mul_le_mul_right _ h
    omega
  rw[hq,Nat.zero_mul,Nat.add_zero] at hval
  have n35:=k5.az n34 (by omega) (by simp; omega)
  rw[dX n5 (by rw[dR,dc.1]),kH n35 (by rw[dR,dc.1]) (by rw[dR,List.length_replicate]) (dY.bX _),dX (aG _) (by rw[dR,dc.1])]
  exact hQ _ c ((Ai k04 k5 (by omega)).new _ (by omega)) dc hval
def big (p:Nat) (il:Bool) (t:Nat) : Bool:=match il with
 | true=>decide (t * t * t > p * 65536 ^ 6)
 | false=>decide (t * t > p * 65536 ^ 4)
def iL (p:Nat) (il:Bool) : Nat→Nat
 | 0=>0
 | c + 1=>match big p il (iL p il c ||| 2 ^ (36 - c)) with
   | true=>iL p il c
   | false=>iL p il c ||| 2 ^ (36 - c)
theorem Lx (p:Nat) (il:Bool) : ∀ c,c≤37→iL p il c<2 ^ 37
 | 0,_=>by simp[iL]
 | c + 1,h=>by
   have:=Lx p il c (by omega)
   rw[iL]
   split
   ·exact this
   ·exact Nat.or_lt_two_pow this (Nat.pow_lt_pow_right (by decide) (by omega))
def OW (c:au) : Prop:=∀ {M:RM} {p:Nat} {il:Bool} {Q:aj},p<1000→(∀ M',aa [] M M'→Q (N .u32 ((iL p il 37 % 4294967296:Nat) : Int)) M')→c [N .i64 (p:Int),Bo il] M Q
theorem orN {a b:Nat} (ha:a<18446744073709551616) (hb:b<18446744073709551616) (hab:a ||| b<18446744073709551616) : yC .u64 (a:Int) (b:Int)=((a ||| b:Nat) : Int):=by
 unfold yC
 have:=Rc IntKind.u64.bits a b
 rw[this]
 have e:(a ||| b) % 2 ^ IntKind.u64.bits=a ||| b:=Nat.mod_eq_of_lt (show a ||| b<2 ^ 64 by omega)
 rw[e,bL (by omega) (by omega)]
theorem NI {p i:Nat} (hp:p<1000) (hi:i<8) : rH ((List.replicate 8 0).set i p)∧val ((List.replicate 8 0).set i p)=65536 ^ i * p:=by
 refine⟨NG ⟨rfl,fun x hx=>by rw[List.eq_of_mem_replicate hx]; decide⟩ (by omega), ?_⟩
 have h:=Ij (l:=List.replicate 8 0) (i:=i) p (by simpa using hi)
 have h0:(List.replicate 8 0).getD i 0=0:=by
  have:i=0∨i=1∨i=2∨i=3∨i=4∨i=5∨i=6∨i=7:=by omega
  rcases this with rfl | rfl | rfl | rfl | rfl | rfl | rfl | rfl <;> rfl
 have h1:val (List.replicate 8 0)=0:=by decide
 rw[h0,h1] at h
 omega
theorem Rh {T:Nat} {co ct ca:au} (ho:Rn co) (ht:LX ct) (hab:Ld ca) : OW fun args M Q=>∃ a0 a1,args=[a0,a1]∧wH co ct T ca a0 a1 M Q:=by
 intro M p il Q hp hQ
 refine⟨_,_,rfl, ?_⟩
 unfold wH
 refine aM (fun m ys M3=>∃ c:Nat,m=38 - c∧ys=[N .u64 (iL p il c:Nat),N .i64 (36 - (c:Int))]∧c≤37∧aa [] M M3) _ ⟨0,rfl,rfl,by omega,aa.refl _ _⟩ ?_
 rintro next m ys M3 hnext ⟨c,rfl,rfl,hc,k3⟩
 simp only[aI,dH]
 have hr:=Lx p il c hc
 rw[kD]
 refine aS (fun h=>?_) fun h=>?_
 ·have WB:c<37:=by have:=of_decide_eq_true h; omega
  rw[gz]
  refine fV (fun xs M4=>xs=[N .u64 (iL p il (c + 1) : Nat)]∧aa [] M M4) ?_ ?_
  ·rintro xs M4 ⟨rfl,k4⟩
   simp only[aI]
   rw[gq,aL (by omega) (by omega)]
   exact hnext _ _ _ (by omega) ⟨c + 1,rfl,by congr 2; congr 1; omega,by omega,k4⟩
  intro J hJ
  rw[show(36 - (c:Int))=((36 - c:Nat) : Int) by omega,bT,bL (by omega) (by omega),jd]
  refine⟨by omega, ?_⟩
  have Xm:2 ^ (36 - c)<2 ^ 37:=Nat.pow_lt_pow_right (by decide) (by omega)
  have hsh:Ah .u64 1 ((36 - c:Nat) : Int)=((2 ^ (36 - c) : Nat) : Int):=by
   unfold Ah
   rw[Int.toNat_natCast,Nat.min_eq_left (show 36 - c≤IntKind.u64.bits from by show 36 - c≤64; omega),Int.one_mul,show((2:Int) ^ (36 - c))=((2 ^ (36 - c) : Nat) : Int) by rw[Int.natCast_pow]; rfl]
   have hwr:∀ q:Nat,q<2 ^ 37→IntKind.u64.wrap (q:Int)=(q:Int):=fun q h=>bL (by omega) (by omega)
   exact hwr _ Xm
  have htl:iL p il c ||| 2 ^ (36 - c)<2 ^ 37:=Nat.or_lt_two_pow hr Xm
  rw[hsh,dx,orN (by omega) (by omega) (by omega)]
  have hstep:iL p il (c + 1)=match big p il (iL p il c ||| 2 ^ (36 - c)) with
   | true=>iL p il c
   | false=>iL p il c ||| 2 ^ (36 - c):=rfl
  generalize iL p il c ||| 2 ^ (36 - c)=t at *
  have ht2:t * t<2 ^ 74:=by
   have:t * t≤(2 ^ 37 - 1) * (2 ^ 37 - 1):=Nat.mul_le_mul (by omega) (by omega)
   omega
  have ht3:t * t * t<2 ^ 111:=by
   have:t * t * t≤(2 ^ 74 - 1) * (2 ^ 37 - 1):=Nat.mul_le_mul (by omega) (by omega)
   omega
  refine ho (by omega) fun M4 l4 k4 d4 v4=>?_
  refine ho (by omega) fun M5 l5 k5 d5 v5=>?_
  refine ht d4 d5 (by rw[v4,v5]; omega) fun M6 l6 k6 d6 v6=>?_
  rw[v4,v5] at v6
  have zl:(dY.row (List.replicate 8 0)).length=8:=by rw[dR,List.length_replicate]
  refine Dm (K:=fun t Lt=>_) (z:=dY.row (List.replicate 8 0)) 8 zl (by rw[dR,d6.1]) (dY.bX _) fun M7 k7 n7 l7=>?_
  refine fF (dY.row (List.replicate 8 0)) fun M8 k8 n8 e8=>?_
  have n78:=k8.az n7 l7 (by simp)
  rw[bT,bL (by omega) (by omega),bO (i:=4) (by rfl) (by decide),Cc n8 (by decide)]
  have k07:aa [] M M7:=k3.trans (k4.trans (k5.trans (k6.trans k7)))
  have k37:aa [] M3 M7:=k4.trans (k5.trans (k6.trans k7))
  have n9:(M8.put M7.next (.row (dY.row ((List.replicate 8 0).set 4 p)) false T 0)).heap M7.next=some (.row (dY.row ((List.replicate 8 0).set 4 p)) false T 0):=aG _
  have k9:aa [] M7 (M8.put M7.next (.row (dY.row ((List.replicate 8 0).set 4 p)) false T 0)):=k8.new _ (Nat.le_refl _)
  have n79:=k9.az n7 l7 (by simp)
  have e9:(M8.put M7.next (.row (dY.row ((List.replicate 8 0).set 4 p)) false T 0)).next=M7.next + 1:=e8
  generalize M8.put M7.next (.row (dY.row ((List.replicate 8 0).set 4 p)) false T 0)=M9 at *
  rw[gz]
  refine fV (fun xs M10=>xs=[]∧aa [] M M10∧∃ la lb:List Nat,M10.heap M6.next=some (.row (dY.row la) false T 0)∧M10.heap M7.next=some (.row (dY.row lb) false T 0)∧rH la∧rH lb∧decide (val la > val lb)=big p il t) ?_ ?_
  ·rintro xs M10 ⟨rfl,k10,la,lb,na,nb,da,db,hbig⟩
   rw[dX na (by rw[dR,da.1]),dX nb (by rw[dR,db.1])]
   refine hab da db fun M11 k11=>?_
   rw[eU,hbig]
   refine aS (fun h=>?_) fun h=>?_
   ·have:big p il t=false:=by simpa using h
    rw[this] at hstep
    exact hJ _ _ ⟨by rw[hstep],k10.trans k11⟩
   ·have:big p il t=true:=by simpa using h
    rw[this] at hstep
    exact hJ _ _ ⟨by rw[hstep],k10.trans k11⟩
  ·intro J2 hJ2
   refine aS (fun hcu=>?_) fun hcu=>?_
   ·subst hcu
    rw[dX n79 (by rw[dR,d6.1])]
    refine ho (by omega) fun M10 l10 k10 d10 v10=>?_
    have XQ:=k10.az n79 (by omega) (by simp)
    have Zk:=k10.az n9 (by omega) (by simp)
    rw[dX XQ (by rw[dR,d6.1])]
    refine⟨rfl, ?_⟩
    refine ht d6 d10 (by rw[v6,v10]; omega) fun M11 l11 k11 d11 v11=>?_
    rw[v6,v10] at v11
    have ZR:=k11.az XQ (Nat.lt_of_lt_of_le (by omega:M6.next<M9.next) k10.next) (by simp)
    have aag:=k11.az Zk (Nat.lt_of_lt_of_le (by omega:M7.next<M9.next) k10.next) (by simp)
    rw[kH ZR (by rw[dR,d11.1]) (by rw[dR,d6.1]) (dY.bX _),jm]
    refine⟨dY.row (List.replicate 8 0),rfl, ?_⟩
    rw[kH (vS aag (by omega)) (by rw[dR,List.length_replicate]) (by rw[dR,List.length_set,List.length_replicate]) (dY.bX _),bT,bL (by omega) (by omega),bO (i:=6) (by rfl) (by decide),Cc (aG _) (by decide)]
    obtain⟨dw,vw⟩:=NI (p:=p) (i:=6) hp (by decide)
    refine hJ2 _ _ ⟨rfl, ?_,l11,(List.replicate 8 0).set 6 p, ?_,aG _,d11,dw, ?_⟩
    ·have n3x:=k37.next
     have n6x:M.next≤M6.next:=Nat.le_trans k3.next (Nat.le_trans k4.next (Nat.le_trans k5.next k6.next))
     have n7x:=k7.next
     exact(((k07.trans (k9.trans (k10.trans k11))).new _ n6x).new _ (by omega)).new _ (by omega)
    ·exact vS (vS (aG _) (by omega)) (by omega)
    ·unfold big
     rw[v11,vw,Nat.mul_comm (65536 ^ 6)]
   ·subst hcu
    obtain⟨dw,vw⟩:=NI (p:=p) (i:=4) hp (by decide)
    refine hJ2 _ _ ⟨rfl,k07.trans k9,l6,_,n79,n9,d6,dw, ?_⟩
    unfold big
    rw[v6,vw,Nat.mul_comm (65536 ^ 4)]
 ·have WB:c=37:=by have:=of_decide_eq_false h; omega
  subst WB
  rw[bT,wrap_u32]
  exact hQ M3 k3
theorem Tq:(jU.take 8).map (fun p=>((iL p false 37 % 4294967296:Nat) : Int))=hW:=by decide +kernel
theorem Tu:jU.map (fun p=>((iL p true 37 % 4294967296:Nat) : Int))=kW:=by decide +kernel
theorem XY:∀ p∈jU,p<1000:=by decide
theorem Gm {M:RM} {v:AV} {l:List Nat} (h:Sl JE M v l) {i:Nat} (hi:i<l.length) {K:AV→Prop} : (aZ v (N .i64 (i:Int)) 1 fun t=>ag M t K)=K (N .i64 (l[i] : Nat)):=by
 obtain⟨c,o,_,_,hix,hld⟩:=h.Om (i:Int) hi
 rw[hix,fJ,hld _ rfl]
 exact propext ⟨fun⟨v,e,k⟩=>by cases e; exact k,fun k=>⟨_,rfl,k⟩⟩
theorem MS {TI TU:Nat} {cp cr:au} (hp:Hy TI cp) (hr:OW cr) : IA TU fun args M Q=>args=[]∧qV cp TU cr M Q:=by
 intro M Q hQ
 refine⟨rfl, ?_⟩
 unfold qV
 refine hp fun pv M1 k1 hpv=>?_
 refine Dt ?_
 show aQ _ _ _ _
 rw[aN]
 have k2' : aa [] M1 (M1.push (.row [] false TU 0)):=(aa.refl _ _).push _
 have o2:Ow bB (M1.push (.row [] false TU 0)) M1.next TU (.slc M1.next 0 0 (.ex 0)) []:=Ow.lit bB M1
 generalize M1.push (.row [] false TU 0)=M2 at *
 refine Dt ?_
 show aQ _ _ _ _
 rw[aN]
 have k3' : aa [] M2 (M2.push (.row [] false TU 0)):=(aa.refl _ _).push _
 have o3:Ow bB (M2.push (.row [] false TU 0)) M2.next TU (.slc M2.next 0 0 (.ex 0)) []:=Ow.lit bB M2
 have o23:Ow bB (M2.push (.row [] false TU 0)) M1.next TU (.slc M1.next 0 0 (.ex 0)) []:=Own.keep o2 k3' (by simp)
 generalize M2.push (.row [] false TU 0)=M3 at *
 have k13:=k2'.trans k3'
 let F:Nat→Int:=fun p=>((iL p false 37 % 4294967296:Nat) : Int)
 let G:Nat→Int:=fun p=>((iL p true 37 % 4294967296:Nat) : Int)
 refine aM (fun m ys M4=>∃ (i:Nat) (av bv:AV),m=64 - i∧ys=[av,bv,N .i64 (i:Int)]∧i≤64∧aa [] M1 M4∧Ow bB M4 M1.next TU av ((jU.take (min i 8)).map F)∧Ow bB M4 M1.next TU bv ((jU.take i).map G)∧(∀ x∈ak av,x ∉ ak bv)) _
  ⟨0,_,_,rfl,rfl,by omega,k13,o23,Own.mono o3 k2'.next,fun x hx hm=>by
   simp[ak] at hx hm
   have:=(Own.blk o2 x (by simp[ak]; exact hx)).2
   omega⟩ ?_
 rintro next m ys M4 hnext ⟨i,av,bv,rfl,rfl,hi,k4,oa,ob,hd⟩
 simp only[aI,dH]
 have aal:Sl JE M4 pv jU:=aK.keep hpv k4 (by simp)
 rw[lJ 64 (by rfl)]
 refine aS (fun hc=>?_) fun hc=>?_
 ·have kU:i<64:=of_decide_eq_true hc
  have hil:i<jU.length:=by rw[xI]; exact kU
  have hpl:=XY jU[i] (List.getElem_mem hil)
  rw[gz]
  refine fV (fun xs M7=>∃ av' bv',xs=[av',bv']∧aa [] M1 M7∧Ow bB M7 M1.next TU av' ((jU.take (min (i + 1) 8)).map F)∧Ow bB M7 M1.next TU bv' ((jU.take (i + 1)).map G)∧(∀ x∈ak av',x ∉ ak bv')) ?_ ?_
  ·rintro xs M7 ⟨av',bv',rfl,k7,h1,h2,h3⟩
   simp only[aI,dH]
   rw[eT 1 (by omega) (by omega) (by rfl)]
   exact hnext _ _ _ (by omega) ⟨i + 1,av',bv',rfl,rfl,by omega,k7,h1,h2,h3⟩
  intro J hJ
  rw[gz]
  refine fV (fun xs M7=>∃ av',xs=[av']∧aa [] M1 M7∧Ow bB M7 M1.next TU av' ((jU.take (min (i + 1) 8)).map F)∧Ow bB M7 M1.next TU bv ((jU.take i).map G)∧(∀ x∈ak av',x ∉ ak bv)) ?_ ?_
  ·rintro xs M7 ⟨av',rfl,k7,h1,h2,h3⟩
   simp only[aI]
   have ZG:Sl JE M7 pv jU:=aK.keep hpv k7 (by simp)
   rw[Gm ZG hil]
   refine hr hpl fun M8 k8=>?_
   rw[iq (by rfl) (by rfl) (by rfl),aN]
   have h28:Ow bB M8 M1.next TU bv ((jU.take i).map G):=Own.keep h2 k8 (by simp)
   have h18:Ow bB M8 M1.next TU av' ((jU.take (min (i + 1) 8)).map F):=Own.keep h1 k8 (by simp)
   have k78:=k7.trans k8
   refine iw (E:=bB) (a:=G jU[i]) h28 k78.next (by decide) (by simp; omega) (by simp; omega) fun v9 M9 o9 k9 nx9 hv9=>?_
   refine hJ _ _ ⟨av',v9,rfl,aa.own k78 k9 (fun x hx=>(Own.blk h28 x hx).1),Own.keep h18 k9 h3, ?_,fun x hx hm=>?_⟩
   ·rw[List.take_succ_eq_append_getElem hil,List.map_append]
    exact o9
   ·rcases hv9 with rfl | h9
    ·exact h3 x hx hm
    ·have:=h9 x hm
     have:=(Own.blk h18 x hx).2
     omega
  ·intro J2 hJ2
   rw[lJ 8 (by rfl)]
   refine aS (fun hc8=>?_) fun hc8=>?_
   ·have hi8:i<8:=of_decide_eq_true hc8
    rw[Gm aal hil]
    refine hr hpl fun M5 k5=>?_
    rw[iq (by rfl) (by rfl) (by rfl),aN]
    have oa5:Ow bB M5 M1.next TU av ((jU.take (min i 8)).map F):=Own.keep oa k5 (by simp)
    have ob5:Ow bB M5 M1.next TU bv ((jU.take i).map G):=Own.keep ob k5 (by simp)
    have k45:=k4.trans k5
    refine iw (E:=bB) (a:=F jU[i]) oa5 k45.next (by decide) (by simp; omega) (by simp; omega) fun v6 M6 o6 k6 nx6 hv6=>?_
    refine hJ2 _ _ ⟨v6,rfl,aa.own k45 k6 (fun x hx=>(Own.blk oa5 x hx).1), ?_,Own.keep ob5 k6 (fun x hx hm=>hd x hm hx),fun x hx hm=>?_⟩
    ·rw[Nat.min_eq_left (by omega:i + 1≤8),List.take_succ_eq_append_getElem hil,List.map_append]
     rw[Nat.min_eq_left (by omega:i≤8)] at o6
     exact o6
    ·rcases hv6 with rfl | h6
     ·exact hd x hx hm
     ·have:=h6 x hx
      have:=(Own.blk ob5 x hm).2
      omega
   ·have hi8:¬ i<8:=of_decide_eq_false hc8
    refine hJ2 _ _ ⟨av,rfl,k4, ?_,ob,hd⟩
    rw[Nat.min_eq_right (by omega:8≤i + 1)]
    rw[Nat.min_eq_right (by omega:8≤i)] at oa
    exact oa
 ·have kU:i=64:=by have:=of_decide_eq_false hc; omega
  subst kU
  rw[Nat.min_eq_right (by omega:8≤64)] at oa
  have e1:(jU.take 8).map F=hW:=Tq
  have e2:(jU.take 64).map G=kW:=by
   rw[List.take_of_length_le (by rw[xI]; omega)]; exact Tu
  rw[e1] at oa
  rw[e2] at ob
  exact hQ av bv M4 (k1.trans k4) ((H9 oa (by decide)).mono k1.next) ((H9 ob (by decide)).mono k1.next)
end Go.Ab.Sha
