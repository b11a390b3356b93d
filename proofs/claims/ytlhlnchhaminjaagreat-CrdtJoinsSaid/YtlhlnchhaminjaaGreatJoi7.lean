/- Part 7 of the ground of the proofs of this seat (texts C19 to C21). By an AI agent. -/
import Derived.Test.YtlhlnchhaminjaaGreatJoi6
set_option maxRecDepth 10000
set_option linter.unusedVariables false
set_option linter.unusedSimpArgs false
namespace Go.Ab.Crw
open Go Go.Ab Go.Ab.aC
section
variable {α:Type} {R:nZ α} {M:RM} {S:Nat→Prop} {v u:AV} {xs ys:List α}
theorem iB.NE {base T bytes:Nat} {zs:List AV} {K:ai} (ho:iB R M base T v xs S) (hu:fT R M u ys S) (hb:base≤M.next) (hs:1≤R.size)
  (hd:∀ b∈aF v,¬ S b) (hn:(xs.length + ys.length) * bytes≤140737488355328) (hn2:xs.length + ys.length≤140737488355328)
  (hK:∀ v' M',iB R M' base T v' (xs++ys) S→ah (aF v) M M'→(v'=v∨∀ b∈aF v',M.next≤b)→K v' M') :
  appW T R.size bytes zs false v u M K:=by
 obtain ⟨ds,h1,h2⟩:=ho
 obtain ⟨cs,g1,g2,g3⟩:=hu
 have hl:cs.length=ys.length * R.size:=g1.length
 refine nI h1 hb hs (g1.kN zs) hl g3.one hn hn2 ?_
 intro v' M' q1 q2 q3 q4
 refine hK v' M' ⟨_,by rw [List.length_append]; exact q1,(h2.keep q2 hd).append (g3.keep q2 hd)⟩ q2 q4
end
def qj (w:List Ev) (i:Nat) (q:List Ev) : Prop:=(∀ e∈q,e∈w.take i)∧(q.Pairwise fun x y=>x.1.1≠y.1.1)∧q.length≤i
theorem qj.more {w q:List Ev} {i:Nat} (h:qj w i q) : qj w (i + 1) q :=
 ⟨fun e he=>List.mem_of_mem_take (i:=i) (by
  have:=h.1 e he
  rw [List.take_take,Nat.min_eq_left (by omega)]; exact this),h.2.1,by have:=h.2.2; omega⟩
theorem qj.add {w q:List Ev} {i:Nat} (h:qj w i q) (hw:w.Pairwise fun x y=>x.1.1≠y.1.1) (hi:i<w.length) : qj w (i + 1) (q++[w[i]]):=by
 refine ⟨fun e he=>?_, ?_, ?_⟩
 ·rw [List.take_succ_eq_append_getElem hi]
  rcases List.mem_append.1 he with he | he
  ·exact List.mem_append.2 (.inl (h.1 e he))
  ·exact List.mem_append.2 (.inr he)
 ·rw [List.pairwise_append]
  refine ⟨h.2.1,by simp,fun a ha b hb=>?_⟩
  rw [List.mem_singleton] at hb
  subst hb
  obtain ⟨k,hk,rfl⟩:=List.getElem_of_mem (h.1 a ha)
  rw [List.length_take] at hk
  rw [List.getElem_take]
  exact List.pairwise_iff_getElem.1 hw k i (by omega) hi (by omega)
 ·have:=h.2.2
  rw [List.length_append,List.length_singleton]; omega
structure P3 (T TE n0:Nat) (M:RM) (vs:Nat→AV) (qs:Nat→List Ev) : Prop where
 lt:n0 + 1≤M.next
 row:M.heap n0=some (.row [vs 0,vs 1,vs 2] false T 0)
 ow:∀ j<3,iB kW M (n0 + 1) TE (vs j) (qs j) (fun d=>d<n0)
 dis:∀ j<3,∀ k<3,j≠k→∀ d∈aF (vs j),d ∉ aF (vs k)
theorem P3.keep {T TE n0:Nat} {M M' : RM} {vs:Nat→AV} {qs:Nat→List Ev} (h:P3 T TE n0 M vs qs) (k:ah [] M M') : P3 T TE n0 M' vs qs :=
 ⟨Nat.le_trans h.lt k.next,k.aO h.row h.lt (by simp),fun j hj=>(h.ow j hj).keep k (by simp) (by simp),h.dis⟩
theorem three {α:Type} {f:Nat→α} {j:Nat} (hj:j<3) : [f 0,f 1,f 2][j]?=some (f j):=by
 match j,hj with
 | 0,_=>rfl
 | 1,_=>rfl
 | 2,_=>rfl
theorem UQ {α:Type} {f:Nat→α} {j:Nat} (hj:j<3) (x:α) : [f 0,f 1,f 2].set j x=[(fun k=>if k=j then x else f k) 0,(fun k=>if k=j then x else f k) 1,(fun k=>if k=j then x else f k) 2]:=by
 match j,hj with
 | 0,_=>rfl
 | 1,_=>rfl
 | 2,_=>rfl
theorem P3.app {T TE n0:Nat} {M:RM} {vs:Nat→AV} {qs:Nat→List Ev} (h:P3 T TE n0 M vs qs) {j:Nat} (hj:j<3) {e:l7} {kv:AV} {ks:List aC} (hkv:Sl dz M kv ks) (hkb:∀ d∈aF kv,d<n0) (hl:(qs j).length≤1000)
  {K:RM→Prop} (hK:∀ M' vs' qs',P3 T TE n0 M' vs' qs'→(∀ k,qs' k=if k=j then qs k++[(e,ks)] else qs k)→M.next≤M'.next→(∀ c,c<n0→M'.heap c=M.heap c)→M'.base=M.base→K M') :
  (appW TE 7 96 [(N .i64 0),(N .u64 0),(N .i64 0),(St []),(St []),(St []),(.sc (.slice none 0 0))] false (vs j) (.slc M.next 0 1 (.ex 1)) (M.push (.row (eU e kv) false TE 0)) fun t57 M_11=>mJ (.ptr n0 0) (N .i64 (j:Int)) 3 1 fun t58=>aN M_11 t58 t57 1 fun M_12=>K M_12):=by
 have hb:=(h.ow j hj).blk
 have n0lt:=h.lt
 refine iB.app (R:=kW) (h.ow j hj) (PI hkv hkb) h.lt (by decide) (fun d hd hlt=>by have:=(hb d hd).1; omega) (fun d hd=>by omega) (by omega) (by omega) ?_
 intro v' M6 o6 k6 n6 hv' _
 have hrow:=k6.aO h.row h.lt (fun hm=>by have:=(hb _ hm).1; omega)
 rw [gW]
 refine ⟨by omega,by omega, ?_⟩
 rw [Int.toNat_natCast,Nat.mul_one,Nat.zero_add,Es _ hrow (by simpa using hj) o6.cells o6.one (UQ hj v')]
 have k7:ah [n0] M6 (M6.put n0 (.row [(fun k=>if k=j then v' else vs k) 0,(fun k=>if k=j then v' else vs k) 1,(fun k=>if k=j then v' else vs k) 2] false T 0)):=(ah.refl _ _).put _ (.inr (by simp))
 have h7:=aZ (M:=M6) (b:=n0) (.row [(fun k=>if k=j then v' else vs k) 0,(fun k=>if k=j then v' else vs k) 1,(fun k=>if k=j then v' else vs k) 2] false T 0)
 refine hK _ (fun k=>if k=j then v' else vs k) (fun k=>if k=j then qs k++[(e,ks)] else qs k) ⟨?_,h7,fun k hk=>?_,fun a ha c hc hac d hd hd'=>?_⟩ (fun k=>rfl) ?_ (fun c hc=>?_) ?_
 ·rw [lY]; omega
 ·by_cases hkj:k=j
  ·subst hkj
   simp only [if_true]
   refine o6.keep k7 (fun b hb hlt=>by simp at hb; omega) (fun b hb hm=>?_)
   simp at hm
   have:=(o6.blk b hb).1
   omega
  ·simp only [if_neg hkj]
   refine ((h.ow k hk).keep k6 (fun b hb' hlt=>by have:=(hb b hb').1; omega) (fun b hb'=>h.dis k hk j hj hkj b hb')).keep k7 (fun b hb' hlt=>by simp at hb'; omega) (fun b hb' hm=>?_)
   simp at hm
   have:=((h.ow k hk).blk b hb').1
   omega
 ·have key:∀ k,k<3→k≠j→∀ d∈aF (vs k),d ∉ aF v':=fun k hk hkj d hd hm=>by
   rcases hv' with hv' | hv'
   ·rw [hv'] at hm
    exact h.dis k hk j hj hkj d hd hm
   ·have:=hv' d hm
    have:=((h.ow k hk).blk d hd).2
    omega
  by_cases h1:a=j
  ·rw [if_pos h1] at hd
   rw [if_neg (by omega)] at hd'
   exact key c hc (by omega) d hd' hd
  ·rw [if_neg h1] at hd
   by_cases h2:c=j
   ·rw [if_pos h2] at hd'
    exact key a ha h1 d hd hd'
   ·rw [if_neg h2] at hd'
    exact h.dis a ha c hc hac d hd hd'
 ·rw [lY]; omega
 ·show (if c=n0 then _ else M6.heap c)=_
  rw [if_neg (by omega)]
  exact k6.heap c (by omega) (fun hm=>by have:=(hb c hm).1; omega)
 ·exact k6.base
end Go.Ab.Crw
set_option maxRecDepth 10000
set_option linter.unusedVariables false
set_option linter.unusedSimpArgs false
namespace Go.Ab.Crw
open Go Go.Ab Go.Ab.aC
theorem Sep.fresh {n t u:Nat} {B C:Nat→Prop} (ht:n≤t) (hB:∀ d,B d→n≤d) (hu:u<n) (hC:∀ d,C d→d<n) : Sep t B u C :=
 ⟨⟨by omega,fun h=>by have:=hB _ h; omega⟩,⟨by omega,fun h=>by have:=hC _ h; omega⟩,fun d hd hc=>by have:=hB _ hd; have:=hC _ hc; omega⟩
abbrev Obj:=Nat × (Nat→Prop) × jX
structure kC (TS T:Nat) (M0 M:RM) (os:List Obj) : Prop where
 k:ah [] M0 M
 sh:∀ o∈os,SH TS T M o.1 o.2.1 o.2.2
 sep:os.Pairwise fun a b=>Sep a.1 a.2.1 b.1 b.2.1
 low:∀ o∈os,M0.next≤o.1∧∀ d,o.2.1 d→M0.next≤d
section
variable {TS T:Nat} {M0 M M' : RM} {os:List Obj} {t:Nat} {B B' : Nat→Prop} {s s' : jX}
theorem kC.nil (M0:RM) : kC TS T M0 M0 []:=⟨ah.refl _ _,by simp,.nil,by simp⟩
theorem kC.ma (F:kC TS T M0 M os) (k:ah [] M M') : kC TS T M0 M' os:=⟨F.k.trans k,fun o ho=>(F.sh o ho).ma k,F.sep,F.low⟩
theorem kC.cons (F:kC TS T M0 M os) (k:ah [] M M') (h:SH TS T M' t B s) (ht:M.next≤t) (hB:∀ d,B d→M.next≤d) : kC TS T M0 M' ((t,B,s) :: os):=by
 have n0:=F.k.next
 refine ⟨F.k.trans k,fun o ho=>?_,List.pairwise_cons.2 ⟨fun o ho=>?_,F.sep⟩,fun o ho=>?_⟩
 ·rcases List.mem_cons.1 ho with rfl | ho
  ·exact h
  ·exact (F.sh o ho).ma k
 ·exact Sep.fresh ht hB (F.sh o ho).st.lt (F.sh o ho).lo
 ·rcases List.mem_cons.1 ho with rfl | ho
  ·exact ⟨by show _≤t; omega,fun d hd=>by have:=hB d hd; omega⟩
  ·exact F.low o ho
theorem kC.perm {os' : List Obj} (F:kC TS T M0 M os) (p:os.Perm os') : kC TS T M0 M os' :=
 ⟨F.k,fun o ho=>F.sh o (p.mem_iff.2 ho),p.pairwise F.sep (fun {a b} h=>h.symm),fun o ho=>F.low o (p.mem_iff.2 ho)⟩
theorem kC.head {r:Nat} (F:kC TS T M0 M ((t,B,s) :: os)) (h:SH TS T M' t B' s') (hB:∀ d,B' d→B d∨M.next≤d) (k:ah [t,r] M M') (hr:r=t∨B r) : kC TS T M0 M' ((t,B',s') :: os):=by
 have hp:=List.pairwise_cons.1 F.sep
 have hl:=F.low (t,B,s) (by simp)
 have n0:=F.k.next
 refine ⟨F.k.bi k (fun d hd=>.inl ?_),fun o ho=>?_,List.pairwise_cons.2 ⟨fun o ho=>?_,hp.2⟩,fun o ho=>?_⟩
 ·simp only [List.mem_cons,List.not_mem_nil,or_false] at hd
  rcases hd with rfl | rfl
  ·exact hl.1
  ·rcases hr with rfl | hr
   ·exact hl.1
   ·exact hl.2 _ hr
 ·rcases List.mem_cons.1 ho with rfl | ho
  ·exact h
  ·exact (F.sh o (by simp [ho])).keep k (hp.1 o ho) hr
 ·have ho':=F.sh o (by simp [ho])
  exact (hp.1 o ho).grow ho'.st.lt ho'.lo hB
 ·rcases List.mem_cons.1 ho with rfl | ho
  ·exact ⟨hl.1,fun d hd=>by
    rcases hB d hd with h | h
    ·exact hl.2 d h
    ·omega⟩
  ·exact F.low o (by simp [ho])
theorem kC.h0 (F:kC TS T M0 M ((t,B,s) :: os)) : SH TS T M t B s:=F.sh (t,B,s) (by simp)
theorem kC.s0 (F:kC TS T M0 M ((t,B,s) :: os)) : ∀ o∈os,Sep t B o.1 o.2.1:=(List.pairwise_cons.1 F.sep).1
theorem kC.join {c:av} (hj:wu TS T c) (F:kC TS T M0 M ((t,B,s) :: os)) {u:Nat} {C:Nat→Prop} {r:jX} (hu:(u,C,r)∈os) {k l:Nat} (hk:SI k s.1) (hl:SI l r.1) (hk4:k≤4096) (hl4:l≤4096) (hlen:s.2.length + r.2.length≤50000) (us:nP s.2) (ur:nP r.2) {Q:ai}
  (hQ:∀ v M' B',kC TS T M0 M' ((t,B',(iM s.1 r.1,ny s.1 r.1 s.2 r.2)) :: os)→Q v M') : c [.ptr t 0,.ptr u 0] M Q :=
 aaq hj F.h0 (F.sh (u,C,r) (by simp [hu])) (F.s0 _ hu) hk hl hk4 hl4 hlen us ur fun v M' B' x hx h hB k=>hQ v M' B' (F.head h hB k (.inr hx))
theorem kC.self {c:av} (hj:wu TS T c) (F:kC TS T M0 M ((t,B,s) :: os)) {k:Nat} (hk:SI k s.1) (hk4:k≤4096) (hlen:s.2.length + s.2.length≤50000) (us:nP s.2) {Q:ai}
  (hQ:∀ v M' B',kC TS T M0 M' ((t,B',(iM s.1 s.1,ny s.1 s.1 s.2 s.2)) :: os)→Q v M') : c [.ptr t 0,.ptr t 0] M Q :=
 hj F.h0.st F.h0.st (fun _=>⟨rfl,rfl⟩) (fun h=>absurd rfl h) F.h0.st.nb F.h0.st.nb hk hk hk4 hk4 hlen us us fun x M' hx h k=>hQ _ M' _ (F.head (SH.of h) (fun d hd=>hd.1) k (.inr hx))
theorem kC.copy {c:av} (hc:EF TS T c) (F:kC TS T M0 M os) {u:Nat} {C:Nat→Prop} {r:jX} (hu:(u,C,r)∈os) {k:Nat} (hk:SI k r.1) (hk4:k≤4096) (hl:r.2.length≤1000000) {Q:ai}
  (hQ:∀ t M' B',kC TS T M0 M' ((t,B',r) :: os)→Q (.ptr t 0) M') : c [.ptr u 0] M Q :=
 hc (F.sh (u,C,r) hu).st hk hk4 hl fun a M' ha h k=>hQ a M' _ (F.cons k ⟨h,fun d hd=>by have:=h.lt; omega⟩ ha fun d hd=>hd.1)
theorem kC.state {c:av} (hs:Io TS T c) (F:kC TS T M0 M os) {v:AV} {l:List Ev} {n:Int} {m:Nat} {back:Bool} (hv:fT kW M v l (fun d=>d<M.next)) (hl:l.length≤60) (hn:PG .i64 n 1023=(m:Int)) (hm:m≤1023) {Q:ai}
  (hQ:∀ t M' B',kC TS T M0 M' ((t,B',ko (jJ l m back)) :: os)→Q (.ptr t 0) M') : c [v,N .i64 n,Bo back] M Q :=
 hs hv hl hn hm fun t M' ht h k=>hQ t M' _ (F.cons k ⟨h,fun d hd=>hd.2.1⟩ ht fun d hd=>hd.1)
end
end Go.Ab.Crw
set_option maxRecDepth 10000
set_option linter.unusedVariables false
set_option linter.unusedSimpArgs false
namespace Go.Ab.Crw
open Go Go.Ab Go.Ab.aC
def TG (B:Base) (c:av) : Prop:=∀ {M:RM} {v u:AV} {l:List Ev} {who:List Int} {Q:ai},M.base=B→fT kW M v l (fun d=>d<M.next)→Sl INT M u who→(∀ M',Q (Bo true) M')→c [v,u] M Q
theorem JD {B:Base} {TS T TE TA TB:Nat} {ca co cs cc cj ci cq cw:av} (ha:Pn B ca) (ho:WU TE co) (hs:Io TS T cs) (hc:EF TS T cc) (hj:wu TS T cj) (hi:Vu TS T ci) (hq:JP TS T cq) (hw:xP TS T TB cw) :
  TG B fun args M Q=>∃ a0 a1,args=[a0,a1]∧yS ca co TA TE cs cc cj ci cq cw a0 a1 M Q:=by
 intro M v u l who Q hM hv hu hQ
 refine ⟨_,_,rfl, ?_⟩
 unfold yS
 simp only [gM,fF,dY,fH,cZ]
 refine ha hM ?_
 rw [bO,Bool.not_true,bK,hv.len,iC]
 refine aI (fun _=>hQ _) (fun hlen=>?_)
 have hlen:¬ (l.length:Int) > 50:=of_decide_eq_false hlen
 refine ho hv (by omega) fun w M1 hw1 k1=>?_
 have hwl:(oG l).length≤50:=by have:=Qs l; omega
 have hwg:=BZ l
 have hwo:=MQ l
 generalize oG l=wl at *
 have n1:=k1.next
 rw [aX]
 have k2:ah [] M1 (M1.push (.row [(.sc (.slice none 0 0)),(.sc (.slice none 0 0)),(.sc (.slice none 0 0))] false TA 0)):=(ah.refl _ _).push _
 have p2:P3 TA TE M1.next (M1.push (.row [(.sc (.slice none 0 0)),(.sc (.slice none 0 0)),(.sc (.slice none 0 0))] false TA 0)) (fun _=>eG) (fun _=>[]) :=
  ⟨by simp [RM.push],RM.aR _,fun j hj=>iB.nil,fun j _ k _ _ d hd=>by simp [aF] at hd⟩
 have b2:(M1.push (.row [(.sc (.slice none 0 0)),(.sc (.slice none 0 0)),(.sc (.slice none 0 0))] false TA 0)).base=M1.base:=rfl
 refine aJ (fun z ys M3=>∃ (i:Nat) (vs:Nat→AV) (qs:Nat→List Ev),z=wl.length - i∧ys=[N .i64 (i:Int)]∧i≤wl.length∧P3 TA TE M1.next M3 vs qs∧ah [] M1 M3∧∀ j<3,qj wl i (qs j)) _
  ⟨0,_,_,rfl,rfl,Nat.zero_le _,p2,k2,fun j _=>⟨by simp,.nil,by simp⟩⟩ ?_
 rintro next z ys M3 hnext ⟨i,vs,qs,rfl,rfl,hil,p3,k3,hp3⟩
 dsimp only [aa]
 have hw3:=hw1.keep k3 (by simp)
 rw [hw3.len,dX]
 refine aI (fun hlt=>?_) (fun hge=>?_)
 ·have hlt:i<wl.length:=of_decide_eq_true hlt
  refine bn (fun zs M'=>∃ vs' qs',zs=[]∧P3 TA TE M1.next M' vs' qs'∧ah [] M1 M'∧∀ j<3,qj wl (i + 1) (qs' j)) ?_ ?_
  ·rintro zs M' ⟨vs',qs',rfl,p',k',h'⟩
   rw [add1 (by omega)]
   exact hnext _ _ _ (by omega) ⟨i + 1,vs',qs',rfl,rfl,by omega,p',k',h'⟩
  intro J hJ
  refine bn (fun zs M'=>∃ k:Int,zs=[N .i64 k]∧M'=M3) ?_ ?_
  ·rintro zs M' ⟨k,rfl,rfl⟩
   dsimp only [aa]
   refine aJ (fun z ys M4=>∃ (j:Nat) (vs' : Nat→AV) (qs' : Nat→List Ev),z=3 - j∧ys=[N .i64 (j:Int)]∧j≤3∧P3 TA TE M1.next M4 vs' qs'∧ah [] M1 M4∧(∀ a<3,a<j→qj wl (i + 1) (qs' a))∧(∀ a<3,j≤a→qj wl i (qs' a))) _
    ⟨0,vs,qs,rfl,rfl,by omega,p3,k3,fun a _ h=>by omega,fun a h _=>hp3 a h⟩ ?_
   rintro next2 z ys M4 hnext2 ⟨j,vs4,qs4,rfl,rfl,hj,p4,k4,hd4,ht4⟩
   dsimp only [aa]
   rw [bL]
   refine aI (fun hlt2=>?_) (fun hge2=>?_)
   ·have hlt2:j<3:=by
     have:(j:Int)<3:=of_decide_eq_true hlt2
     omega
    refine bn (fun zs M'=>∃ vs' qs',zs=[]∧P3 TA TE M1.next M' vs' qs'∧ah [] M1 M'∧(∀ a<3,a<j + 1→qj wl (i + 1) (qs' a))∧(∀ a<3,j + 1≤a→qj wl i (qs' a))) ?_ ?_
    ·rintro zs M' ⟨vs',qs',rfl,p',k',h1,h2⟩
     rw [add1 (by omega)]
     exact hnext2 _ _ _ (by omega) ⟨j + 1,vs',qs',rfl,rfl,by omega,p',k',h1,h2⟩
    intro J9 hJ9
    rw [eX,dx (by omega) (by omega),wm]
    refine ⟨by omega, ?_⟩
    rw [Bj,di]
    refine aI (fun _=>?_) (fun _=>?_)
    ·rw [gW]
     refine ⟨by omega,by omega, ?_⟩
     rw [Int.toNat_natCast,Nat.mul_one,Nat.zero_add,ak p4.row (three hlt2)]
     obtain ⟨b,o,kv,hidx,hl7,_,hkv,hkb⟩:=Ih (hw1.keep k4 (by simp)) hlt
     rw [hidx,hl7,je (x:=.agg (eU wl[i].1 kv)) (size:=7) rfl (Er hkv) rfl,iV]
     refine p4.app hlt2 hkv hkb (by have:=(ht4 j hlt2 (Nat.le_refl _)).2.2; omega) fun M' vs' qs' p' hqs' hn' hh' hb'=>?_
     refine hJ9 _ _ ⟨vs',qs',rfl,p',⟨hb'.trans k4.base,Nat.le_trans k4.next hn',fun c hc hcb=>by rw [hh' c hc]; exact k4.heap c hc hcb⟩,fun a ha haj=>?_,fun a ha haj=>?_⟩
     ·rw [hqs']
      by_cases haj2:a=j
      ·subst haj2
       rw [if_pos rfl]
       exact (ht4 a ha (Nat.le_refl _)).add hwo hlt
      ·rw [if_neg haj2]
       exact hd4 a ha (by omega)
     ·rw [hqs',if_neg (by omega)]
      exact ht4 a ha (by omega)
    ·refine hJ9 _ _ ⟨vs4,qs4,rfl,p4,k4,fun a ha haj=>?_,fun a ha haj=>ht4 a ha (by omega)⟩
     rcases Nat.lt_or_ge a j with h | h
     ·exact hd4 a ha h
     ·exact (ht4 a ha h).more
   ·have hje:j=3:=by
     have:¬ (j:Int)<3:=of_decide_eq_false hge2
     omega
    subst hje
    exact hJ _ _ ⟨vs4,qs4,rfl,p4,k4,fun a ha=>hd4 a ha ha⟩
  ·intro J3 hJ3
   have hu3:Sl INT M3 u who:=aM.keep (aM.keep hu k1 (by simp)) k3 (by simp)
   rw [aM.len hu3,dX]
   refine aI (fun hlt2=>?_) (fun hge2=>?_)
   ·have hlt2:i<who.length:=of_decide_eq_true hlt2
    obtain ⟨b,o,_,_,hidx,hcell⟩:=Sl.qX (E:=INT) (i:=i) hu3 (i:Int) hlt2 rfl rfl
    rw [hidx,fu,hcell (N .i64 who[i]) rfl]
    exact ⟨_,rfl,hJ3 _ _ ⟨_,rfl,rfl⟩⟩
   ·exact hJ3 _ _ ⟨0,rfl,rfl⟩
 have hie:i=wl.length:=by
  have:¬ i<wl.length:=of_decide_eq_false hge
  omega
 subst hie
 clear hnext hge hil p2 k2 b2
 -- the parts
 have hP:∀ j<3,(∀ e∈qs j,e∈wl)∧((qs j).Pairwise fun x y=>x.1.1≠y.1.1)∧(qs j).length≤50:=fun j hj=>by
  obtain ⟨h1,h2,h3⟩:=hp3 j hj
  rw [List.take_length] at h1
  exact ⟨h1,h2,by omega⟩
 have hg:∀ j<3,∀ e∈qs j,dM e.1 e.2=true:=fun j hj e he=>hwg e ((hP j hj).1 e he)
 have n3:=p3.lt
 have hsl:∀ j<3,fT kW M3 (vs j) (qs j) (fun d=>d<M3.next):=fun j hj=>(((p3.ow j hj).lt).mono (fun d hd=>hd.2)).UW (fun d _ h=>h)
 have hdl:(bZ wl).length≤3250:=by have:=Hl hwg; omega
 have F0:kC TS T M3 M3 []:=kC.nil M3
 rw [gW]
 refine ⟨by omega,by omega, ?_⟩
 rw [show (0:Int).toNat * 1=0 from rfl,Nat.add_zero,ak p3.row (three (f:=vs) (j:=0) (by omega))]
 refine F0.state hs (m:=0) (hsl 0 (by omega)) (by have:=(hP 0 (by omega)).2.2; omega) rfl (by omega) fun ta M4 Ba F1=>?_
 rw [gW]
 refine ⟨by omega,by omega, ?_⟩
 rw [show 0 + (1:Int).toNat * 1=1 from rfl,ak (p3.keep F1.k).row (three (f:=vs) (j:=1) (by omega))]
 refine F1.state hs (m:=1) (((hsl 1 (by omega)).keep F1.k (by simp)).mono (fun d hd=>by have:=F1.k.next; omega)) (by have:=(hP 1 (by omega)).2.2; omega) rfl (by omega) fun tb M5 Bb F2=>?_
 rw [gW]
 refine ⟨by omega,by omega, ?_⟩
 rw [show 0 + (2:Int).toNat * 1=2 from rfl,ak (p3.keep F2.k).row (three (f:=vs) (j:=2) (by omega))]
 refine F2.state hs (m:=2) (((hsl 2 (by omega)).keep F2.k (by simp)).mono (fun d hd=>by have:=F2.k.next; omega)) (by have:=(hP 2 (by omega)).2.2; omega) rfl (by omega) fun tc M6 Bc F3=>?_
 have chA:Ch (qs 0) (ko (jJ (qs 0) 0 false)):=Ch.Kz (hg 0 (by omega)) (hP 0 (by omega)).2.1 (by have:=(hP 0 (by omega)).2.2; omega)
 have chB:Ch (qs 1) (ko (jJ (qs 1) 1 true)):=Ch.Kz (hg 1 (by omega)) (hP 1 (by omega)).2.1 (by have:=(hP 1 (by omega)).2.2; omega)
 have chC:Ch (qs 2) (ko (jJ (qs 2) 2 false)):=Ch.Kz (hg 2 (by omega)) (hP 2 (by omega)).2.1 (by have:=(hP 2 (by omega)).2.2; omega)
 generalize ko (jJ (qs 0) 0 false)=sa at *
 generalize ko (jJ (qs 1) 1 true)=sb at *
 generalize ko (jJ (qs 2) 2 false)=sc at *
 have hcons:∀ {l m:List Ev},(∀ e∈l,e∈wl)→(∀ e∈m,e∈wl)→yx (l++m):=fun h h'=>(FV hwo).sub fun e he=>by
  rcases List.mem_append.1 he with he | he
  ·exact h e he
  ·exact h' e he
 have jn:∀ {l m:List Ev} {s t:jX},Ch l s→Ch m t→(∀ e∈l,e∈wl)→(∀ e∈m,e∈wl)→Ch (l++m) (iM s.1 t.1,ny s.1 t.1 s.2 t.2):=fun h h' g g' =>
  h.join h' (hcons g g') (D:=bZ wl) (by omega) (Gm g) (Gm g')
 have ap:∀ {l m:List Ev},(∀ e∈l,e∈wl)→(∀ e∈m,e∈wl)→∀ e∈l++m,e∈wl:=fun h h' e he=>by
  rcases List.mem_append.1 he with he | he
  ·exact h e he
  ·exact h' e he
 have si:∀ {l:List Ev} {s:jX},Ch l s→(∀ e∈l,e∈wl)→SI (bZ wl).length s.1:=fun h g=>h.siD (Gm g)
 have ln:∀ {l:List Ev} {s:jX},Ch l s→(∀ e∈l,e∈wl)→s.2.length≤50:=fun h g=>Nat.le_trans (h.len g) (by omega)
 have gA:=(hP 0 (by omega)).1
 have gB:=(hP 1 (by omega)).1
 have gC:=(hP 2 (by omega)).1
 -- x
 refine F3.copy hc (u:=ta) (C:=Ba) (r:=sa) (by simp) (si chA gA) (by omega) (by have:=ln chA gA; omega) fun tx M7 Bx F4=>?_
 refine F4.join hj (u:=tb) (C:=Bb) (r:=sb) (by simp) (si chA gA) (si chB gB) (by omega) (by omega) (by have:=ln chA gA; have:=ln chB gB; omega) chA.up chB.up fun _ M8 Bx2 F5=>?_
 have chAB:=jn chA chB gA gB
 have gAB:=ap gA gB
 generalize (iM sa.1 sb.1,ny sa.1 sb.1 sa.2 sb.2)=sab at *
 refine F5.join hj (u:=tc) (C:=Bc) (r:=sc) (by simp) (si chAB gAB) (si chC gC) (by omega) (by omega) (by have:=ln chAB gAB; have:=ln chC gC; omega) chAB.up chC.up fun _ M9 Bx3 F6=>?_
 have chX:=jn chAB chC gAB gC
 have gX:=ap gAB gC
 generalize (iM sab.1 sc.1,ny sab.1 sc.1 sab.2 sc.2)=sx at *
 -- y and z
 refine F6.copy hc (u:=tc) (C:=Bc) (r:=sc) (by simp) (si chC gC) (by omega) (by have:=ln chC gC; omega) fun ty M10 By F7=>?_
 refine F7.copy hc (u:=tb) (C:=Bb) (r:=sb) (by simp) (si chB gB) (by omega) (by have:=ln chB gB; omega) fun tz M11 Bz F8=>?_
 refine F8.join hj (u:=ta) (C:=Ba) (r:=sa) (by simp) (si chB gB) (si chA gA) (by omega) (by omega) (by have:=ln chA gA; have:=ln chB gB; omega) chB.up chA.up fun _ M12 Bz2 F9=>?_
 have chBA:=jn chB chA gB gA
 have gBA:=ap gB gA
 generalize (iM sb.1 sa.1,ny sb.1 sa.1 sb.2 sa.2)=sba at *
 have F10:=F9.perm (List.Perm.swap _ _ _)
 refine F10.join hj (u:=tz) (C:=Bz2) (r:=sba) (by simp) (si chC gC) (si chBA gBA) (by omega) (by omega) (by have:=ln chC gC; have:=ln chBA gBA; omega) chC.up chBA.up fun _ M13 By2 F11=>?_
 have chY1:=jn chC chBA gC gBA
 have gY1:=ap gC gBA
 generalize (iM sc.1 sba.1,ny sc.1 sba.1 sc.2 sba.2)=sy1 at *
 refine F11.join hj (u:=tz) (C:=Bz2) (r:=sba) (by simp) (si chY1 gY1) (si chBA gBA) (by omega) (by omega) (by have:=ln chY1 gY1; have:=ln chBA gBA; omega) chY1.up chBA.up fun _ M14 By3 F12=>?_
 have chY2:=jn chY1 chBA gY1 gBA
 have gY2:=ap gY1 gBA
 generalize (iM sy1.1 sba.1,ny sy1.1 sba.1 sy1.2 sba.2)=sy2 at *
 refine F12.self hj (si chY2 gY2) (by omega) (by have:=ln chY2 gY2; omega) chY2.up fun _ M15 By4 F13=>?_
 have chY:=jn chY2 chY2 gY2 gY2
 have gY:=ap gY2 gY2
 generalize (iM sy2.1 sy2.1,ny sy2.1 sy2.1 sy2.2 sy2.2)=sy at *
 -- all of them
 rw [Tn,iV]
 have k16:ah [] M15 (M15.push (.row [] false TE 0)):=(ah.refl _ _).push _
 have o16:iB kW (M15.push (.row [] false TE 0)) M15.next TE (.slc M15.next 0 0 (.ex 0)) [] (fun d=>d<M15.next):=⟨[],Own.lit M15 (Nat.le_refl _),.nil⟩
 have n16:M15.next≤(M15.push (.row [] false TE 0)).next:=k16.next
 generalize M15.push (.row [] false TE 0)=M16 at *
 have n15:=F13.k.next
 have hsl' : ∀ {M' : RM},ah [] M15 M'→∀ j<3,fT kW M' (vs j) (qs j) (fun d=>d<M15.next):=fun k j hj=>((((hsl j hj).keep F13.k (by simp)).keep k (by simp))).mono (fun d hd=>by omega)
 have pp:∀ {M' : RM},ah [] M15 M'→P3 TA TE M1.next M' vs qs:=fun k=>p3.keep (F13.k.trans k)
 have hq0:=(hP 0 (by omega)).2.2
 have hq1:=(hP 1 (by omega)).2.2
 have hq2:=(hP 2 (by omega)).2.2
 have ld:∀ {M' : RM} {K:AV→Prop} (j:Nat),j<3→ah [] M15 M'→K (vs j)→aj M' (.ptr M1.next j) K:=fun j hj k hK=>by
  rw [ak (pp k).row (three hj)]; exact hK
 rw [gW]
 refine ⟨by omega,by omega, ?_⟩
 rw [show 0 + (0:Int).toNat * 1=0 from rfl]
 refine ld 0 (by omega) k16 ?_
 rw [gW]
 refine ⟨by omega,by omega, ?_⟩
 rw [show 0 + (1:Int).toNat * 1=1 from rfl]
 refine ld 1 (by omega) k16 ?_
 rw [gW]
 refine ⟨by omega,by omega, ?_⟩
 rw [show 0 + (2:Int).toNat * 1=2 from rfl]
 refine ld 2 (by omega) k16 ?_
 refine iB.NE (R:=kW) o16 (hsl' k16 0 (by omega)) n16 (by decide) (fun b hb h=>by have:=(o16.blk b hb).1; omega) (by simp; omega) (by simp; omega) fun v17 M17 o17 k17 _=>?_
 have kk17:ah [] M15 M17:=k16.bi k17 (fun d hd=>.inl (o16.blk d hd).1)
 refine ld 1 (by omega) kk17 ⟨rfl, ?_⟩
 refine ld 2 (by omega) kk17 ⟨rfl, ?_⟩
 rw [List.nil_append] at o17
 refine iB.NE (R:=kW) o17 (hsl' kk17 1 (by omega)) kk17.next (by decide) (fun b hb h=>by have:=(o17.blk b hb).1; omega) (by omega) (by omega) fun v18 M18 o18 k18 _=>?_
 have kk18:ah [] M15 M18:=kk17.bi k18 (fun d hd=>.inl (o17.blk d hd).1)
 refine ld 2 (by omega) kk18 ⟨rfl, ?_⟩
 refine iB.NE (R:=kW) o18 (hsl' kk18 2 (by omega)) kk18.next (by decide) (fun b hb h=>by have:=(o18.blk b hb).1; omega) (by rw [List.length_append]; omega) (by rw [List.length_append]; omega) fun v19 M19 o19 k19 _=>?_
 have kk19:ah [] M15 M19:=kk18.bi k19 (fun d hd=>.inl (o18.blk d hd).1)
 have n19:=kk19.next
 refine ho (((o19.lt).mono (fun d hd=>hd.2)).UW (fun d _ h=>h)) (by simp only [List.length_append]; omega) fun v20 M20 h20 k20=>?_
 have F20:=(F13.ma kk19).ma k20
 have kk20:=kk19.trans k20
 have gall:∀ e∈qs 0++qs 1++qs 2,dM e.1 e.2=true:=fun e he=>hwg e (gX e he)
 have call:yx (qs 0++qs 1++qs 2):=(FV hwo).sub gX
 have am:=WC gall call
 have ao:=MQ (qs 0++qs 1++qs 2)
 have ag:=BZ (qs 0++qs 1++qs 2)
 generalize oG (qs 0++qs 1++qs 2)=al at *
 have alen:al.length≤50:=by
  haveI:DecidableEq Ev:=fun a b=>Classical.propDecidable _
  have:=nG (xs:=al) (ys:=wl) (ao.imp fun {a b} h e=>h (by rw [e])) (fun x hx=>gX x ((am x).1 hx))
  omega
 have isX:sV al sx.1 sx.2:=⟨chX.mem fun e=>(am e).symm,ao,ag,by omega⟩
 have isY:sV al sy.1 sy.2:=⟨chY.mem fun e=>by
  rw [am]
  simp only [List.mem_append]
  grind,ao,ag,by omega⟩
 have isA:sV (qs 0) sa.1 sa.2:=⟨chA,(hP 0 (by omega)).2.1,hg 0 (by omega),by omega⟩
 have isB:sV (qs 1) sb.1 sb.2:=⟨chB,(hP 1 (by omega)).2.1,hg 1 (by omega),by omega⟩
 have isC:sV (qs 2) sc.1 sc.2:=⟨chC,(hP 2 (by omega)).2.1,hg 2 (by omega),by omega⟩
 have shX:SH TS T M20 tx Bx3 sx:=F20.sh (tx,Bx3,sx) (by simp)
 have shY:SH TS T M20 ty By4 sy:=F20.sh (ty,By4,sy) (by simp)
 have shA:SH TS T M20 ta Ba sa:=F20.sh (ta,Ba,sa) (by simp)
 have shB:SH TS T M20 tb Bb sb:=F20.sh (tb,Bb,sb) (by simp)
 have shC:SH TS T M20 tc Bc sc:=F20.sh (tc,Bc,sc) (by simp)
 refine hi shX.st h20 (fun d hd=>hd) isX fun M21 k21=>?_
 have kk21:=kk20.trans k21
 rw [bS]
 refine hi (shY.ma k21).st (h20.keep k21 (by simp)) (fun d hd=>Nat.lt_of_lt_of_le hd k21.next) isY fun M22 k22=>?_
 have kk22:=kk21.trans k22
 have k2022:=k21.trans k22
 dsimp only
 rw [dF,bS]
 obtain ⟨y1,y2,y3⟩:=chX.eq (chY.mem (m:=qs 0++qs 1++qs 2) fun e=>by
  simp only [List.mem_append]
  grind)
 refine hq (shX.ma k2022).st (shY.ma k2022).st (si chX gX) (si chY gY) (by omega) (by omega) (Nat.le_trans (ln chX gX) (by omega)) fun M23 k23=>?_
 rw [decide_eq_true y1,y2,y3]
 simp only [Bool.and_self]
 have kk23:=kk22.trans k23
 have k2023:=k2022.trans k23
 rw [dF,bS,gW]
 refine ⟨by omega,by omega, ?_⟩
 rw [show 0 + (0:Int).toNat * 1=0 from rfl]
 have hsl2:∀ {M' : RM},ah [] M15 M'→∀ j<3,fT kW M' (vs j) (qs j) (fun d=>d<M'.next):=fun k j hj=>(hsl' k j hj).mono (fun d hd=>Nat.lt_of_lt_of_le hd k.next)
 refine ld 0 (by omega) kk23 ?_
 refine hi (shA.ma k2023).st (hsl2 kk23 0 (by omega)) (fun d hd=>hd) isA fun M24 k24=>?_
 have kk24:=kk23.trans k24
 have k2024:=k2023.trans k24
 dsimp only
 rw [dF,bS,gW]
 refine ⟨by omega,by omega, ?_⟩
 rw [show 0 + (1:Int).toNat * 1=1 from rfl]
 refine ld 1 (by omega) kk24 ?_
 refine hi (shB.ma k2024).st (hsl2 kk24 1 (by omega)) (fun d hd=>hd) isB fun M25 k25=>?_
 have kk25:=kk24.trans k25
 have k2025:=k2024.trans k25
 dsimp only
 rw [dF,bS,gW]
 refine ⟨by omega,by omega, ?_⟩
 rw [show 0 + (2:Int).toNat * 1=2 from rfl]
 refine ld 2 (by omega) kk25 ?_
 refine hi (shC.ma k2025).st (hsl2 kk25 2 (by omega)) (fun d hd=>hd) isC fun M26 k26=>?_
 have k2026:=k2025.trans k26
 dsimp only
 rw [dF,fe]
 dsimp only
 rw [fe]
 dsimp only
 rw [fe]
 dsimp only
 rw [fe]
 dsimp only
 rw [bS]
 have iX:=si chX gX
 have iA:=si chA gA
 have lX:sx.2.length≤50:=ln chX gX
 have lA:sa.2.length≤50:=ln chA gA
 refine hq (shX.ma k2026).st (shA.ma k2026).st iX iA (by omega) (by omega) (by omega) fun M27 k27=>?_
 dsimp only
 have k2027:=k2026.trans k27
 have bX:∀ p∈sx.1,Bd p:=fun p hp=>(iX.wf p hp).bd
 have bA:∀ p∈sa.1,Bd p:=fun p hp=>(iA.wf p hp).bd
 rw [bS]
 refine hw (shX.ma k2027).st bX isX.ok (by omega) fun v28 M28 o28 e28 k28=>?_
 dsimp only
 rw [fe,Sl.str (Own.sl o28)]
 dsimp only
 rw [bS]
 refine hw ((shA.ma k2027).ma k28).st bA isA.ok (by omega) fun v29 M29 o29 e29 k29=>?_
 dsimp only
 have o289:=o28.keep k29 (by simp)
 rw [Uu,Sl.str (Own.sl o289)]
 refine ⟨rfl, ?_⟩
 rw [fe,Sl.str (Own.sl o29),qG,RX iX iA (by omega) (by omega) (by omega) (by omega) isX.ok isA.ok]
 refine ⟨_,_,rfl,rfl, ?_⟩
 dsimp only
 rw [dF,show (((vF sx.1 sx.2 == vF sa.1 sa.2) == (vF sx.1 sx.2 == vF sa.1 sa.2)) != false)=true by simp]
 exact hQ _
end Go.Ab.Crw
