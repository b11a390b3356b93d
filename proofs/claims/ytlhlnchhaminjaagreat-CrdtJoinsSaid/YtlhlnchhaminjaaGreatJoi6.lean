/- Part 6 of the ground of the proofs of this seat (texts M1 to J5). By an AI agent. -/
import Derived.Test.YtlhlnchhaminjaaGreatJoi5
set_option maxRecDepth 10000
set_option linter.unusedVariables false
set_option linter.unusedSimpArgs false
namespace Go.Ab.aC
open Go Go.Ab
def mX (T:Nat) (M:RM) (base:Nat) (v:AV) (L:List UInt8) : Prop :=
 Own M base T 1 v (dL L) L.length∨∃ b,v=.slc b 0 L.length (.ex L.length)∧base≤b∧b<M.next∧M.heap b=some (.row (dL L) false T 0)
theorem mX.sl {T base:Nat} {M:RM} {v:AV} {L:List UInt8} (h:mX T M base v L) : Sl BY M v L:=by
 rcases h with h | ⟨b,rfl,h1,h2,h3⟩
 ·exact Own.sl h
 ·show aM M 1 _ (BY.row L) L.length
  rw [zt]
  refine .slc _ _ _ _ _ h2 ?_
  rw [RM.dh h3 (by simp),Nat.mul_one,List.drop_zero,List.take_of_length_le (by simp)]
theorem mX.keep {T base:Nat} {M M' : RM} {v:AV} {L:List UInt8} (h:mX T M base v L) (hk:ah [] M M') : mX T M' base v L:=by
 rcases h with h | ⟨b,rfl,h1,h2,h3⟩
 ·exact .inl (h.keep hk (by simp))
 ·exact .inr ⟨b,rfl,h1,Nat.lt_of_lt_of_le h2 hk.next,hk.aO h3 h2 (by simp)⟩
theorem mX.app {T base:Nat} {M:RM} {v u:AV} {L L' : List UInt8} {zs:List AV} {K:ai} (h:mX T M base v L) (hb:base≤M.next) (hu:Sl BY M u L') (hl:L.length + L'.length≤1000000000)
  (hK:∀ v' M',mX T M' base v' (L++L')→ah (aF v) M M'→(∀ d∈aF v,base≤d)→K v' M') : appW T 1 1 zs false v u M K:=by
 have hcs:BY.row L'=dL L':=zt L'
 have hu' : aM M 1 u (dL L') L'.length:=by rw [← hcs]; exact hu
 rcases h with h | ⟨b,rfl,h1,h2,h3⟩
 ·refine nI h hb (Nat.le_refl _) (hu'.kN _) (by simp) (kg _) (by omega) (by omega) ?_
  intro v' M' o k _ _
  refine hK v' M' (.inl ?_) k (fun d hd=>(h.blk d hd).1)
  rw [jU,List.length_append]; exact o
 ·refine ⟨L'.length,dL L',hu'.kN _,by omega,by omega, ?_⟩
  by_cases h0:L'.length=0
  ·have:L'=[]:=List.length_eq_zero_iff.1 h0
   subst this
   refine ⟨.slc b 0 L.length (.ex L.length),M,by simp [mZ],hK _ _ (.inr ⟨b,by simp,h1,h2,by simpa using h3⟩) (ah.refl _ _) (by simp [aF]; exact h1)⟩
  ·have hld:M.loads b 0 (L.length * 1)=some (dL L):=by
    rw [RM.dh h3 (by simp),Nat.mul_one,List.drop_zero,List.take_of_length_le (by simp)]
   refine ⟨.slc M.next 0 (L.length + L'.length) (.op 1),M.push (.row (dL L++dL L') true T 0), ?_,hK _ _ (.inl ?_) ((ah.refl _ _).push _) (by simp [aF]; exact h1)⟩
   ·have hone:(dL L++dL L').all oneCell=true:=by rw [List.all_append,kg,kg]; rfl
    simp only [mZ,if_neg h0,if_neg (show ¬ L.length + L'.length≤L.length by omega),hld]
    rw [if_pos ⟨by omega,by omega,hone⟩]
   ·rw [List.length_append,jU]
    exact .op _ _ _ hb (by simp [RM.push]) (RM.aR _) (by simp)
def AA (T v:Nat) (c:av) : Prop:=∀ {M:RM} {Q:ai},(∀ r M',mX T M' M.next r (bC v)→ah [] M M'→Q r M')→c [N .u64 (v:Int)] M Q
theorem Oe {T v:Nat} {c:av} (hv:v<2 ^ 64) (ih:∀ w,w<v→AA T w c) : AA T v fun args M Q=>∃ a0,args=[a0]∧yT T c a0 M Q:=by
 intro M Q hQ
 refine ⟨_,rfl, ?_⟩
 unfold yT
 have lit:∀ (x:UInt8),mX T (M.push (.row [By x] false T 0)) M.next (.slc M.next 0 1 (.ex 1)) [x]:=fun x=>.inr ⟨M.next,rfl,Nat.le_refl _,by simp [RM.push],RM.aR _⟩
 rw [bL]
 refine aI (fun h=>?_) (fun h=>?_)
 ·have h:v<128:=by
   have:(v:Int)<128:=of_decide_eq_true h
   omega
  rw [eX,Rl h,je (x:=By (UInt8.ofNat v)) (size:=1) rfl rfl rfl,aX]
  refine hQ _ _ ?_ ((ah.refl _ _).push _)
  rw [oo h]; exact lit _
 ·have h:¬ v<128:=by
   have:¬ (v:Int)<128:=of_decide_eq_false h
   omega
  rw [OU]
  refine ⟨by decide, ?_⟩
  have e1:(v:Int).tmod 128=((v % 128:Nat) : Int):=by rw [Int.tmod_eq_emod_of_nonneg (by omega)]; rfl
  rw [e1,eX,AP (by omega) (by omega),bH,show ((v % 128:Nat) : Int) + 128=((v % 128 + 128:Nat) : Int) by omega,AP (by omega) (by omega)]
  have e2:N .u8 ((v % 128 + 128:Nat) : Int)=By (UInt8.ofNat (v % 128 + 128)):=by rw [By,CR]; congr 2; omega
  rw [e2,je (x:=By (UInt8.ofNat (v % 128 + 128))) (size:=1) rfl rfl rfl,aX,nz]
  refine ⟨by decide, ?_⟩
  rw [show (128:Int)=((128:Nat) : Int) from rfl,qM,dx (by omega) (by omega)]
  have k1:ah [] M (M.push (.row [By (UInt8.ofNat (v % 128 + 128))] false T 0)):=(ah.refl _ _).push _
  have l1:=lit (UInt8.ofNat (v % 128 + 128))
  have n1:(M.push (.row [By (UInt8.ofNat (v % 128 + 128))] false T 0)).next=M.next + 1:=rfl
  show c _ (M.push (.row [By (UInt8.ofNat (v % 128 + 128))] false T 0)) _
  generalize M.push (.row [By (UInt8.ofNat (v % 128 + 128))] false T 0)=M1 at *
  refine ih (v / 128) (by omega) fun r M2 h2 k2=>?_
  have hlen:=dK (v:=v / 128) (by omega)
  have n2:=k2.next
  refine (l1.keep k2).app (by omega) h2.sl (by simp; omega) fun v' M3 h3 k3 hb3=>?_
  refine hQ v' M3 ?_ ((k1.trans k2).bi k3 fun d hd=>.inl (hb3 d hd))
  rw [nR h]
  exact h3
end Go.Ab.aC
set_option maxRecDepth 10000
set_option linter.unusedVariables false
set_option linter.unusedSimpArgs false
namespace Go.Ab.aC
open Go Go.Ab
structure PO (TP TU base:Nat) (M:RM) (v:AV) (out:List eF) (cs:List AV) (ws:Nat→AV) : Prop where
 own:Own M base TP 3 v cs out.length
 row:∀ (k:Nat) (hk:k<out.length),cs[3 * k]?=some (N .i64 (out[k].1.1:Int))∧cs[3 * k + 1]?=some (N .u64 (out[k].1.2:Int))∧cs[3 * k + 2]?=some (ws k)∧Ow aS M base TU (ws k) out[k].2
 apart:∀ i j,i<out.length→j<out.length→i≠j→∀ d∈aF (ws i),d ∉ aF (ws j)
 off:∀ i,i<out.length→∀ d∈aF (ws i),d ∉ aF v
section
variable {TP TU base:Nat} {M M' : RM} {v:AV} {out:List eF} {cs:List AV} {ws:Nat→AV}
theorem PO.empty (h:Own M base TP 3 v [] 0) : PO TP TU base M v [] [] (fun _=>eG) :=
 ⟨h,fun k hk=>absurd hk (Nat.not_lt_zero _),fun i j hi=>absurd hi (Nat.not_lt_zero _),fun i hi=>absurd hi (Nat.not_lt_zero _)⟩
theorem PO.keep {ks:List Nat} (h:PO TP TU base M v out cs ws) (hk:ah ks M M') (hs:∀ d∈ks,d<base∨M.next≤d) : PO TP TU base M' v out cs ws:=by
 refine ⟨h.own.keep hk (fun d hd hm=>by have:=h.own.blk d hd; have:=hs d hm; omega),fun k hk'=>?_,h.apart,h.off⟩
 obtain ⟨a1,a2,a3,a4⟩:=h.row k hk'
 exact ⟨a1,a2,a3,a4.keep hk fun d hd hm=>by have:=a4.blk d hd; have:=hs d hm; omega⟩
theorem PO.at (h:PO TP TU base M v out cs ws) {i:Nat} (hi:i<out.length) :
  ∃ b,v=.slc b 0 out.length (.op 3)∧base≤b∧b<M.next∧M.heap b=some (.row cs true TP 0)∧cs.length=out.length * 3∧∀ (kd:IntKind) (K:AV→Prop),ax v (N kd (i:Int)) 3 K=K (.ptr b (3 * i)):=by
 obtain ⟨b,h1,h2,h3,h4,h5⟩:=Own.wI h.own (by omega)
 refine ⟨b,h1,h2,h3,h4,h5,fun kd K=>?_⟩
 rw [h1,lQ]
 simp only [Int.toNat_natCast]
 rw [show 0 + i * 3=3 * i by omega]
 exact propext ⟨fun h=>h.2.2,fun h=>⟨by omega,by omega,h⟩⟩
theorem PO.set (h:PO TP TU base M v out cs ws) {i b u:Nat} {w:AV} {xs:List Nat} {M1 M2:RM} {ks:List Nat} (hi:i<out.length) (hv:v=.slc b 0 out.length (.op 3)) (k1:ah ks M M1) (hks:∀ d∈ks,d∈aF (ws i))
  (hw:Ow aS M1 base TU w xs) (hw2:w=ws i∨∀ d∈aF w,M.next≤d) (hb:M2=M1.put b (.row ((cs.set (3 * i + 1) (N .u64 (u:Int))).set (3 * i + 2) w) true TP 0)) :
  PO TP TU base M2 v (out.set i ((out[i].1.1,u),xs)) ((cs.set (3 * i + 1) (N .u64 (u:Int))).set (3 * i + 2) w) (fun j=>if j=i then w else ws j)∧ah (b :: ks) M M2:=by
 obtain ⟨b',e,hb1,hb2,hb3,hb4,_⟩:=h.at hi
 obtain rfl:b=b':=by rw [hv] at e; injection e
 have n1:=k1.next
 have kk:ah [b] M1 M2:=by subst hb; exact (ah.refl _ _).put _ (.inr (by simp))
 have hh:M2.heap b=some (.row ((cs.set (3 * i + 1) (N .u64 (u:Int))).set (3 * i + 2) w) true TP 0):=by subst hb; exact aZ _
 have hbv:∀ j,j<out.length→b ∉ aF (ws j):=fun j hj hm=>h.off j hj b hm (by rw [hv]; simp [aF])
 have hbw:b ∉ aF w:=by
  rcases hw2 with rfl | hw2
  ·exact hbv i hi
  ·exact fun hm=>by have:=hw2 b hm; omega
 refine ⟨⟨?_,fun j hj=>?_,fun j1 j2 q1 q2 hne d (hd:d∈aF (if j1=i then w else ws j1))=>show d ∉ aF (if j2=i then w else ws j2) from ?_,fun j hj d hd=>?_⟩,(k1.mono (fun d hd=>List.mem_cons_of_mem _ hd)).trans (kk.mono (by simp))⟩
 ·rw [List.length_set,hv]
  exact .op _ _ _ hb1 (Nat.lt_of_lt_of_le hb2 (Nat.le_trans n1 kk.next)) hh (by simp; omega)
 ·have hj' : j<out.length:=by rw [List.length_set] at hj; exact hj
  obtain ⟨a1,a2,a3,a4⟩:=h.row j hj'
  by_cases hji:j=i
  ·subst hji
   rw [List.getElem_set_self]
   simp only [if_true]
   refine ⟨?_, ?_, ?_,hw.keep kk fun d hd hm=>?_⟩
   ·rw [List.getElem?_set_ne (by omega),List.getElem?_set_ne (by omega)]; exact a1
   ·rw [List.getElem?_set_ne (by omega),List.getElem?_set_self (by omega)]
   ·rw [List.getElem?_set_self (by rw [List.length_set]; omega)]
   ·simp at hm; subst hm; exact hbw hd
  ·rw [List.getElem_set_ne (Ne.symm hji)]
   simp only [if_neg hji]
   refine ⟨?_, ?_, ?_,(a4.keep k1 fun d hd hm=>?_).keep kk fun d hd hm=>?_⟩
   ·rw [List.getElem?_set_ne (by omega),List.getElem?_set_ne (by omega)]; exact a1
   ·rw [List.getElem?_set_ne (by omega),List.getElem?_set_ne (by omega)]; exact a2
   ·rw [List.getElem?_set_ne (by omega),List.getElem?_set_ne (by omega)]; exact a3
   ·exact h.apart j i hj' hi hji d hd (hks d hm)
   ·simp at hm; subst hm; exact hbv j hj' hd
 ·rw [List.length_set] at q1 q2
  by_cases e1:j1=i
  ·rw [if_pos e1] at hd
   rw [if_neg (fun e=>hne (e1.trans e.symm))]
   rcases hw2 with rfl | hw2
   ·exact h.apart i j2 hi q2 (fun e=>hne (e1.trans e)) d hd
   ·intro hm
    have:=hw2 d hd
    have:=((h.row j2 q2).2.2.2.blk d hm).2
    omega
  ·rw [if_neg e1] at hd
   by_cases e2:j2=i
   ·rw [if_pos e2]
    rcases hw2 with rfl | hw2
    ·exact h.apart j1 i q1 hi e1 d hd
    ·intro hm
     have:=hw2 d hm
     have:=((h.row j1 q1).2.2.2.blk d hd).2
     omega
   ·rw [if_neg e2]
    exact h.apart j1 j2 q1 q2 hne d hd
 ·rw [List.length_set] at hj
  have hd:d∈aF (if j=i then w else ws j):=hd
  by_cases e1:j=i
  ·rw [if_pos e1] at hd
   intro hm
   rw [hv] at hm
   simp [aF] at hm
   subst hm; exact hbw hd
  ·rw [if_neg e1] at hd
   exact h.off j hj d hd
theorem PO.upto (h:PO TP TU base M v out cs ws) {i b u:Nat} (hi:i<out.length) (hv:v=.slc b 0 out.length (.op 3)) {K:RM→Prop}
  (hK:∀ M' cs',PO TP TU base M' v (out.set i ((out[i].1.1,u),out[i].2)) cs' (fun j=>if j=i then ws i else ws j)→ah [b] M M'→K M') : aN M (.ptr b (3 * i + 1)) (N .u64 (u:Int)) 1 K:=by
 obtain ⟨b',e,hb1,hb2,hb3,hb4,_⟩:=h.at hi
 obtain rfl:b=b':=by rw [hv] at e; injection e
 obtain ⟨a1,a2,a3,a4⟩:=h.row i hi
 have e2:(cs.set (3 * i + 1) (N .u64 (u:Int))).set (3 * i + 2) (ws i)=cs.set (3 * i + 1) (N .u64 (u:Int)):=Gh (by rw [List.getElem?_set_ne (by omega)]; exact a3)
 rw [fq hb3 (by omega) rfl rfl]
 obtain ⟨h1,h2⟩:=h.set (u:=u) (w:=ws i) (xs:=out[i].2) (M1:=M) (ks:=[]) hi hv (ah.refl _ _) (by simp) a4 (.inl rfl) rfl
 rw [e2] at h1 h2
 exact hK _ _ h1 h2
theorem PO.more (h:PO TP TU base M v out cs ws) {i b x:Nat} (hi:i<out.length) (hv:v=.slc b 0 out.length (.op 3)) (hlen:out[i].2.length≤1000000) (hbase:base≤M.next) {K:RM→Prop}
  (hK:∀ M' ks cs' ws',PO TP TU base M' v (out.set i (out[i].1,out[i].2++[x])) cs' ws'→ah ks M M'→(∀ d∈ks,base≤d)→K M') :
  appW TU 1 8 [(N .u64 0)] false (ws i) (.slc M.next 0 1 (.ex 1)) (M.push (.row [N .u64 (x:Int)] false TU 0)) fun t80 M_96=>aN M_96 (.ptr b (3 * i + 2)) t80 1 K:=by
 obtain ⟨b',e,hb1,hb2,hb3,hb4,_⟩:=h.at hi
 obtain rfl:b=b':=by rw [hv] at e; injection e
 obtain ⟨a1,a2,a3,a4⟩:=h.row i hi
 refine tF (E:=aS) (a:=x) a4 hbase (Nat.le_refl _) (by omega) (by omega) ?_
 intro v' M' o1 k1 n1 hv'
 have hh:M'.heap b=some (.row cs true TP 0):=k1.aO hb3 hb2 (fun hm=>h.off i hi b hm (by rw [hv]; simp [aF]))
 rw [fq hh (by omega) o1.cells o1.one]
 have e2:cs.set (3 * i + 1) (N .u64 (out[i].1.2:Int))=cs:=Gh a2
 obtain ⟨h1,h2⟩:=h.set (u:=out[i].1.2) (w:=v') (xs:=out[i].2++[x]) (M1:=M') hi hv k1 (fun d hd=>hd) o1 hv' rfl
 rw [e2] at h1 h2
 refine hK _ _ _ _ h1 h2 fun d hd=>?_
 rcases List.mem_cons.1 hd with rfl | hd
 ·exact hb1
 ·exact (a4.blk d hd).1
theorem PO.app {dv u:Nat} {w:AV} {xs:List Nat} (h:PO TP TU base M v out cs ws) (hk:ah [] M M') (hw:Ow aS M' base TU w xs) (hw2:∀ d∈aF w,M.next≤d) (hbase:base≤M.next) (hlen:out.length≤1000000) {zs:List AV} {K:ai}
  (hK:∀ v' M'' cs' ws',PO TP TU base M'' v' (out++[((dv,u),xs)]) cs' ws'→ah (aF v) M' M''→(∀ d∈aF v,base≤d)→K v' M'') :
  appW TP 3 40 zs false v (.slc M'.next 0 1 (.ex 1)) (M'.push (.row [N .i64 (dv:Int),N .u64 (u:Int),w] false TP 0)) K:=by
 have n1:=hk.next
 have h':=h.keep hk (by simp)
 have hkp:ah [] M' (M'.push (.row [N .i64 (dv:Int),N .u64 (u:Int),w] false TP 0)):=(ah.refl _ _).push _
 have hp:=h'.keep hkp (by simp)
 have hwp:=hw.keep hkp (by simp)
 have hsl:aM (M'.push (.row [N .i64 (dv:Int),N .u64 (u:Int),w] false TP 0)) 3 (.slc M'.next 0 1 (.ex 1)) [N .i64 (dv:Int),N .u64 (u:Int),w] 1 :=
  .slc _ _ _ _ _ (by simp [RM.push]) (by rw [RM.dh (RM.aR _) (by simp)]; rfl)
 have hall:([N .i64 (dv:Int),N .u64 (u:Int),w] : List AV).all oneCell=true:=by simp [hw.one]; exact ⟨rfl,rfl⟩
 refine nI hp.own (by rw [Eo]; omega) (by decide) (hsl.kN _) (by simp) hall (by omega) (by omega) ?_
 intro v' M'' o k n hv'
 have hbl:=hp.own.blk
 rw [Eo] at n hv'
 have hcl:cs.length=out.length * 3:=hp.own.eu.length
 have hwv:∀ j,j<out.length→∀ d∈aF w,d ∉ aF (ws j):=fun j hj d hd hm=>by
  have:=hw2 d hd
  have:=((h.row j hj).2.2.2.blk d hm).2
  omega
 refine hK v' M'' (cs++[N .i64 (dv:Int),N .u64 (u:Int),w]) (fun j=>if j=out.length then w else ws j) ⟨?_,fun j hj=>?_,fun j1 j2 q1 q2 hne d (hd:d∈aF (if j1=out.length then w else ws j1))=>show d ∉ aF (if j2=out.length then w else ws j2) from ?_,fun j hj d hd=>?_⟩ ((hkp.mono (by simp)).trans k) (fun d hd=>(hbl d hd).1)
 ·rw [List.length_append]; exact o
 ·by_cases e:j=out.length
  ·subst e
   rw [List.getElem_append_right (Nat.le_refl _)]
   simp only [Nat.sub_self,List.getElem_cons_zero,if_true]
   refine ⟨?_, ?_, ?_,hwp.keep k fun d hd hm=>?_⟩
   ·rw [List.getElem?_append_right (by omega),show 3 * out.length - cs.length=0 by omega]; rfl
   ·rw [List.getElem?_append_right (by omega),show 3 * out.length + 1 - cs.length=1 by omega]; rfl
   ·rw [List.getElem?_append_right (by omega),show 3 * out.length + 2 - cs.length=2 by omega]; rfl
   ·have:=hw2 d hd
    have:=(h.own.blk d hm).2
    omega
  ·have hj' : j<out.length:=by rw [List.length_append] at hj; simp at hj; omega
   obtain ⟨a1,a2,a3,a4⟩:=hp.row j hj'
   rw [List.getElem_append_left hj']
   simp only [if_neg e]
   refine ⟨?_, ?_, ?_,a4.keep k fun d hd hm=>hp.off j hj' d hd hm⟩
   ·rw [List.getElem?_append_left (by omega)]; exact a1
   ·rw [List.getElem?_append_left (by omega)]; exact a2
   ·rw [List.getElem?_append_left (by omega)]; exact a3
 ·rw [List.length_append] at q1 q2
  simp at q1 q2
  by_cases e1:j1=out.length
  ·rw [if_pos e1] at hd
   rw [if_neg (fun e=>hne (e1.trans e.symm))]
   exact hwv j2 (by omega) d hd
  ·rw [if_neg e1] at hd
   by_cases e2:j2=out.length
   ·rw [if_pos e2]
    exact fun hm=>hwv j1 (by omega) d hm hd
   ·rw [if_neg e2]
    exact h.apart j1 j2 (by omega) (by omega) hne d hd
 ·rw [List.length_append] at hj
  simp at hj
  have hd:d∈aF (if j=out.length then w else ws j):=hd
  by_cases e1:j=out.length
  ·rw [if_pos e1] at hd
   rcases hv' with rfl | hv'
   ·intro hm
    have:=hw2 d hd
    have:=(h.own.blk d hm).2
    omega
   ·intro hm
    have:=hv' d hm
    have:=(hw.blk d hd).2
    omega
  ·rw [if_neg e1] at hd
   rcases hv' with rfl | hv'
   ·exact h.off j (by omega) d hd
   ·intro hm
    have:=hv' d hm
    have:=((h'.row j (by omega)).2.2.2.blk d hd).2
    omega
end
end Go.Ab.aC
set_option maxRecDepth 10000
set_option linter.unusedVariables false
set_option linter.unusedSimpArgs false
namespace Go.Ab.aC
open Go Go.Ab
def YG (T TP TU:Nat) (c:av) : Prop:=∀ {M:RM} {b:Nat} {ps:List Pt} {S:Nat→Prop} {Q:ai},fZ T S M b ps→(∀ p∈ps,p.2.length≤1000000) →
 (∀ v M' cs ws,PO TP TU M.next M' v (parts ps) cs ws→ah [] M M'→Q v M')→c [.ptr b 0] M Q
def qA (l:List aC) (i:Nat) (o:List eF) : List eF:=if i=0∨(l.getD i (0,0)).1≠(l.getD (i - 1) (0,0)).1 then o++[(((l.getD i (0,0)).1.toNat,0),[])] else o
def bump (p:eF) (n:Nat) : eF:=if p.2=[]∧n=p.1.2 + 1 then ((p.1.1,n),[]) else (p.1,p.2++[n])
def yu (o:List eF) (n:Nat) : List eF:=o.set (o.length - 1) (bump (o.getD (o.length - 1) ((0,0),[])) n)
def fK (l:List aC) : Nat→List eF
 | 0=>[]
 | i + 1=>yu (qA l i (fK l i)) (l.getD i (0,0)).2
def fA (l:List aC) : List eF:=fK l l.length
def Ls (i:Nat) (p:eF) : Prop:=p.1.1<16∧p.1.2≤1099511627776∧p.2.length≤i∧∀ x∈p.2,x≤1099511627776
theorem Gx (l:List aC) (i:Nat) (o:List eF) : o.length≤(qA l i o).length∧(qA l i o).length≤o.length + 1:=by
 unfold qA; split <;> simp
theorem qa (l:List aC) : ∀ i,(fK l i).length≤i∧(0<i→0<(fK l i).length)
 | 0=>⟨Nat.le_refl _,fun h=>absurd h (by omega)⟩
 | i + 1=>by
   have h1:=qa l i
   have h2:=Gx l i (fK l i)
   rw [fK,yu,List.length_set]
   refine ⟨by omega,fun _=>?_⟩
   by_cases h:i=0
   ·subst h; simp [qA]
   ·omega
theorem Nq (l:List aC) (i:Nat) : 0<(qA l i (fK l i)).length:=by
 have h1:=qa l i
 have h2:=Gx l i (fK l i)
 by_cases h:i=0
 ·subst h; simp [qA]
 ·omega
theorem mH {α:Type} {l:List α} {i:Nat} {d:α} (h:i<l.length) : l.getD i d=l[i]:=by
 rw [List.getD_eq_getElem?_getD,List.getElem?_eq_getElem h]; rfl
theorem qD {d:aC} (h:good d=true) : 0≤d.1∧d.1<16∧d.2≤1099511627776∧1≤d.2:=by
 simp only [good,Bool.and_eq_true,decide_eq_true_eq] at h
 omega
theorem YT {i n:Nat} {p:eF} (h:Ls i p) (hn:n≤1099511627776) : Ls (i + 1) (bump p n):=by
 obtain ⟨h1,h2,h3,h4⟩:=h
 unfold bump
 split
 ·exact ⟨h1,hn,by simp,by simp⟩
 ·refine ⟨h1,h2,by simp; omega,fun x hx=>?_⟩
  rcases List.mem_append.1 hx with hx | hx
  ·exact h4 x hx
  ·simp at hx; omega
theorem Ru {l:List aC} {i:Nat} {o:List eF} (hi:i<l.length) (hg:∀ d∈l,good d=true) (h:∀ p∈o,Ls i p) : ∀ p∈qA l i o,Ls i p:=by
 intro p hp
 have hd:=qD (hg _ (List.getElem_mem hi))
 unfold qA at hp
 split at hp
 ·rcases List.mem_append.1 hp with hp | hp
  ·exact h p hp
  ·simp only [List.mem_singleton] at hp
   subst hp
   rw [mH hi]
   exact ⟨by show l[i].1.toNat<16; omega,Nat.zero_le _,Nat.zero_le _,by simp⟩
 ·exact h p hp
theorem vW {l:List aC} (hg:∀ d∈l,good d=true) : ∀ i,i≤l.length→∀ p∈fK l i,Ls i p
 | 0,_,p,hp=>by simp [fK] at hp
 | i + 1,hi,p,hp=>by
   have h1:=Ru (by omega) hg (vW hg i (by omega))
   have hpos:=Nq l i
   rw [fK,yu] at hp
   rcases List.mem_or_eq_of_mem_set hp with hp | rfl
   ·obtain ⟨q1,q2,q3,q4⟩:=h1 p hp
    exact ⟨q1,q2,by omega,q4⟩
   ·have hd:=qD (hg _ (List.getElem_mem (show i<l.length by omega)))
    refine YT (h1 _ ?_) (by rw [mH (by omega)]; omega)
    rw [mH (by omega)]
    exact List.getElem_mem _
theorem XU {x a b c:AV} (h1:known x=true) (h2:x.cells=[x]) : qh [a,b,c] [(0,1,x)]=some [x,b,c]:=by
 simp [qh,h1,h2]
def xN (TP TU:Nat) (c:av) : Prop:=∀ {M:RM} {v:AV} {l:List aC} {Q:ai},Sl dz M v l→(∀ d∈l,good d=true)→l.length≤100000 →
 (∀ w M' cs ws,PO TP TU M.next M' w (fA l) cs ws→ah [] M M'→Q w M')→c [v] M Q
theorem Ms {TP TU:Nat} : xN TP TU fun args M Q=>∃ a0,args=[a0]∧Km TP TU a0 M Q:=by
 intro M v l Q hs hg hl hQ
 refine ⟨_,rfl, ?_⟩
 unfold Km
 simp only [gM,fF,dY,cZ]
 refine ⟨_,_,_,_,rfl,rfl,by decide,by decide,by decide,by decide, ?_⟩
 dsimp only
 rw [aX]
 have kM:ah [] M (M.push (.row (bM [(N .i64 0),(N .u64 0),(.sc (.slice none 0 0))] 0) false TP 0)):=(ah.refl _ _).push _
 have oM:Own (M.push (.row (bM [(N .i64 0),(N .u64 0),(.sc (.slice none 0 0))] 0) false TP 0)) M.next TP 3 (.slc M.next 0 0 (.ex 0)) [] 0:=Own.lit M (Nat.le_refl _)
 refine aJ (fun m ys M3=>∃ (i:Nat) (w:AV),m=l.length - i∧ys=[w,N .i64 (i:Int)]∧i≤l.length∧ah [] M M3∧∃ cs ws,PO TP TU M.next M3 w (fK l i) cs ws) _
  ⟨0,_,rfl,rfl,Nat.zero_le _,kM,_,_,PO.empty oM⟩ ?_
 rintro next m ys M3 hnext ⟨i,w,rfl,rfl,hi,hK,cs,ws,ho⟩
 dsimp only [aa]
 have s3:Sl dz M3 v l:=aM.keep hs hK (by simp)
 rw [aM.len s3,bL]
 refine aI (fun hlt=>?_) (fun hge=>?_)
 ·have hlt:i<l.length:=by
   have:(i:Int)<(l.length:Int):=of_decide_eq_true hlt
   omega
  refine bn (fun zs M'=>∃ w,zs=[w]∧ah [] M M'∧∃ cs ws,PO TP TU M.next M' w (fK l (i + 1)) cs ws) ?_ ?_
  ·rintro zs M' ⟨w,rfl,hk',ho'⟩
   dsimp only [aa]
   rw [bH,dQ (by omega)]
   exact hnext _ _ _ (by omega) ⟨i + 1,w,rfl,rfl,by omega,hk',ho'⟩
  intro J hJ
  have hDi:l.getD i (0,0)=l[i]:=mH hlt
  have hgi:=qD (hg _ (List.getElem_mem hlt))
  have hlenT:=qa l i
  have hnewL:=Gx l i (fK l i)
  have hnewP:=Nq l i
  refine bn (fun zs M'=>∃ w,zs=[w]∧ah [] M M'∧∃ cs ws,PO TP TU M.next M' w (qA l i (fK l i)) cs ws) ?_ ?_
  ·rintro zs M4 ⟨w4,rfl,k4,cs4,ws4,o4⟩
   dsimp only [aa]
   have hbd:=Ru hlt hg (vW hg i (by omega))
   have hup:fK l (i + 1)=yu (qA l i (fK l i)) l[i].2:=by rw [fK,hDi]
   generalize qA l i (fK l i)=o at *
   have n4:=k4.next
   have s4:Sl dz M4 v l:=aM.keep hs k4 (by simp)
   have hk:o.length - 1<o.length:=by omega
   obtain ⟨b,hv,hb1,hb2,hb3,hb4,hidx⟩:=o4.at hk
   obtain ⟨a1,a2,a3,a4⟩:=o4.row _ hk
   have hp:=hbd _ (List.getElem_mem hk)
   have hgD:o.getD (o.length - 1) ((0,0),[])=o[o.length - 1]:=mH hk
   rw [yu,hgD] at hup
   rw [aM.len o4.own.eu,gT,bD (by omega) (by omega),show (o.length:Int) - 1=((o.length - 1:Nat) : Int) by omega,hidx,aK,aG,ak hb3 a3,aM.len a4.eu,di]
   obtain ⟨b2,o2,_,_,hidx2,hld2⟩:=Sl.at (i:=i) s4 2 (i:Int) hlt
   have more:bump o[o.length - 1] l[i].2=(o[o.length - 1].1,o[o.length - 1].2++[l[i].2])→bG (.ptr b (3 * (o.length - 1))) fun t71=>aD t71 2 fun t72=>aj M4 t72 fun t73=>ax v (N .i64 (i:Int)) 2 fun t76=>aD t76 1 fun t77=>aj M4 t77 fun t78 =>
     df TU 1 [(N .u64 0)] [(0,1,t78)] fun r_92 f_93=>jZ r_92 f_93 M4 fun t79 M_94 b_95=>appW TU 1 8 [(N .u64 0)] false t73 t79 M_94 fun t80 M_96=>bG (.ptr b (3 * (o.length - 1))) fun t81=>aD t81 2 fun t82=>aN M_96 t82 t80 1 fun M_97=>J [w4] M_97:=fun e=>by
    rw [aK,aG,ak hb3 a3,hidx2,aG,jC (ja hld2 rfl),je (x:=N .u64 (l[i].2:Int)) (size:=1) rfl rfl rfl,iV]
    simp only [aK,aG]
    refine o4.more hk hv (by have:=hp.2.2.1; omega) (by omega) fun M5 ks cs5 ws5 o5 k5 hks=>?_
    refine hJ _ _ ⟨w4,rfl,k4.bi k5 fun c hc=>.inl (hks c hc),cs5,ws5, ?_⟩
    rw [hup,e]; exact o5
   by_cases hm:o[o.length - 1].2=[]
   ·rw [show (((o[o.length - 1].2.length:Nat) : Int) == 0)=true by rw [hm]; rfl,fe]
    dsimp only
    rw [hidx2,aG,jC (ja hld2 rfl),aK,aG,ak hb3 a2,bH,dx (by omega) (by have:=hp.2.1; omega),di,dF]
    refine aI (fun he=>?_) (fun he=>?_)
    ·have he:l[i].2=o[o.length - 1].1.2 + 1:=by
      have:=eq_of_beq he
      omega
     rw [aK,aG,ak hb3 a2,bH,dx (by omega) (by have:=hp.2.1; omega),aK,aG,show (o[o.length - 1].1.2:Int) + 1=((l[i].2:Nat) : Int) by omega]
     refine o4.upto hk hv fun M5 cs5 o5 k5=>?_
     refine hJ _ _ ⟨w4,rfl,k4.bi k5 fun c hc=>.inl (by simp at hc; omega),cs5,(fun j=>if j=o.length - 1 then ws4 (o.length - 1) else ws4 j), ?_⟩
     rw [hup,bump,if_pos ⟨hm,he⟩]
     rw [hm] at o5; exact o5
    ·have he:¬ l[i].2=o[o.length - 1].1.2 + 1:=fun e=>by
      rw [beq_eq_false_iff_ne] at he
      omega
     exact more (by rw [bump,if_neg fun h=>he h.2])
   ·have:o[o.length - 1].2.length≠0:=fun h=>hm (List.length_eq_zero_iff.1 h)
    rw [show (((o[o.length - 1].2.length:Nat) : Int) == 0)=false by rw [beq_eq_false_iff_ne]; omega,jL]
    dsimp only
    rw [bU,bK]
    exact more (by rw [bump,if_neg fun h=>hm h.1])
  intro J1 hJ1
  have s3:Sl dz M3 v l:=aM.keep hs hK (by simp)
  have n3:=hK.next
  obtain ⟨b2,o2,_,_,hidx2,hld2⟩:=Sl.at (i:=i) s3 2 (i:Int) hlt
  have mk:(i=0∨l[i].1≠(l.getD (i - 1) (0,0)).1)→ax v (N .i64 (i:Int)) 2 fun t32=>aD t32 0 fun t33=>aj M3 t33 fun t34=>mG [(N .i64 0),(N .u64 0),(.sc (.slice none 0 0))] [(0,1,t34)] fun t35 =>
    df TP 1 [(N .i64 0),(N .u64 0),(.sc (.slice none 0 0))] [(0,3,t35)] fun r_44 f_45=>bY r_44 f_45 M3 fun t36 M_46=>appW TP 3 40 [(N .i64 0),(N .u64 0),(.sc (.slice none 0 0))] false w t36 M_46 fun t37 M_47=>J1 [t37] M_47:=fun hy=>by
   rw [hidx2,aG,jC (ja hld2 rfl),mW]
   refine ⟨_,XU rfl rfl, ?_⟩
   rw [je (x:=.agg [N .i64 l[i].1,N .u64 0,.sc (.slice none 0 0)]) (size:=3) rfl rfl rfl,aX]
   have e:l[i].1=((l[i].1.toNat:Nat) : Int):=by omega
   have:=ho.app (dv:=l[i].1.toNat) (u:=0) (xs:=[]) (w:=eG) (ah.refl [] _) .nil (fun d hd=>by simp [aF] at hd) (by omega) (by omega) (zs:=[(N .i64 0),(N .u64 0),(.sc (.slice none 0 0))]) (K:=fun t37 M_47=>J1 [t37] M_47) ?_
   ·rw [← e] at this; exact this
   intro v' M'' cs' ws' o' k' hd'
   refine hJ1 _ _ ⟨v',rfl,hK.bi k' fun c hc=>.inl (hd' c hc),cs',ws', ?_⟩
   rw [qA,hDi,if_pos hy]; exact o'
  rw [di]
  by_cases h0:i=0
  ·subst h0
   rw [show ((((0:Nat) : Int)) == 0)=true from rfl,xJ]
   dsimp only
   rw [dF,dP]
   exact mk (.inl rfl)
  ·rw [show ((i:Int) == 0)=false by rw [beq_eq_false_iff_ne]; omega,dO]
   dsimp only
   obtain ⟨b3,o3,_,_,hidx3,hld3⟩:=Sl.at (i:=i - 1) s3 2 ((i - 1:Nat) : Int) (by omega)
   rw [hidx2,aG,jC (ja hld2 rfl),gT,bD (by omega) (by omega),show (i:Int) - 1=((i - 1:Nat) : Int) by omega,hidx3,aG,jC (ja hld3 rfl),gD,bU]
   have hD1:l.getD (i - 1) (0,0)=l[i - 1]:=mH (by omega)
   refine aI (fun he=>mk (.inr ?_)) (fun he=>?_)
   ·rw [hD1]
    intro e
    rw [e] at he
    simp at he
   ·have he:l[i].1=l[i - 1].1:=by simpa using he
    refine hJ1 _ _ ⟨w,rfl,hK,cs,ws, ?_⟩
    rw [qA,hDi,hD1,if_neg (by rintro (h | h); exact h0 h; exact h he)]
    exact ho
 ·have he:i=l.length:=by
   have:¬ (i:Int)<(l.length:Int):=of_decide_eq_false hge
   omega
  subst he
  exact hQ w M3 cs ws ho hK
end Go.Ab.aC
set_option maxRecDepth 10000
set_option linter.unusedVariables false
set_option linter.unusedSimpArgs false
namespace Go.Ab.aC
open Go Go.Ab
def sG (T:Nat) (c:av) : Prop:=∀ {M:RM} {v:AV} {l:List aC} {Q:ai},Sl dz M v l→(∀ d∈l,good d=true)→l.length≤5000 →
 (∀ w M',mX T M' M.next w (pM (fA l))→ah [] M M'→Q w M')→c [v] M Q
def BJ (T:Nat) (c:av) : Prop:=∀ v,v<2 ^ 64→AA T v c
theorem nJ {T x:Nat} {c:av} (hc:BJ T c) {M0 M:RM} {b:AV} {L:List UInt8} {zs:List AV} {K:ai} (k0:ah [] M0 M) (h:mX T M M0.next b L) (hx:x<2 ^ 64) (hl:L.length≤900000000)
  (hK:∀ v' M',mX T M' M0.next v' (L++bC x)→ah [] M0 M'→ah [] M M'∨True→K v' M') : c [N .u64 (x:Int)] M fun t M'=>appW T 1 1 zs false b t M' K:=by
 refine hc x hx fun r M1 h1 k1=>?_
 have n0:=k0.next
 have n1:=k1.next
 have u10:=dK hx
 refine (h.keep k1).app (by omega) h1.sl (by omega) fun v' M2 h2 k2 hb=>?_
 exact hK v' M2 h2 ((k0.trans k1).bi k2 fun d hd=>.inl (hb d hd)) (.inr trivial)
theorem Wu {o:List eF} {k:Nat} (h:∀ p∈o,(gm p).length≤k) : (o.flatMap gm).length≤o.length * k:=by
 induction o with
 | nil=>simp
 | cons p o ih =>
   rw [List.flatMap_cons,List.length_append,List.length_cons,Nat.succ_mul]
   have h1:=h p (by simp)
   have h2:=ih fun q hq=>h q (by simp [hq])
   omega
theorem UO {n:Nat} {p:eF} (hn:n≤5000) (h:Ls n p) : (gm p).length≤30 + 10 * n:=by
 obtain ⟨h1,h2,h3,h4⟩:=h
 simp only [gm,List.length_append]
 have a1:=dK (v:=p.1.1) (by omega)
 have a2:=dK (v:=p.1.2) (by omega)
 have a3:=uR p.2 p.1.2
 have a4:=dK (v:=p.2.length) (by omega)
 omega
theorem KS {TP TU T:Nat} {cp cu:av} (hp:xN TP TU cp) (hu:BJ T cu) : sG T fun args M Q=>∃ a0,args=[a0]∧GZ cp cu T a0 M Q:=by
 intro M v l Q hs hg hl hQ
 refine ⟨_,rfl, ?_⟩
 unfold GZ
 refine hp hs hg (by omega) fun w M1 cs ws ho k1=>?_
 have hlenT:=(qa l l.length).1
 have hbdT:=vW hg l.length (Nat.le_refl _)
 unfold pM at hQ
 change (fA l).length≤l.length at hlenT
 change ∀ p∈fA l,Ls l.length p at hbdT
 generalize fA l=ls at *
 have n1:=k1.next
 rw [aM.len ho.own.eu,eX,dx (by omega) (by omega)]
 refine hu _ (by omega) fun r0 M2 h2 k2=>?_
 have u10:=dK (v:=ls.length) (by omega)
 refine aJ (fun m ys M3=>∃ (i:Nat) (v:AV),m=ls.length - i∧ys=[v,N .i64 (i:Int)]∧i≤ls.length∧ah [] M1 M3∧mX T M3 M1.next v (bC ls.length++(ls.take i).flatMap gm)) _
  ⟨0,r0,rfl,rfl,Nat.zero_le _,k2,by simpa using h2⟩ ?_
 rintro next m ys M3 hnext ⟨i,w3,rfl,rfl,hi,hK,ho3⟩
 dsimp only [aa]
 have hlenW:∀ K:AV→Prop,bu w K=K (N .i64 (ls.length:Int)):=fun K=>aM.len ho.own.eu
 rw [hlenW,bL]
 refine aI (fun hlt=>?_) (fun hge=>?_)
 ·have hlt:i<ls.length:=by simpa using hlt
  obtain ⟨b,hv,hb1,hb2,hb3,hb4,hidx⟩:=ho.at hlt
  obtain ⟨a1,a2,a3,a4⟩:=ho.row _ hlt
  obtain ⟨hdv,hub,hxl,hxb⟩:=hbdT _ (List.getElem_mem hlt)
  have hL:(bC ls.length++(ls.take (i + 1)).flatMap gm)=(bC ls.length++(ls.take i).flatMap gm)++gm ls[i]:=by
   rw [List.take_succ_eq_append_getElem hlt,List.flatMap_append,List.append_assoc]; simp
  have hLl:(bC ls.length++(ls.take i).flatMap gm).length≤10 + 5000 * 50030:=by
   rw [List.length_append]
   have:=Wu (o:=ls.take i) (k:=50030) fun p hp=>by
    have:=UO hl (hbdT p (List.mem_of_mem_take hp))
    omega
   have e:(ls.take i).length≤5000:=by rw [List.length_take]; omega
   have:=Nat.mul_le_mul_right 50030 e
   omega
  have hstep:∀ w M',ah [] M1 M'→mX T M' M1.next w ((bC ls.length++(ls.take i).flatMap gm)++gm ls[i])→next [w,N .i64 ((i + 1:Nat) : Int)] M':=fun w M' k o =>
   hnext _ _ _ (by omega) ⟨i + 1,w,rfl,rfl,by omega,k,by rw [hL]; exact o⟩
  generalize bC ls.length++(ls.take i).flatMap gm=L at *
  generalize ls[i]=pt at *
  obtain ⟨⟨dv,u⟩,xs⟩:=pt
  simp only at hdv hub hxl hxb a1 a2 a4
  have hat:∀ {M' : RM},ah [] M1 M'→M'.heap b=some (.row cs true TP 0):=fun k=>k.aO hb3 hb2 (by simp)
  rw [hidx,aG,ak (i:=3 * i + 0) (hat hK) a1,eX,dx (by omega) (by omega)]
  refine nJ hu hK ho3 (by omega) (by omega) fun w4 M4 ho4 k4 _=>?_
  have e4:=dK (v:=dv) (by omega)
  rw [hidx,aG,ak (hat k4) a2]
  refine nJ hu k4 ho4 (by omega) (by simp; omega) fun w5 M5 ho5 k5 _=>?_
  have e5:=dK (v:=u) (by omega)
  rw [hidx,aG,ak (hat k5) a3,aM.len a4.eu,eX,dx (by omega) (by omega)]
  refine nJ hu k5 ho5 (by omega) (by simp only [List.length_append]; omega) fun w6 M6 ho6 k6 _=>?_
  have e6:=dK (v:=xs.length) (by omega)
  have hencP:L++gm ((dv,u),xs)=L++bC dv++bC u++bC xs.length++jg u xs:=by simp only [gm,List.append_assoc]
  rw [hencP] at hstep
  have hL7:(L++bC dv++bC u++bC xs.length).length≤10 + 5000 * 50030 + 30:=by simp only [List.length_append]; omega
  generalize L++bC dv++bC u++bC xs.length=L7 at *
  rw [hidx,aG,ak (hat k6) a2]
  refine aJ (fun m ys M8=>∃ (j q:Nat) (w:AV),m=xs.length - j∧ys=[w,N .u64 (q:Int),N .i64 (j:Int)]∧j≤xs.length∧(u :: xs)[j]?=some q∧ah [] M1 M8∧mX T M8 M1.next w (L7++jg u (xs.take j))) _
   ⟨0,u,w6,rfl,rfl,Nat.zero_le _,rfl,k6,by simpa [jg] using ho6⟩ ?_
  rintro next2 m ys M8 hnext2 ⟨j,q,w8,rfl,rfl,hj,hq,hK8,ho8⟩
  dsimp only [aa]
  rw [hidx,aG,ak (hat hK8) a3,aM.len a4.eu,bL]
  refine aI (fun hlt2=>?_) (fun hge2=>?_)
  ·have hlt2:j<xs.length:=by simpa using hlt2
   have s8:Sl aS M8 (ws i) xs:=aM.keep a4.eu hK8 (by simp)
   obtain ⟨b2,o2,hbn,_,hidx2,hc2⟩:=Sl.qX (E:=aS) s8 (j:Int) hlt2
   have hxj:=hxb _ (List.getElem_mem hlt2)
   have hqb:q<2 ^ 64:=by
    have:=List.mem_of_getElem? hq
    rcases List.mem_cons.1 this with rfl | h
    ·omega
    ·have:=hxb _ h; omega
   rw [hidx,aG,ak (hat hK8) a3,hidx2,jC (hc2 _ rfl),gT,QG (by omega)]
   have hg10:=uR (xs.take j) u
   have htl:(xs.take j).length≤5000:=by rw [List.length_take]; omega
   refine nJ hu hK8 ho8 (Gc _ _) (by rw [List.length_append]; omega) fun w9 M9 ho9 k9 _=>?_
   have s9:Sl aS M9 (ws i) xs:=aM.keep a4.eu k9 (by simp)
   obtain ⟨b3,o3,_,_,hidx3,hc3⟩:=Sl.qX (E:=aS) s9 (j:Int) hlt2
   rw [hidx,aG,ak (hat k9) a3,hidx3,jC (hc3 _ rfl),bH,dQ (by omega)]
   refine hnext2 _ _ _ (by omega) ⟨j + 1,xs[j],w9,rfl,rfl,by omega,by rw [List.getElem?_cons_succ,List.getElem?_eq_getElem hlt2],k9, ?_⟩
   rw [Dq hlt2 hq,← List.append_assoc]; exact ho9
  ·have he:j=xs.length:=by simp at hge2; omega
   subst he
   rw [List.take_length] at ho8
   rw [bH,dQ (by omega)]
   exact hstep _ _ hK8 ho8
 ·have he:i=ls.length:=by simp at hge; omega
  subst he
  rw [List.take_length] at ho3
  refine hQ w3 M3 ?_ (k1.trans hK)
  rcases ho3 with h | ⟨b,rfl,h1,h2,h3⟩
  ·exact .inl (h.mono n1)
  ·exact .inr ⟨b,rfl,by omega,h2,h3⟩
end Go.Ab.aC
set_option maxRecDepth 10000
set_option linter.unusedVariables false
set_option linter.unusedSimpArgs false
namespace Go.Ab.aC
open Go Go.Ab
theorem mV {f g:Prop→Prop} {k:Prop} : rX (Bo false) false f g k=f k:=rfl
section
variable {TP TU base:Nat} {M:RM} {v:AV} {out:List eF} {cs:List AV} {ws:Nat→AV}
theorem PO.write (h:PO TP TU base M v out cs ws) {i k x:Nat} (hi:i<out.length) (hk:k<out[i].2.length) :
  ∃ b,b∈aF (ws i)∧(∀ (kd:IntKind) (K:AV→Prop),ax (ws i) (N kd (k:Int)) 1 K=K (.ptr b k))∧∀ K:RM→Prop,
    (∀ M',PO TP TU base M' v (out.set i (out[i].1,out[i].2.set k x)) cs ws→ah [b] M M'→K M')→aN M (.ptr b k) (N .u64 (x:Int)) 1 K:=by
 obtain ⟨a1,a2,a3,a4⟩:=h.row i hi
 obtain ⟨b,e,h1,h2,h3,h4⟩:=Own.wI a4 (by omega)
 refine ⟨b,by rw [e]; simp [aF],fun kd K=>?_,fun K hK=>?_⟩
 ·rw [e,lQ]
  simp only [Int.toNat_natCast]
  rw [show 0 + k * 1=k by omega]
  exact propext ⟨fun h=>h.2.2,fun h=>⟨by omega,by omega,h⟩⟩
 have hrl:(aS.row out[i].2).length=out[i].2.length:=by rw [Enc.ed]; simp [aS]
 rw [fq h3 (by omega) rfl rfl]
 have hrow:(aS.row out[i].2).set k (N .u64 (x:Int))=aS.row (out[i].2.set k x):=by rw [zA,zA,List.map_set]
 have kk:ah [b] M (M.put b (.row ((aS.row out[i].2).set k (N .u64 (x:Int))) true TU 0)):=(ah.refl _ _).put _ (.inr (by simp))
 have hh:(M.put b (.row ((aS.row out[i].2).set k (N .u64 (x:Int))) true TU 0)).heap b=some (.row (aS.row (out[i].2.set k x)) true TU 0):=by rw [aZ,hrow]
 have hbw:b∈aF (ws i):=by rw [e]; simp [aF]
 refine hK _ ⟨?_,fun j hj=>?_, ?_, ?_⟩ kk
 ·rw [List.length_set]
  exact h.own.keep kk fun d hd hm=>by simp at hm; subst hm; exact h.off i hi _ hbw hd
 ·have hj' : j<out.length:=by rw [List.length_set] at hj; exact hj
  obtain ⟨c1,c2,c3,c4⟩:=h.row j hj'
  by_cases hji:j=i
  ·subst hji
   rw [List.getElem_set_self]
   refine ⟨c1,c2,c3, ?_⟩
   rw [e]
   show Own _ base TU 1 _ (aS.row (out[j].2.set k x)) (out[j].2.set k x).length
   rw [List.length_set]
   exact .op _ _ _ h1 h2 hh (by rw [Enc.ed,List.length_set]; rfl)
  ·rw [List.getElem_set_ne (Ne.symm hji)]
   exact ⟨c1,c2,c3,c4.keep kk fun d hd hm=>by simp at hm; subst hm; exact h.apart i j hi hj' (Ne.symm hji) _ hbw hd⟩
 ·rw [List.length_set]; exact h.apart
 ·rw [List.length_set]; exact h.off
end
def Vu (TS:Nat) (c:av) : Prop:=∀ {M:RM} {b:Nat} {ps:List Pt} {S:Nat→Prop} {v:AV} {l:List aC} {Q:ai},fZ TS S M b ps→(∀ p∈ps,iZ p)→Sl dz M v l→(∀ d∈l,good d=true)→l.length≤5000→parts ps=fA l →
 (∀ M',ah [] M M'→Q (Bo true) M')→c [.ptr b 0,v] M Q
theorem QX {TS TP TQ TU T:Nat} {cp cq ce cf:av} (hp:YG TS TP TU cp) (hq:xN TQ TU cq) (he:zq TS T ce) (hf:sG T cf) :
  Vu TS fun args M Q=>∃ a0 a1,args=[a0,a1]∧ZG cp cq ce cf a0 a1 M Q:=by
 intro M b ps S v l Q hset hwf hs hg hl heq hQ
 refine ⟨_,_,rfl, ?_⟩
 unfold ZG
 refine hp hset (fun p hp=>by have:=(hwf p hp).2.2.2.2; omega) fun vp M1 cs ws op k1=>?_
 have n1:=k1.next
 refine hq (aM.keep hs k1 (by simp)) hg (by omega) fun vq M2 cq wq oq k2=>?_
 have n2:=k2.next
 have henc:encS ps=pM (fA l):=by rw [encS,heq]
 have hbd:=vW hg l.length (Nat.le_refl _)
 change ∀ p∈fA l,Ls l.length p at hbd
 rw [heq] at op
 have hlen:=(qa l l.length).1
 change (fA l).length≤l.length at hlen
 have lenP:∀ K:AV→Prop,bu vp K=K (N .i64 ((fA l).length:Int)):=fun K=>aM.len op.own.eu
 have lenQ:∀ K:AV→Prop,bu vq K=K (N .i64 ((fA l).length:Int)):=fun K=>aM.len oq.own.eu
 rw [lenP,lenQ,gD,show (((fA l).length:Int) != (fA l).length)=false by simp]
 simp only [dO,dC,mV,bU]
 have hset2:=(hset.below.keep k1 (by simp) (by simp)).keep k2 (by simp) (by simp)
 refine he hset2 (fun p hp=>(hwf p hp).bd) fun r M3 o3 _ k3=>?_
 have n3:=k3.next
 have s3:Sl BY M3 r (encS ps):=Own.sl o3
 rw [Sl.str s3]
 have hs3:Sl dz M3 v l:=aM.keep hs ((k1.trans k2).trans k3) (by simp)
 refine hf hs3 hg hl fun r4 M4 o4 k4=>?_
 rw [Sl.str (aM.keep s3 k4 (by simp)),Sl.str o4.sl]
 refine ⟨rfl, ?_⟩
 rw [henc,kK,show (pM (fA l) != pM (fA l))=false by simp,bK]
 have n4:=k4.next
 have k24:=k3.trans k4
 have hwlt:∀ i,i<(fA l).length→∀ d∈aF (ws i),M.next≤d∧d<M1.next:=fun i hi d hd=>(op.row i hi).2.2.2.blk d hd
 have op4:=op.keep (k2.trans k24) (by simp)
 have oq4:=oq.keep k24 (by simp)
 have k04:ah [] M M4:=(k1.trans k2).trans k24
 have n04:=k04.next
 generalize fA l=ls at *
 refine aJ (fun m ys M5=>∃ (i:Nat) (out:List eF),m=ls.length - i∧ys=[N .i64 (i:Int)]∧i≤ls.length∧ah [] M M5∧M1.next≤M5.next∧out.length=ls.length∧(∀ j,i≤j→out[j]?=ls[j]?)∧PO TP TU M.next M5 vp out cs ws∧PO TQ TU M1.next M5 vq ls cq wq) _
  ⟨0,ls,rfl,rfl,Nat.zero_le _,k04,by omega,rfl,fun _ _=>rfl,op4,oq4⟩ ?_
 rintro next m ys M5 hnext ⟨i,out,rfl,rfl,hi,k5,n5,hol,hoe,op5,oq5⟩
 dsimp only [aa]
 rw [lenP,bL]
 refine aI (fun hlt=>?_) (fun hge=>?_)
 ·have hlt:i<ls.length:=by simpa using hlt
  have hlto:i<out.length:=by omega
  obtain ⟨hdv,hub,hxl,hxb⟩:=hbd _ (List.getElem_mem hlt)
  have hoi:out[i]=ls[i]:=by
   have:=hoe i (Nat.le_refl _)
   rw [List.getElem?_eq_getElem hlto,List.getElem?_eq_getElem hlt] at this
   exact Option.some.inj this
  obtain ⟨b1,hv1,_,hb12,hb13,_,hidx1⟩:=op5.at hlto
  obtain ⟨b2,hv2,hb21,hb22,hb23,_,hidx2⟩:=oq5.at hlt
  obtain ⟨p1,p2,p3,p4⟩:=op5.row i hlto
  obtain ⟨q1,q2,q3,q4⟩:=oq5.row i hlt
  rw [hoi] at p1 p2
  have hl1:out[i].2.length=ls[i].2.length:=by rw [hoi]
  rw [hidx1,aG,ak (i:=3 * i + 0) hb13 p1,hidx2,aG,ak (i:=3 * i + 0) hb23 q1,gD,show ((ls[i].1.1:Int) != ls[i].1.1)=false by simp]
  simp only [dO,dC,mV,bU]
  rw [hidx1,aG,ak hb13 p2,hidx2,aG,ak hb23 q2,gD,show ((ls[i].1.2:Int) != ls[i].1.2)=false by simp]
  simp only [dO,dC,mV,bU]
  rw [hidx1,aG,ak hb13 p3,aM.len p4.eu,hidx2,aG,ak hb23 q3,aM.len q4.eu,hl1,gD,show ((ls[i].2.length:Int) != ls[i].2.length)=false by simp,bK]
  have hstep:∀ M6 out',ah [] M M6→M1.next≤M6.next→out'.length=ls.length→(∀ j,i<j→out'[j]?=ls[j]?)→PO TP TU M.next M6 vp out' cs ws→PO TQ TU M1.next M6 vq ls cq wq→next [N .i64 ((i + 1:Nat) : Int)] M6:=fun M6 out' a b c d e f =>
   hnext _ _ _ (by omega) ⟨i + 1,out',rfl,rfl,by omega,a,b,c,fun j hj=>d j (by omega),e,f⟩
  refine aJ (fun m ys M6=>∃ (k:Nat) (out' : List eF) (xs' : List Nat),m=ls[i].2.length - k∧ys=[N .i64 (k:Int)]∧k≤ls[i].2.length∧ah [] M M6∧M1.next≤M6.next∧out'.length=ls.length∧(∀ j,i<j→out'[j]?=ls[j]?)∧out'[i]?=some (ls[i].1,xs')∧xs'.length=ls[i].2.length∧(∀ j,k≤j→xs'[j]?=ls[i].2[j]?) ∧
    PO TP TU M.next M6 vp out' cs ws∧PO TQ TU M1.next M6 vq ls cq wq) _
   ⟨0,out,ls[i].2,rfl,rfl,Nat.zero_le _,k5,n5,hol,fun j hj=>hoe j (by omega),by rw [List.getElem?_eq_getElem hlto,hoi],rfl,fun _ _=>rfl,op5,oq5⟩ ?_
  rintro next2 m ys M6 hnext2 ⟨k,out',xs',rfl,rfl,hk,k6,n6,hol6,hoe6,hoi6,hxl6,hxe6,op6,oq6⟩
  dsimp only [aa]
  have hlt6:i<out'.length:=by omega
  have hoi6' : out'[i]=(ls[i].1,xs'):=by
   rw [List.getElem?_eq_getElem hlt6] at hoi6
   exact Option.some.inj hoi6
  obtain ⟨b3,hv3,_,hb32,hb33,_,hidx3⟩:=op6.at hlt6
  obtain ⟨b4,hv4,hb41,hb42,hb43,_,hidx4⟩:=oq6.at hlt
  obtain ⟨c1,c2,c3,c4⟩:=op6.row i hlt6
  obtain ⟨d1,d2,d3,d4⟩:=oq6.row i hlt
  rw [hoi6'] at c4
  simp only at c4
  rw [hidx3,aG,ak hb33 c3,aM.len c4.eu,hxl6,bL]
  refine aI (fun hlt2=>?_) (fun hge2=>?_)
  ·have hlt2:k<ls[i].2.length:=by simpa using hlt2
   have hltx:k<xs'.length:=by omega
   have hxk:xs'[k]=ls[i].2[k]:=by
    have:=hxe6 k (Nat.le_refl _)
    rw [List.getElem?_eq_getElem hltx,List.getElem?_eq_getElem hlt2] at this
    exact Option.some.inj this
   obtain ⟨e1,o1,_,_,hi1,hc1⟩:=Sl.qX (E:=aS) c4.eu (k:Int) hltx
   obtain ⟨e2,o2,_,_,hi2,hc2⟩:=Sl.qX (E:=aS) d4.eu (k:Int) hlt2
   rw [hidx3,aG,ak hb33 c3,hi1,jC (hc1 _ rfl),hidx4,aG,ak hb43 d3,hi2,jC (hc2 _ rfl),hxk,gD,show ((ls[i].2[k] : Int) != ls[i].2[k])=false by simp,bK]
   obtain ⟨b5,hb5,hi5,hst⟩:=op6.write (x:=99) hlt6 (k:=k) (by rw [hoi6']; exact hltx)
   rw [hidx3,aG,ak hb33 c3,hi5]
   refine hst _ fun M7 op7 k7=>?_
   have hb5':=hwlt i hlt b5 hb5
   rw [hoi6'] at op7
   rw [bH,dQ (by omega)]
   have n7:=k7.next
   refine hnext2 _ _ _ (by omega) ⟨k + 1,_,xs'.set k 99,rfl,rfl,by omega,k6.bi k7 (fun d hd=>by simp at hd; omega),by omega,by rw [List.length_set]; exact hol6,fun j hj=>?_, ?_,by rw [List.length_set]; exact hxl6,fun j hj=>?_,op7,oq6.keep k7 (fun d hd=>by simp at hd; omega)⟩
   ·rw [List.getElem?_set_ne (by omega)]; exact hoe6 j hj
   ·rw [List.getElem?_set_self hlt6]
   ·rw [List.getElem?_set_ne (by omega)]; exact hxe6 j (by omega)
  ·rw [bH,dQ (by omega)]
   exact hstep M6 out' k6 n6 hol6 hoe6 op6 oq6
 ·exact hQ M5 k5
end Go.Ab.aC
set_option maxRecDepth 10000
set_option linter.unusedVariables false
set_option linter.unusedSimpArgs false
namespace Go.Ab.aC
open Go Go.Ab
theorem Wd {ps:List Pt} {d:aC} : (lg ps d).2.length=ps.length:=by
 unfold lg
 split
 ·split
  ·simp only; rw [List.length_set]
  ·rfl
 ·rfl
structure acY (l:List aC) (i:Nat) (ps:List Pt) : Prop where
 len:ps.length=16
 wf:∀ p∈ps,iZ p
 few:∀ p∈ps,p.2.length≤i
 has:∀ k (hk:k<l.length),k<i→good l[k]=true→dB ps l[k]=true
end Go.Ab.aC
set_option maxRecDepth 10000
set_option linter.unusedVariables false
set_option linter.unusedSimpArgs false
namespace Go.Ab.aC
open Go Go.Ab
theorem qW {a b:aC} : iR a b=true↔a.1<b.1∨(a.1=b.1∧a.2<b.2):=by
 simp [iR]
theorem Lp {a:aC} : ¬ iR a a=true:=by rw [qW]; omega
theorem RJ {a b:aC} (h:iR a b=true) : ¬ iR b a=true:=by rw [qW] at *; omega
theorem yz {a b c:aC} (h:iR a b=true) (k:iR b c=true) : iR a c=true:=by rw [qW] at *; omega
theorem Vm {a b:aC} (h:¬ iR a b=true) (hne:a≠b) : iR b a=true:=by
 rw [qW] at *
 have:¬ (a.1=b.1∧a.2=b.2):=fun ⟨h1,h2⟩=>hne (Prod.ext h1 h2)
 omega
def zy (l:List aC) : Prop:=l.Pairwise fun a b=>iR a b=true
theorem Rj:∀ {xs ys:List aC},zy xs→zy ys→(∀ x,x∈xs↔x∈ys)→xs=ys
 | [],[],_,_,_=>rfl
 | [],y :: ys,_,_,h=>by have:=(h y).2 (by simp); simp at this
 | x :: xs,[],_,_,h=>by have:=(h x).1 (by simp); simp at this
 | x :: xs,y :: ys,h1,h2,h=>by
   have a1:=List.pairwise_cons.1 h1
   have a2:=List.pairwise_cons.1 h2
   have hxy:x=y:=by
    rcases List.mem_cons.1 ((h x).1 (by simp)) with e | e
    ·exact e
    ·rcases List.mem_cons.1 ((h y).2 (by simp)) with e' | e'
     ·exact e'.symm
     ·exact absurd (a1.1 y e') (RJ (a2.1 x e))
   subst hxy
   rw [Rj a1.2 a2.2 fun z=>⟨fun hz=>?_,fun hz=>?_⟩]
   ·rcases List.mem_cons.1 ((h z).1 (by simp [hz])) with rfl | e
    ·exact absurd (a1.1 z hz) Lp
    ·exact e
   ·rcases List.mem_cons.1 ((h z).2 (by simp [hz])) with rfl | e
    ·exact absurd (a2.1 z hz) Lp
    ·exact e
theorem X3 {l:List aC} {d x:aC} : x∈sM l d↔x=d∨x∈l:=by
 unfold sM
 split
 ·rename_i h
  exact ⟨.inr,fun h'=>by rcases h' with rfl | h'; exact h; exact h'⟩
 ·rw [List.mem_append,List.mem_cons]
  conv=>rhs; rw [← List.take_append_drop (xc d l) l,List.mem_append]
  constructor
  ·rintro (h | h | h)
   ·exact .inr (.inl h)
   ·exact .inl h
   ·exact .inr (.inr h)
  ·rintro (h | h | h)
   ·exact .inr (.inl h)
   ·exact .inl h
   ·exact .inr (.inr h)
theorem NT {d:aC} : ∀ {l:List aC},zy l→d ∉ l→zy (l.take (xc d l)++d :: l.drop (xc d l))
 | [],_,_=>by simp [zy,xc]
 | x :: l,h,hd=>by
   have a:=List.pairwise_cons.1 h
   simp only [List.mem_cons,not_or] at hd
   by_cases hx:iR x d=true
   ·have e:xc d (x :: l)=xc d l + 1:=by simp [xc,hx]
    rw [e,List.take_succ_cons,List.drop_succ_cons,List.cons_append]
    refine List.pairwise_cons.2 ⟨fun y hy=>?_,NT a.2 hd.2⟩
    rcases List.mem_append.1 hy with hy | hy
    ·exact a.1 y (List.mem_of_mem_take hy)
    ·rcases List.mem_cons.1 hy with rfl | hy
     ·exact hx
     ·exact a.1 y (List.mem_of_mem_drop hy)
   ·have e:xc d (x :: l)=0:=by simp [xc,hx]
    rw [e,List.take_zero,List.drop_zero,List.nil_append]
    have hdx:=Vm hx (fun e=>hd.1 e.symm)
    refine List.pairwise_cons.2 ⟨fun y hy=>?_,h⟩
    rcases List.mem_cons.1 hy with rfl | hy
    ·exact hdx
    ·exact yz hdx (a.1 y hy)
theorem PP {l:List aC} {d:aC} (h:zy l) : zy (sM l d):=by
 unfold sM
 split
 ·exact h
 ·rename_i hd; exact NT h hd
def nums (p:Pt) : List Nat:=List.range' 1 p.1++p.2
def NU (i:Nat) (p:Pt) : List aC:=(nums p).map fun n=>((i:Int),n)
def jN (ps:List Pt) : Nat→List aC
 | 0=>[]
 | i + 1=>jN ps i++NU i (ps.getD i (0,[]))
theorem Nf {p:Pt} {n:Nat} : n∈nums p↔il p n=true:=by
 rw [gV,nums,List.mem_append,List.mem_range'_1]
 constructor
 ·rintro (h | h)
  ·exact .inl (by omega)
  ·exact .inr h
 ·rintro (h | h)
  ·exact .inl (by omega)
  ·exact .inr h
theorem vP {ps:List Pt} {d:aC} : ∀ {i:Nat},d∈jN ps i↔0≤d.1∧d.1<i∧il (ps.getD d.1.toNat (0,[])) d.2=true
 | 0=>by simp [jN]; omega
 | i + 1=>by
   rw [jN,List.mem_append,vP,NU,List.mem_map]
   constructor
   ·rintro (⟨h1,h2,h3⟩ | ⟨n,h,rfl⟩)
    ·exact ⟨h1,by omega,h3⟩
    ·exact ⟨by simp,by simp; omega,by simpa using Nf.1 h⟩
   ·rintro ⟨h1,h2,h3⟩
    by_cases h:d.1<i
    ·exact .inl ⟨h1,h,h3⟩
    ·have e:d.1.toNat=i:=by omega
     rw [e] at h3
     exact .inr ⟨d.2,Nf.2 h3,Prod.ext (by simp; omega) rfl⟩
theorem Wp {p:Pt} (h:iZ p) : Asc (nums p):=by
 unfold nums Asc
 rw [List.pairwise_append]
 refine ⟨List.pairwise_lt_range',h.1,fun a ha b hb=>?_⟩
 have:=List.mem_range'_1.1 ha
 have:=h.2.1 b hb
 omega
theorem vM {ps:List Pt} (h:∀ p∈ps,iZ p) : ∀ i,zy (jN ps i)
 | 0=>.nil
 | i + 1=>by
   unfold zy
   rw [jN,List.pairwise_append]
   refine ⟨vM h i, ?_,fun a ha b hb=>?_⟩
   ·rw [NU,List.pairwise_map]
    exact List.Pairwise.imp (fun {a b} (hab:a<b)=>by rw [qW]; exact .inr ⟨rfl,hab⟩) (Wp (nK h i))
   ·have h1:=(vP.1 ha).2.1
    rw [NU,List.mem_map] at hb
    obtain ⟨n,_,rfl⟩:=hb
    exact qW.2 (.inl h1)
theorem xZ {ps:List Pt} (h:∀ p∈ps,iZ p) (d:aC) : d∈jN ps 16↔dB ps d=true:=by
 rw [vP,dB,Bool.and_eq_true]
 constructor
 ·rintro ⟨h1,h2,h3⟩
  refine ⟨?_,h3⟩
  have hw:=nK h d.1.toNat
  have:1≤d.2∧d.2≤1099511627776:=by
   rcases gV.1 h3 with h | h
   ·have:=hw.2.2.1; omega
   ·have:=hw.2.1 _ h; have:=hw.2.2.2.1 _ h; omega
  simp [good]; omega
 ·rintro ⟨h1,h3⟩
  simp [good] at h1
  exact ⟨by omega,by omega,h3⟩
def uE:List eF→Option Int→List aC→List eF
 | o,_,[]=>o
 | o,p,d :: ds=>uE (yu (if p=some d.1 then o else o++[((d.1.toNat,0),[])]) d.2) (some d.1) ds
theorem Dw {l:List aC} : ∀ (k i:Nat),i + k=l.length→uE (fK l i) (if i=0 then none else some (l.getD (i - 1) (0,0)).1) (l.drop i)=fA l
 | 0,i,h=>by
   rw [List.drop_of_length_le (by omega),uE,fA]
   congr 1
 | k + 1,i,h=>by
   have hi:i<l.length:=by omega
   have hD:l.getD i (0,0)=l[i]:=mH hi
   have ih:=Dw (l:=l) k (i + 1) (by omega)
   rw [if_neg (show ¬ i + 1=0 by omega),Nat.add_sub_cancel,fK,hD] at ih
   rw [List.drop_eq_getElem_cons hi,uE,← ih]
   congr 2
   unfold qA
   rw [hD]
   by_cases h0:i=0
   ·subst h0; simp
   ·rw [if_neg h0]
    by_cases he:l[i].1=(l.getD (i - 1) (0,0)).1
    ·rw [if_pos (by rw [he]),if_neg (by rintro (h | h); exact h0 h; exact h he)]
    ·rw [if_neg (fun h=>he (Option.some.inj h).symm),if_pos (.inr he)]
theorem IJ (o:List eF) (p:eF) (n:Nat) : yu (o++[p]) n=o++[bump p n]:=by
 have e:(o++[p]).length - 1=o.length:=by simp
 unfold yu
 rw [e,List.getD_eq_getElem?_getD,List.getElem?_append_right (Nat.le_refl _),List.set_append_right _ _ (Nat.le_refl _)]
 simp
theorem LJ (i:Int) : ∀ (xs:List Nat) (o:List eF) (p:eF) (rest:List aC),uE (o++[p]) (some i) (xs.map (fun n=>(i,n))++rest)=uE (o++[xs.foldl bump p]) (some i) rest
 | [],_,_,_=>rfl
 | x :: xs,o,p,rest=>by
   rw [List.map_cons,List.cons_append,uE,if_pos rfl,IJ,LJ i xs,List.foldl_cons]
theorem Jp (i:Nat) : ∀ (k a:Nat),(List.range' (a + 1) k).foldl bump ((i,a),[])=((i,a + k),[])
 | 0,a=>rfl
 | k + 1,a=>by
   rw [List.range'_succ,List.foldl_cons,bump,if_pos ⟨rfl,rfl⟩,Jp i k (a + 1)]
   congr 2; omega
theorem LQ (q:Nat × Nat) : ∀ (xs ys:List Nat),ys≠[]→xs.foldl bump (q,ys)=(q,ys++xs)
 | [],ys,_=>by simp
 | x :: xs,ys,h=>by
   rw [List.foldl_cons,bump,if_neg (fun h'=>h h'.1),LQ q xs _ (by simp),List.append_assoc]; rfl
theorem Vt {i:Nat} {p:Pt} (h:iZ p) : (nums p).foldl bump ((i,0),[])=((i,p.1),p.2):=by
 obtain ⟨u,xs⟩:=p
 rw [nums,List.foldl_append,show (1:Nat)=0 + 1 from rfl,Jp i u 0,Nat.zero_add]
 cases xs with
 | nil=>rfl
 | cons x xs =>
   have:=h.2.1 x (by simp)
   rw [List.foldl_cons,bump,if_neg (fun h'=>by simp only at h' this; omega),LQ _ _ _ (by simp)]
   rfl
theorem Fw {ps:List Pt} (h:∀ p∈ps,iZ p) : ∀ i:Nat,∃ p:Option Int,(∀ j,p=some j→j<i)∧∀ rest,uE [] none (jN ps i++rest)=uE (jh ps i) p rest
 | 0=>⟨none,by simp,fun rest=>rfl⟩
 | i + 1=>by
   obtain ⟨p,hp,hr⟩:=Fw h i
   have hw:=nK h i
   by_cases he:0<(ps.getD i (0,[])).1∨0<(ps.getD i (0,[])).2.length
   ·refine ⟨some (i:Int),fun j hj=>by have:=Option.some.inj hj; omega,fun rest=>?_⟩
    rw [jN,List.append_assoc,hr,jh,if_pos he,NU]
    have hne:nums (ps.getD i (0,[]))≠[]:=by
     unfold nums
     intro h0
     obtain ⟨q1,q2⟩:=List.append_eq_nil_iff.1 h0
     have q1:=congrArg List.length q1
     have q2:=congrArg List.length q2
     rw [List.length_range'] at q1
     simp only [List.length_nil] at q1 q2
     omega
    have hb:=Vt (i:=i) hw
    generalize nums (ps.getD i (0,[]))=ns at *
    cases ns with
    | nil=>exact absurd rfl hne
    | cons n ns =>
      rw [List.map_cons,List.cons_append,uE,if_neg (fun h'=>by have:=hp _ h'; omega),IJ,LJ,← hb,List.foldl_cons,Int.toNat_natCast]
   ·refine ⟨p,fun j hj=>by have:=hp j hj; omega,fun rest=>?_⟩
    rw [jN,List.append_assoc,hr,jh,if_neg he,List.append_nil]
    have e:NU i (ps.getD i (0,[]))=[]:=by
     unfold NU nums
     have h1:(ps.getD i (0,[])).1=0:=by omega
     have h2:(ps.getD i (0,[])).2=[]:=List.length_eq_zero_iff.1 (by omega)
     rw [h1,h2]; rfl
    rw [e,List.nil_append]
theorem Oj {ps:List Pt} (h:∀ p∈ps,iZ p) : fA (jN ps 16)=parts ps:=by
 rw [← Dw (l:=jN ps 16) (jN ps 16).length 0 (by omega)]
 obtain ⟨p,_,hr⟩:=Fw h 16
 have:=hr []
 rw [List.append_nil] at this
 simp only [fK,if_true,List.drop_zero]
 rw [this]; rfl
structure nN (ps:List Pt) (w:List aC) : Prop where
 len:ps.length=16
 wf:∀ p∈ps,iZ p
 srt:zy w
 mem:∀ d,d∈w↔dB ps d=true
theorem nN.eq {ps:List Pt} {w:List aC} (h:nN ps w) : w=jN ps 16:=Rj h.srt (vM h.wf 16) fun d=>by rw [h.mem,xZ h.wf]
theorem nN.parts {ps:List Pt} {w:List aC} (h:nN ps w) : parts ps=fA w:=by rw [h.eq,Oj h.wf]
theorem nN.good {ps:List Pt} {w:List aC} (h:nN ps w) : ∀ d∈w,good d=true:=fun d hd=>by
 have:=(h.mem d).1 hd
 rw [dB,Bool.and_eq_true] at this
 exact this.1
theorem nN.empty:nN jE []:=by
 refine ⟨rfl,OQ,.nil,fun d=>?_⟩
 rw [dB,Bi]
 simp [il]
 intro _ h; omega
end Go.Ab.aC
set_option maxRecDepth 10000
set_option linter.unusedVariables false
set_option linter.unusedSimpArgs false
namespace Go.Ab.aC
open Go Go.Ab
theorem VC {M:RM} {base T:Nat} {v:AV} {xs:List Nat} (h:Ow aS M base T v xs) (hn:0<xs.length) : ∃ b,v=vv b xs.length∧base≤b∧b<M.next∧M=PM M b T xs.toArray:=by
 obtain ⟨b,h1,h2,h3,h4,h5⟩:=Own.wI h hn
 refine ⟨b,h1,h2,h3, ?_⟩
 unfold PM RM.put
 obtain ⟨n,hp,lo⟩:=M
 simp only at h4 ⊢
 congr 1
 funext c
 by_cases hc:c=b
 ·subst hc; rw [if_pos rfl,h4]
 ·rw [if_neg hc]
theorem ZR {M:RM} {b T base:Nat} {d:Array Nat} (h1:base≤b) (h2:b<M.next) : Ow aS (PM M b T d) base T (vv b d.size) d.toList:=by
 have:Own (PM M b T d) base T 1 (.slc b 0 d.size (.op 1)) (aS.row d.toList) d.size:=.op _ _ _ h1 h2 PM.heap (by rw [PM.FX]; omega)
 show Own (PM M b T d) base T 1 (.slc b 0 d.size (.op 1)) (aS.row d.toList) d.toList.length
 rw [Array.length_toList]; exact this
theorem Ro {M M' : RM} {b T:Nat} {d:Array Nat} (k:ah [] M M') : ah [b] M (PM M' b T d):=(k.mono (by simp)).put _ (.inr (by simp))
def iw (xs:List Nat) : List Nat:=(Sort.sort lN xs.toArray).toList
theorem UJ:iw []=[]:=by
 unfold iw Sort.sort
 rw [pdq_eq,if_pos (by simp),Sort.insertionSort,Sort.insOuter,if_neg (by simp)]
theorem IE (xs:List Nat) : (iw xs).Perm xs:=by
 have h:=(Sort.sort_sorts lN Oz xs.toArray).1
 have h2:=h.2.2
 rw [Array.extract_eq_self_of_le (by rw [h.1]; exact Nat.le_refl _),Array.extract_eq_self_of_le (Nat.le_refl _)] at h2
 exact h2
theorem Dm (xs:List Nat) : (iw xs).length=xs.length:=(IE xs).length_eq
theorem Xk (xs:List Nat) : Up (iw xs):=by
 intro i j hi hj hij
 have h:=(Sort.sort_sorts lN Oz xs.toArray)
 have hs:(Sort.sort lN xs.toArray).size=xs.toArray.size:=h.1.1
 unfold iw at hi hj ⊢
 rw [Array.length_toList] at hi hj
 rcases Nat.lt_or_ge i j with h1 | h1
 ·have:=h.2 i j (Nat.zero_le _) h1 (by omega)
  rw [tC hj,tC hi] at this
  rw [Array.getElem_toList,Array.getElem_toList]
  have:=of_decide_eq_false this
  omega
 ·have:i=j:=by omega
  subst this; exact Nat.le_refl _
def NP (c:av) : Prop:=∀ {M:RM} {v:AV} {Q:ai},Q (.tup []) M→c [v,N .i64 0,N .i64 ((0:Nat) : Int),N .i64 ((0:Nat) : Int)] M Q
def NM (c:av) : Prop:=∀ {M:RM} {v:AV} {Q:ai},Q (.tup []) M→c [v,N .i64 0,N .i64 ((0:Nat) : Int)] M Q
theorem Qo {cl:av} : NM fun args M Q=>∃ a0 a1 a2,args=[a0,a1,a2]∧eY cl a0 a1 a2 M Q:=by
 intro M v Q hQ
 refine ⟨_,_,_,rfl, ?_⟩
 unfold eY
 rw [bH,show IntKind.i64.wrap ((0:Int) + 1)=1 from rfl]
 refine aJ (fun m ys M3=>m=0∧ys=[N .i64 1]∧M3=M) 0 ⟨rfl,rfl,rfl⟩ ?_
 rintro next m ys M3 hnext ⟨rfl,rfl,rfl⟩
 dsimp only [aa]
 rw [bL,show decide ((1:Int)<((0:Nat) : Int))=false from rfl,bK]
 exact hQ
theorem P7 {ci c2 c3 cc c4 cp c5 c6 c7 c8:av} (hi:NM ci) : NP fun args M Q=>∃ a0 a1 a2 a3,args=[a0,a1,a2,a3]∧gN ci c2 c3 cc c4 cp c5 c6 c7 c8 a0 a1 a2 a3 M Q:=by
 intro M v Q hQ
 refine ⟨_,_,_,_,rfl, ?_⟩
 unfold gN
 refine aJ (fun m ys M3=>m=0∧ys=[N .i64 0,N .i64 ((0:Nat) : Int),N .i64 ((0:Nat) : Int),Bo true,Bo true]∧M3=M) 0 ⟨rfl,rfl,rfl⟩ ?_
 rintro next m ys M3 hnext ⟨rfl,rfl,rfl⟩
 dsimp only [aa]
 rw [gT,show IntKind.i64.wrap (((0:Nat) : Int) - 0)=0 from rfl,lW,show decide ((0:Int)≤12)=true from rfl,dP]
 exact hi hQ
theorem Tu {T:Nat} {cl cp:av} (hl:CQ cl) (hp:∀ m,SG T m cp) (h0:NP cp) : Ug (fun xs=>xs.length≤60000) iw T fun args M Q=>∃ a0,args=[a0]∧u6 cl cp a0 M Q:=by
 intro M base v xs Q ho hx hQ
 have hs:Sl aS M v xs:=ho.eu
 refine ⟨_,rfl, ?_⟩
 unfold u6
 have hx:xs.length≤60000:=hx
 rw [aM.len hs,eX,dx (by omega) (by omega)]
 refine hl (by omega) ?_
 rcases Nat.eq_zero_or_pos xs.length with hn | hn
 ·rw [hn,show Sort.bitsLen 0=0 from rfl]
  refine h0 ?_
  have:=List.length_eq_zero_iff.1 hn
  subst this
  exact hQ M (by rw [UJ]; exact ho) (ah.refl _ _)
 ·obtain ⟨b,rfl,h1,h2,h3⟩:=VC ho hn
  have hb:=zG hn (by omega)
  have hsz:xs.toArray.size=xs.length:=by simp
  have:=hp (xs.length + 1) (M:=M) (b:=b) (a:=0) (e:=xs.toArray.size) (limit:=Sort.bitsLen xs.length) (d:=xs.toArray) (Q:=fun bQ M_0=>Q (.tup []) M_0) h2 (by omega) (by omega) (Nat.le_refl _) (by omega) (by omega) fun M' k=>?_
  ·rw [← h3] at this
   simpa using this
  ·have e:(Sort.pdq lN xs.toArray 0 xs.toArray.size (Sort.bitsLen xs.length) true true)=Sort.sort lN xs.toArray:=by rw [Sort.sort]; simp
   rw [e]
   refine hQ _ ?_ (Ro k)
   have hsz2:(Sort.sort lN xs.toArray).size=xs.length:=by
    have:=Dm xs
    unfold iw at this
    rw [Array.length_toList] at this; exact this
   have:=ZR (M:=M') (T:=T) (d:=Sort.sort lN xs.toArray) h1 (Nat.lt_of_lt_of_le h2 k.next)
   rw [hsz2] at this
   exact this
def vD:Nat→List Nat→List Nat
 | _,[]=>[]
 | p,x :: xs=>if x=p then vD x xs else x :: vD x xs
def dd:List Nat→List Nat
 | []=>[]
 | x :: xs=>x :: vD x xs
theorem Pp:∀ (ys:List Nat) (p x:Nat),vD p (ys++[x])=if x=ys.getLastD p then vD p ys else vD p ys++[x]
 | [],p,x=>rfl
 | y :: ys,p,x=>by
   rw [List.cons_append,vD,vD,Pp ys y x,List.getLastD_cons]
   by_cases hy:y=p
   ·rw [if_pos hy,if_pos hy]
   ·rw [if_neg hy,if_neg hy]
    split
    ·rfl
    ·rfl
theorem Lg:∀ (k:Nat) (ys:List Nat) (y:Nat) (h:k<(y :: ys).length),(ys.take k).getLastD y=(y :: ys)[k]
 | 0,ys,y,h=>rfl
 | k + 1,[],y,h=>by simp at h
 | k + 1,z :: zs,y,h=>by
   rw [List.take_succ_cons,List.getLastD_cons,Lg k zs z (by simpa using h)]
   rfl
theorem Re {xs:List Nat} {m:Nat} (h1:1≤m) (h:m<xs.length) : dd (xs.take (m + 1))=if xs[m]=xs[m - 1] then dd (xs.take m) else dd (xs.take m)++[xs[m]]:=by
 rw [List.take_succ_eq_append_getElem h]
 cases xs with
 | nil=>simp at h
 | cons y ys =>
   obtain ⟨k,rfl⟩ : ∃ k,m=k + 1:=⟨m - 1,by omega⟩
   have hk:k<(y :: ys).length:=by omega
   rw [List.take_succ_cons,List.cons_append,dd,dd,Pp,Lg k ys y hk]
   simp only [Nat.add_sub_cancel]
   split <;> simp
theorem aag:∀ (xs:List Nat),(dd xs).length≤xs.length
 | []=>Nat.le_refl _
 | x :: xs=>by
   have:∀ (p:Nat) (l:List Nat),(vD p l).length≤l.length:=by
    intro p l
    induction l generalizing p with
    | nil=>exact Nat.le_refl _
    | cons y l ih=>rw [vD]; split <;> simp <;> have:=ih y <;> omega
   rw [dd]; simp; exact this x xs
theorem SF {b o n k:Nat} (h:k≤n) (h0:0<n) : bR 1 (.slc b o n (.op 1)) none (some (N .i64 (k:Int))) none=some (.slc b o k (.op 1)):=by
 simp only [bR,bnd]
 simp [h]
 omega
theorem Md {T:Nat} : Ha (fun xs=>xs.length≤60000) dd T fun args M Q=>∃ a0,args=[a0]∧qE a0 M Q:=by
 intro M base v xs Q ho hx hQ
 have hx:xs.length≤60000:=hx
 have hs:Sl aS M v xs:=ho.eu
 refine ⟨_,rfl, ?_⟩
 unfold qE
 have hself:dd xs=xs→Q v M:=fun e=>hQ v M (by rw [e]; exact hs) (Own.kY ho) (fun d hd=>hd) (ah.refl _ _)
 rw [aM.len hs,bL]
 refine aI (fun hg=>?_) (fun hg=>?_)
 ·have hg:xs.length<2:=by
   have:(xs.length:Int)<2:=of_decide_eq_true hg
   omega
  refine hself ?_
  match xs,hg with
  | [],_=>rfl
  | [x],_=>rfl
 have hg:2≤xs.length:=by
  have:¬ (xs.length:Int)<2:=of_decide_eq_false hg
  omega
 obtain ⟨b,rfl,h1,h2,h3⟩:=VC ho (by omega)
 have hsz:xs.toArray.size=xs.length:=by simp
 have hat:∀ i (h:i<xs.length),xs.toArray[i]! = xs[i]:=fun i h=>by rw [tC (by simpa using h)]; simp
 clear hs
 have hself:=hself
 simp only [cZ]
 refine aJ (fun m ys M3=>∃ i:Nat,m=xs.length - i∧ys=[N .i64 (i:Int)]∧1≤i∧i≤xs.length∧M3=PM M b T xs.toArray∧dd (xs.take i)=xs.take i) _ ⟨1,rfl,rfl,Nat.le_refl _,by omega,h3,by
  match xs,hg with
  | x :: y :: l,_=>rfl⟩ ?_
 rintro next m ys M3 hnext ⟨i,rfl,rfl,hi1,hi,rfl,hdd⟩
 dsimp only [aa]
 have lenV:∀ K:AV→Prop,bu (vv b xs.length) K=K (N .i64 (xs.length:Int)):=fun K=>by simp [lV]
 rw [lenV,dX]
 refine aI (fun hlt=>?_) (fun hge=>?_)
 rotate_left
 ·have he:i=xs.length:=by
   have:¬ i<xs.length:=of_decide_eq_false hge
   omega
  subst he
  rw [List.take_length] at hdd
  rw [← h3]
  exact hself hdd
 have hlt:i<xs.length:=of_decide_eq_true hlt
 rw [PM.rd hsz.symm (by omega),dm (by omega) (by omega),PM.rd hsz.symm (by omega),hat i hlt,hat (i - 1) (by omega),di]
 have hstep:=Re hi1 hlt
 by_cases heq:xs[i]=xs[i - 1]
 rotate_left
 ·rw [show (((xs[i] : Nat) : Int) == ((xs[i - 1]'(by omega) : Nat) : Int))=false by rw [beq_eq_false_iff_ne]; omega,bK,add1 (by omega)]
  rw [if_neg heq,hdd] at hstep
  exact hnext _ _ _ (by omega) ⟨i + 1,rfl,rfl,by omega,hlt,rfl,by rw [hstep,← List.take_succ_eq_append_getElem hlt]⟩
 rw [show (((xs[i] : Nat) : Int) == ((xs[i - 1]'(by omega) : Nat) : Int))=true by rw [beq_iff_eq]; omega,dP]
 rw [if_pos heq,hdd] at hstep
 rw [nS hlt,dD]
 have lenV2:∀ K:AV→Prop,bu (.slc b (0 + i * 1) (xs.length - i) (.op 1)) K=K (N .i64 ((xs.length - i:Nat) : Int)):=fun K=>by simp [lV]
 have idx2:∀ (j:Nat),j<xs.length - i→∀ (K:AV→Prop),ax (.slc b (0 + i * 1) (xs.length - i) (.op 1)) (N .i64 (j:Int)) 1 K=K (.ptr b (i + j)):=fun j hj K=>by
  rw [lQ]
  simp only [Int.toNat_natCast]
  rw [show 0 + i * 1 + j * 1=i + j by omega]
  exact propext ⟨fun h=>h.2.2,fun h=>⟨by omega,by omega,h⟩⟩
 -- the rest: moved down
 refine aJ (fun m ys M5=>∃ (k j:Nat) (d:Array Nat),m=xs.length - j∧ys=[N .i64 (k:Int),N .i64 (j:Int)]∧1≤j∧i + j≤xs.length∧1≤k∧k + 1≤i + j∧M5=PM M b T d∧d.size=xs.length∧d.toList.take k=dd (xs.take (i + j))∧(∀ q (h:q<xs.length),i + j≤q + 1→d[q]! = xs[q])) _
  ⟨i,1,xs.toArray,rfl,rfl,by omega,by omega,by omega,by omega,rfl,hsz,by rw [hstep],fun q h _=>hat q h⟩ ?_
 rintro next2 m ys M5 hnext2 ⟨k,j,d,rfl,rfl,hj1,hij,hk1,hk,rfl,hds,hpre,hold⟩
 dsimp only [aa]
 rw [lenV2,dX]
 refine aI (fun hlt2=>?_) (fun hge2=>?_)
 ·have hlt2:j<xs.length - i:=of_decide_eq_true hlt2
  have hij' : i + j<xs.length:=by omega
  refine bn (fun zs M'=>∃ (k' : Nat) (d' : Array Nat),zs=[N .i64 (k' : Int)]∧1≤k'∧k'≤i + j∧M'=PM M b T d'∧d'.size=xs.length∧d'.toList.take k'=dd (xs.take (i + j + 1))∧(∀ q (h:q<xs.length),i + j≤q→d'[q]! = xs[q])) ?_ ?_
  ·rintro zs M' ⟨k',d',rfl,c1,c2,rfl,c3,c4,c5⟩
   dsimp only [aa]
   rw [add1 (by omega)]
   exact hnext2 _ _ _ (by omega) ⟨k',j + 1,d',rfl,rfl,by omega,by omega,c1,by omega,rfl,c3,c4,fun q h hq=>c5 q h (by omega)⟩
  intro J hJ
  have hst2:=Re (xs:=xs) (m:=i + j) (by omega) hij'
  have ld:∀ q (h:q<xs.length) (K:AV→Prop),aj (PM M b T d) (.ptr b q) K=K (N .u64 ((d[q]! : Nat) : Int)):=fun q h K=>ak PM.heap (PM.cellAt (by omega))
  rw [idx2 j hlt2,ld _ hij',dm (by omega) (by omega),idx2 (j - 1) (by omega),ld _ (by omega),hold (i + j) hij' (by omega),hold (i + (j - 1)) (by omega) (by omega),gD]
  have hpe:xs[i + (j - 1)]'(by omega)=xs[i + j - 1]'(by omega):=by congr 1; omega
  rw [hpe]
  by_cases hne:xs[i + j]=xs[i + j - 1]'(by omega)
  ·rw [show (((xs[i + j] : Nat) : Int) != ((xs[i + j - 1]'(by omega) : Nat) : Int))=false by rw [hne]; simp,bK]
   rw [if_pos hne] at hst2
   exact hJ _ _ ⟨k,d,rfl,hk1,by omega,rfl,hds,by rw [hst2]; exact hpre,fun q h hq=>hold q h (by omega)⟩
  ·rw [show (((xs[i + j] : Nat) : Int) != ((xs[i + j - 1]'(by omega) : Nat) : Int))=true by simp only [bne_iff_ne,ne_eq]; omega,dP]
   rw [if_neg hne] at hst2
   rw [idx2 j hlt2,ld _ hij',hold (i + j) hij' (by omega),PM.idx (by omega),PM.put (by omega),add1 (by omega)]
   refine hJ _ _ ⟨k + 1,_,rfl,by omega,by omega,rfl,by simpa using hds, ?_,fun q h hq=>?_⟩
   ·have hkl:k<d.toList.length:=by rw [Array.length_toList]; omega
    rw [hst2,← hpre,Array.toList_setIfInBounds,List.take_succ_eq_append_getElem (by rw [List.length_set]; exact hkl),List.getElem_set_self,List.take_set_of_le (Nat.le_refl _)]
   ·rw [← hold q h (by omega)]
    rw [tC (by rw [Array.size_setIfInBounds]; omega),tC (by omega),Array.getElem_setIfInBounds_ne (by omega) (by omega)]
 ·have hij' : i + j=xs.length:=by
   have:¬ j<xs.length - i:=of_decide_eq_false hge2
   omega
  rw [hij',List.take_length] at hpre
  have hst:(PM M b T d).stores b (0 + k * 1) (bM [N .u64 0] (xs.length - k))=some ((PM M b T d).put b (.row ((aS.row d.toList).take (0 + k * 1)++bM [N .u64 0] (xs.length - k)++(aS.row d.toList).drop (0 + k * 1 + (bM [N .u64 0] (xs.length - k)).length)) true T 0)):=by
   refine RM.Ae PM.heap ?_ (Nat.zero_le _) (om _).2
   rw [(om _).1,PM.FX]; omega
  rw [nS (by omega),dD]
  refine .inl ⟨_,_,_,_,_,rfl,hst, ?_⟩
  dsimp only
  rw [SF (by omega) (by omega),dD]
  have hlk:(dd xs).length=k:=by rw [← hpre,List.length_take,Array.length_toList]; omega
  refine hQ _ _ ?_ (show (1:Nat)=1 from rfl) (fun e he=>by simpa [aF] using he) ?_
  ·have hrow:((aS.row d.toList).take (0 + k * 1))=aS.row (dd xs):=by
    rw [← hpre,show 0 + k * 1=k * aS.size by simp [aS],Enc.uk]
   show aM _ 1 (.slc b 0 k (.op 1)) (aS.row (dd xs)) (dd xs).length
   rw [hlk]
   refine .slc _ _ _ _ _ h2 ?_
   have hl:(aS.row (dd xs)).length=k:=by rw [Enc.ed,hlk]; simp [aS]
   rw [RM.dh (aZ _) (by rw [hrow]; simp [hl]),List.drop_zero,hrow,Nat.mul_one,List.append_assoc,List.take_left' hl]
  ·refine ah.put ?_ _ (.inr (by simp [aF]))
   exact Ro (ah.refl _ _)
end Go.Ab.aC
set_option maxRecDepth 10000
set_option linter.unusedVariables false
set_option linter.unusedSimpArgs false
namespace Go.Ab.aC
open Go Go.Ab
theorem aaL {xs:List Nat} (h:Up xs) : xs.Pairwise (· ≤ ·):=List.pairwise_iff_getElem.2 fun i j hi hj hij=>h i j hi hj (Nat.le_of_lt hij)
theorem LH:∀ (ys:List Nat) (p:Nat),(p :: ys).Pairwise (· ≤ ·)→Asc (vD p ys)∧(∀ x∈vD p ys,p<x)∧∀ x,x∈vD p ys↔x∈ys∧x≠p
 | [],p,_=>⟨.nil,by simp [vD],by simp [vD]⟩
 | y :: ys,p,h=>by
   have a1:=List.pairwise_cons.1 h
   have a2:=List.pairwise_cons.1 a1.2
   obtain ⟨i1,i2,i3⟩:=LH ys y a1.2
   have hpy:p≤y:=a1.1 y (by simp)
   rw [vD]
   by_cases hy:y=p
   ·rw [if_pos hy]
    subst hy
    refine ⟨i1,i2,fun x=>?_⟩
    rw [i3,List.mem_cons]
    constructor
    ·rintro ⟨h1,h2⟩; exact ⟨.inr h1,h2⟩
    ·rintro ⟨h1 | h1,h2⟩
     ·exact absurd h1 h2
     ·exact ⟨h1,h2⟩
   ·rw [if_neg hy]
    refine ⟨List.pairwise_cons.2 ⟨i2,i1⟩,fun x hx=>?_,fun x=>?_⟩
    ·rcases List.mem_cons.1 hx with rfl | hx
     ·omega
     ·have:=i2 x hx; omega
    ·rw [List.mem_cons,i3,List.mem_cons]
     constructor
     ·rintro (rfl | ⟨h1,h2⟩)
      ·exact ⟨.inl rfl,hy⟩
      ·have:=a2.1 x h1
       exact ⟨.inr h1,by omega⟩
     ·rintro ⟨h1 | h1,h2⟩
      ·exact .inl h1
      ·by_cases hxy:x=y
       ·exact .inl hxy
       ·exact .inr ⟨h1,hxy⟩
theorem Wl {ys:List Nat} (h:Up ys) : Asc (dd ys)∧∀ x,x∈dd ys↔x∈ys:=by
 have hp:=aaL h
 cases ys with
 | nil=>exact ⟨.nil,fun x=>Iff.rfl⟩
 | cons y ys =>
   obtain ⟨i1,i2,i3⟩:=LH ys y hp
   refine ⟨List.pairwise_cons.2 ⟨i2,i1⟩,fun x=>?_⟩
   rw [dd,List.mem_cons,i3,List.mem_cons]
   constructor
   ·rintro (h | ⟨h,_⟩)
    ·exact .inl h
    ·exact .inr h
   ·rintro (h | h)
    ·exact .inl h
    ·by_cases hxy:x=y
     ·exact .inl hxy
     ·exact .inr ⟨h,hxy⟩
def jl (p q:Pt) : List Nat:=dd (iw (p.2++q.2))
theorem tQ (p q:Pt) : Asc (jl p q)∧(∀ x,x∈jl p q↔x∈p.2∨x∈q.2)∧(jl p q).length≤p.2.length + q.2.length:=by
 obtain ⟨h1,h2⟩:=Wl (Xk (p.2++q.2))
 refine ⟨h1,fun x=>?_, ?_⟩
 ·unfold jl
  rw [h2,(IE _).mem_iff,List.mem_append]
 ·have:=aag (iw (p.2++q.2))
  rw [Dm,List.length_append] at this
  exact this
theorem Pf {p q:Pt} (hp:iZ p) (hq:iZ q) (hl:p.2.length + q.2.length≤4096) :
  iZ (lK iw dd p q)∧(∀ x,il (lK iw dd p q) x=true↔il p x=true∨il q x=true)∧(lK iw dd p q).2.length≤p.2.length + q.2.length:=by
 obtain ⟨h1,h2,h3⟩:=tQ p q
 have he:lK iw dd p q=settle (max p.1 q.1) (jl p q):=rfl
 rw [he]
 have hpos:∀ y∈jl p q,1≤y:=fun y hy=>by
  rcases (h2 y).1 hy with h | h
  ·have:=hp.2.1 y h; omega
  ·have:=hq.2.1 y h; omega
 have hle:∀ y∈jl p q,y≤1099511627776:=fun y hy=>by
  rcases (h2 y).1 hy with h | h
  ·exact hp.2.2.2.1 y h
  ·exact hq.2.2.2.1 y h
 have hm:max p.1 q.1≤1099511627776:=by have:=hp.2.2.1; have:=hq.2.2.1; omega
 obtain ⟨s1,s2,s3,s4⟩:=rU (jl p q) (max p.1 q.1) 1099511627776 h1 hm hle
 have hsl:=vK (max p.1 q.1) (jl p q)
 refine ⟨⟨s1,s2,s3,fun x hx=>hle x (BM hx),by omega⟩,fun x=>?_,by omega⟩
 rw [vH _ _ _ hpos,h2,gV,gV]
 constructor
 ·rintro (h | h | h)
  ·by_cases hx:x≤p.1
   ·exact .inl (.inl ⟨h.1,hx⟩)
   ·exact .inr (.inl ⟨h.1,by omega⟩)
  ·exact .inl (.inr h)
  ·exact .inr (.inr h)
 ·rintro ((h | h) | (h | h))
  ·exact .inl ⟨h.1,by omega⟩
  ·exact .inr (.inl h)
  ·exact .inl ⟨h.1,by omega⟩
  ·exact .inr (.inr h)
def iM (ps qs:List Pt) : List Pt:=oW iw dd ps qs 16
structure SI (k:Nat) (ps:List Pt) : Prop where
 len:ps.length=16
 wf:∀ p∈ps,iZ p
 few:∀ p∈ps,p.2.length≤k
theorem SI.at {k:Nat} {ps:List Pt} (h:SI k ps) (i:Nat) : iZ (ps.getD i (0,[]))∧(ps.getD i (0,[])).2.length≤k :=
 ⟨nK h.wf i,ul (R:=fun p=>p.2.length≤k) h.few (Nat.zero_le _) i⟩
theorem Bq {ps qs:List Pt} {a c:Nat} (h1:SI a ps) (h2:SI c qs) {j:Nat} (hj:j<16) : (iM ps qs).getD j (0,[])=lK iw dd (ps.getD j (0,[])) (qs.getD j (0,[])):=NF h1.len (Nat.le_refl _) hj
theorem XL {ps qs:List Pt} {a c:Nat} (h1:SI a ps) (h2:SI c qs) (hk:a + c≤4096) : SI (a + c) (iM ps qs):=by
 have hlen:(iM ps qs).length=16:=by rw [iM,yo,h1.len]
 have all:∀ p∈iM ps qs,iZ p∧p.2.length≤a + c:=fun p hp=>by
  obtain ⟨i,hi,rfl⟩:=List.getElem_of_mem hp
  rw [hlen] at hi
  have e:=Bq h1 h2 hi
  rw [mH (by omega)] at e
  rw [e]
  obtain ⟨w1,l1⟩:=h1.at i
  obtain ⟨w2,l2⟩:=h2.at i
  obtain ⟨r1,_,r3⟩:=Pf w1 w2 (by omega)
  exact ⟨r1,by omega⟩
 exact ⟨hlen,fun p hp=>(all p hp).1,fun p hp=>(all p hp).2⟩
def pG (u v:List aC) : List aC:=v.foldl sM u
theorem QZ {x:aC} : ∀ {v u:List aC},x∈pG u v↔x∈u∨x∈v
 | [],u=>by simp [pG]
 | d :: v,u=>by
   have:pG u (d :: v)=pG (sM u d) v:=rfl
   rw [this,QZ,X3,List.mem_cons]
   constructor
   ·rintro ((h | h) | h)
    ·exact .inr (.inl h)
    ·exact .inl h
    ·exact .inr (.inr h)
   ·rintro (h | h | h)
    ·exact .inl (.inr h)
    ·exact .inl (.inl h)
    ·exact .inr h
theorem Rz:∀ {v u:List aC},zy u→zy (pG u v)
 | [],u,h=>h
 | d :: v,u,h=>by
   have:pG u (d :: v)=pG (sM u d) v:=rfl
   rw [this]
   exact Rz (PP h)
theorem EQ:∀ {v u:List aC},(pG u v).length≤u.length + v.length
 | [],u=>by simp [pG]
 | d :: v,u=>by
   have:pG u (d :: v)=pG (sM u d) v:=rfl
   rw [this,List.length_cons]
   have h1:=EQ (v:=v) (u:=sM u d)
   have h2:=XE u d
   omega
theorem nN.of {k:Nat} {ps:List Pt} {w:List aC} (h:SI k ps) (hs:zy w) (hm:∀ d,d∈w↔dB ps d=true) : nN ps w:=⟨h.len,h.wf,hs,hm⟩
theorem uy {ps qs:List Pt} (h1:∀ p∈ps,iZ p) (h2:∀ p∈qs,iZ p) : iL ps qs=true↔∀ d,dB ps d=true→dB qs d=true:=by
 constructor
 ·intro h d hd
  exact Qr h1 h2 h hd
 ·intro h
  rw [qb]
  intro i hi
  rw [FQ (nK h1 i) (nK h2 i)]
  intro x hx
  have hm:((i:Int),x)∈jN ps 16:=vP.2 ⟨by simp,by simp; omega,by simpa using hx⟩
  have:=h _ ((xZ h1 _).1 hm)
  rw [dB,Bool.and_eq_true] at this
  simpa using this.2
end Go.Ab.aC
set_option maxRecDepth 10000
set_option linter.unusedVariables false
set_option linter.unusedSimpArgs false
namespace Go.Ab.aC
open Go Go.Ab
end Go.Ab.aC
set_option maxRecDepth 10000
set_option linter.unusedVariables false
set_option linter.unusedSimpArgs false
namespace Go.Ab.aC
open Go Go.Ab
def IV (T:Nat) (c:av) : Prop:=SC (fun xs=>xs.length≤60000) (fun xs=>xs.length≤60000) iw dd T c
theorem IV.use {T:Nat} {c:av} (h:IV T c) {M:RM} {a b:Nat} {ps qs:List Pt} {S S' : Nat→Prop} {k l:Nat} {Q:ai} (h1:fZ T S M a ps) (h2:fZ T S' M b qs) (he:a=b→ps=qs) (hn:¬ S' a) (i1:SI k ps) (i2:SI l qs) (hkl:k + l≤60000)
  (hQ:∀ M',fZ T (fun e=>S e∨M.next≤e) M' a (iM ps qs)→ah [a] M M'→Q (.tup []) M') : c [.ptr a 0,.ptr b 0] M Q:=by
 refine h h1 h2 he hn (fun i hi=>?_) (fun p hp=>?_) (fun p hp=>?_) (fun i hi=>?_) hQ
 ·have a1:=(i1.at i).2
  have a2:=(i2.at i).2
  show ((ps.getD i (0,[])).2++(qs.getD i (0,[])).2).length≤60000∧(iw ((ps.getD i (0,[])).2++(qs.getD i (0,[])).2)).length≤60000
  rw [Dm,List.length_append]
  omega
 ·have:=(i1.wf p hp).2.2.1
  have:=i1.few p hp
  omega
 ·have:=(i2.wf p hp).2.2.1
  have:=i2.few p hp
  omega
 ·have a1:=i1.at i
  have a2:=i2.at i
  obtain ⟨_,j2,j3⟩:=tQ (ps.getD i (0,[])) (qs.getD i (0,[]))
  refine ⟨by have:=j3; unfold jl at this; omega,fun x hx=>?_⟩
  rcases (j2 x).1 hx with h | h
  ·have:=a1.1.2.2.2.1 x h; omega
  ·have:=a2.1.2.2.2.1 x h; omega
end Go.Ab.aC
set_option maxRecDepth 10000
set_option linter.unusedVariables false
set_option linter.unusedSimpArgs false
namespace Go.Ab.Crw
open Go Go.Ab Go.Ab.aC
def Dy (T:Nat) (c:av) : Prop:=∀ {M:RM} {b:Nat} {qs:List Pt} {S' : Nat→Prop} {k:Nat} {Q:ai},fZ T S' M b qs→SI k qs→k≤4096 →
 (∀ a M',M.next≤a→fZ T (fun e=>a<e) M' a qs→ah [] M M'→Q (.ptr a 0) M')→c [.ptr b 0] M Q
theorem QC {q:Pt} (h:iZ q) : lK iw dd (0,[]) q=q:=by
 have e:jl (0,[]) q=q.2:=QO (tQ _ _).1 h.1 fun x=>by rw [(tQ _ _).2.1]; simp
 show Go.Ab.aC.settle (max 0 q.1) (jl (0,[]) q)=q
 rw [e,Nat.zero_max]
 exact PS h.2.1
theorem wP:SI 0 jE:=⟨rfl,OQ,fun p hp=>by
 rw [jE,List.mem_replicate] at hp
 rw [hp.2]; exact Nat.le_refl _⟩
theorem SY {T:Nat} {cn cj:av} (hn:Sc T cn) (hj:IV T cj) : Dy T fun args M Q=>∃ a0,args=[a0]∧aC.Ag cn cj a0 M Q:=by
 intro M b qs S' k Q hB hi hk hQ
 refine ⟨_,rfl, ?_⟩
 unfold aC.Ag
 have hB0:=hB.below
 refine hn fun M1 hA1 k1 n1=>?_
 have hB1:=hB0.keep k1 (by simp) (by simp)
 have hbl:=hB.lt
 refine hj.use hA1 hB1 (fun e=>by omega) (fun h=>by omega) wP hi (by omega) fun M2 hA2 k2=>?_
 have e:iM jE qs=qs:=Yq (XL wP hi (by omega)).len hB.len fun j hj=>by
  rw [Bq wP hi hj,Bi,QC (hi.at j).1]
 rw [e] at hA2
 refine hQ M.next M2 (Nat.le_refl _) (hA2.mono (fun e h=>?_) (by omega)) (k1.bi k2 (by simp))
 rcases h with h | h
 ·exact h.elim
 ·omega
section
variable {α:Type} {E:Enc α}
theorem XG {M:RM} {b T bytes:Nat} {zs:List AV} {u:AV} {xs ys:List α} {K:ai} (hb:b<M.next) (hh:M.heap b=some (.row (E.row xs) false T 0)) (hu:Sl E M u ys) (hx:1≤xs.length) (hs:1≤E.size)
  (hn:(xs.length + ys.length) * bytes≤140737488355328) (hn2:xs.length + ys.length≤140737488355328)
  (hK:∀ v' M',Sl E M' v' (xs++ys)→(∀ d∈aF v',d=b∨M.next≤d)→ah [] M M'→K v' M') : appW T E.size bytes zs false (.slc b 0 xs.length (.ex xs.length)) u M K:=by
 refine ⟨ys.length,E.row ys,aM.kN hu _, ?_,by omega, ?_⟩
 ·exact Nat.le_trans (Nat.mul_le_mul_right _ (Nat.le_add_left _ _)) hn
 have hlen:(E.row xs).length=xs.length * E.size:=E.ed xs
 have hld:M.loads b 0 (xs.length * E.size)=some (E.row xs):=by
  rw [RM.dh hh (by omega),List.drop_zero,← hlen,List.take_length]
 by_cases h0:ys.length=0
 ·have:ys=[]:=List.length_eq_zero_iff.1 h0
  subst this
  refine ⟨.slc b 0 xs.length (.ex xs.length),M,by simp [mZ],hK _ _ ?_ (by simp [aF]) (ah.refl _ _)⟩
  rw [List.append_nil]
  exact .slc _ _ _ _ _ hb hld
 ·refine ⟨.slc M.next 0 (xs.length + ys.length) (.op E.size),M.push (.row (E.row xs++E.row ys) true T 0), ?_,hK _ _ ?_ (by simp [aF]) ((ah.refl _ _).push _)⟩
  ·have hone:(E.row xs++E.row ys).all oneCell=true:=by rw [List.all_append,E.oK,E.oK]; rfl
   simp only [mZ,if_neg h0,if_neg (show ¬ xs.length + ys.length≤xs.length by omega),hld]
   rw [if_pos ⟨hn,by omega,hone⟩]
  ·have hl2:(E.row (xs++ys)).length=(xs.length + ys.length) * E.size:=by rw [E.ed,List.length_append]
   show aM _ E.size _ (E.row (xs++ys)) (xs++ys).length
   rw [List.length_append]
   refine .slc _ _ _ _ _ (by simp [RM.push]) ?_
   rw [← E.rJ,RM.dh (RM.aR _) (by omega),List.drop_zero,← hl2,List.take_length]
end
structure kI (TS T:Nat) (B:Nat→Prop) (M:RM) (t:Nat) (ps:List Pt) (es:List aL) : Prop where
 lt:t<M.next
 row:∃ s v,M.heap t=some (.row [.ptr s 0,v] false TS 0)∧(∃ S:Nat→Prop,fZ T S M s ps∧∀ d,S d→B d)∧Sl ay M v es∧B s∧∀ d∈aF v,B d
 nb:¬ B t
theorem kI.keep {TS T t:Nat} {B:Nat→Prop} {M M' : RM} {ps:List Pt} {es:List aL} {bs:List Nat} (h:kI TS T B M t ps es) (k:ah bs M M') (ht:t ∉ bs) (hb:∀ d∈bs,¬ B d) : kI TS T B M' t ps es:=by
 obtain ⟨s,v,h1,⟨S,h2,h2'⟩,h3,h4,h5⟩:=h.row
 exact ⟨Nat.lt_of_lt_of_le h.lt k.next,⟨s,v,k.aO h1 h.lt ht,⟨S,h2.keep k (fun hs=>hb s hs h4) (fun d hd hS=>hb d hd (h2' d hS)),h2'⟩,aM.keep h3 k (fun d hd hm=>hb d hm (h5 d hd)),h4,h5⟩,h.nb⟩
theorem kI.mono {TS T t:Nat} {B B' : Nat→Prop} {M:RM} {ps:List Pt} {es:List aL} (h:kI TS T B M t ps es) (hB:∀ d,B d→B' d) (hn:¬ B' t) : kI TS T B' M t ps es:=by
 obtain ⟨s,v,h1,⟨S,h2,h2'⟩,h3,h4,h5⟩:=h.row
 exact ⟨h.lt,⟨s,v,h1,⟨S,h2,fun d hd=>hB d (h2' d hd)⟩,h3,hB s h4,fun d hd=>hB d (h5 d hd)⟩,hn⟩
theorem kI.below {TS T t:Nat} {B:Nat→Prop} {M:RM} {ps:List Pt} {es:List aL} (h:kI TS T B M t ps es) : kI TS T (fun d=>B d∧d<M.next) M t ps es:=by
 obtain ⟨s,v,h1,⟨S,h2,h2'⟩,h3,h4,h5⟩:=h.row
 exact ⟨h.lt,⟨s,v,h1,⟨_,h2.below,fun d hd=>⟨h2' d hd.1,hd.2⟩⟩,h3,⟨h4,h2.lt⟩,fun d hd=>⟨h5 d hd,aM.lt h3 d hd⟩⟩,fun hh=>h.nb hh.1⟩
def OB (TS T:Nat) (c:av) : Prop:=∀ {M:RM} {Q:ai},(∀ t M',M.next≤t→kI TS T (fun d=>M.next≤d∧d<t) M' t jE []→ah [] M M'→Q (.ptr t 0) M')→c [] M Q
theorem Tv {TS T:Nat} {cn:av} (hn:Sc T cn) : OB TS T fun args M Q=>args=[]∧SV cn TS M Q:=by
 intro M Q hQ
 refine ⟨rfl, ?_⟩
 unfold SV
 refine hn fun M1 h1 k1 n1=>?_
 rw [mW]
 refine ⟨[.ptr M.next 0,eG],rfl, ?_⟩
 rw [dH rfl (by simp),aX]
 have k2:ah [] M1 (M1.push (.row [.ptr M.next 0,eG] false TS 0)):=(ah.refl _ _).push _
 refine hQ _ _ (by omega) ⟨by simp [RM.push],⟨M.next,eG,RM.aR _,⟨fun _=>False,h1.keep k2 (by simp) (by simp),fun d hd=>hd.elim⟩,.nil,⟨Nat.le_refl _,by omega⟩,by simp [aF]⟩,fun h=>by omega⟩ (k1.trans k2)
def lM (ps:List Pt) (ds:List aC) : List Pt:=ds.foldl (fun u d=>(lg u d).2) ps
theorem Qf {ps:List Pt} {ds:List aC} {i:Nat} (h:i<ds.length) : lM ps (ds.take (i + 1))=(lg (lM ps (ds.take i)) ds[i]).2:=by
 rw [List.take_succ_eq_append_getElem h,lM,List.foldl_append]; rfl
theorem Ri {k:Nat} {ps:List Pt} {d:aC} (h:SI k ps) : SI (k + 1) (lg ps d).2:=⟨by rw [Wd,h.len],YP h.wf,V3 h.few⟩
theorem _root_.Go.Ab.aC.SI.mono {k l:Nat} {ps:List Pt} (h:SI k ps) (hl:k≤l) : SI l ps:=⟨h.len,h.wf,fun p hp=>Nat.le_trans (h.few p hp) hl⟩
theorem yl {k:Nat} : ∀ {ds:List aC} {ps:List Pt},SI k ps→SI (k + ds.length) (lM ps ds)
 | [],ps,h=>h
 | d :: ds,ps,h=>by
   have:=yl (ds:=ds) (Ri (d:=d) h)
   exact this.mono (by simp; omega)
def fw (e:l7) : aL:=(e.1,(e.2.2.1,(e.2.2.2.1,e.2.2.2.2)))
def jW (ps:List Pt) (es:List aL) (e:l7) (ks:List aC) : List aL :=
 (if decide (e.2.1=1) && !dB ps e.1 then nu fo (es++[fw e]) else es).filter fun x=>!decide (x.1∈ks)
def wW (ps:List Pt) (e:l7) (ks:List aC) : List Pt:=lM ps (e.1 :: ks)
theorem Iu:∀ {ks:List aC} {d:aC} {p:Option aC},ic d p ks=true→∀ k∈ks,good k=true
 | [],_,_,_,k,hk=>by simp at hk
 | x :: ks,d,p,h,k,hk=>by
   simp only [ic,Bool.and_eq_true] at h
   rcases List.mem_cons.1 hk with rfl | hk
   ·exact h.1.1.1
   ·exact Iu h.2 k hk
theorem oD {e:l7} {ks:List aC} (h:dM e ks=true) : good e.1=true∧ks.length≤64∧(∀ k∈ks,good k=true)∧ic e.1 none ks=true∧Ap e=true:=by
 simp only [dM,Bool.and_eq_true,decide_eq_true_eq] at h
 exact ⟨h.1.1.1.1,h.1.1.2,Iu h.1.2,h.1.2,h.2⟩
theorem Vk (e:l7) : qh [(N .i64 0),(N .u64 0),(St []),(St []),(St [])] [(0,2,.agg (aQ e.1)),(2,1,St e.2.2.1),(3,1,St e.2.2.2.1),(4,1,St e.2.2.2.2)]=some (ay.cells (fw e)):=rfl
def Oo (TS T:Nat) (c:av) : Prop:=∀ {M:RM} {t k:Nat} {B:Nat→Prop} {ps:List Pt} {es:List aL} {e:l7} {kv:AV} {ks:List aC} {Q:ai},kI TS T B M t ps es→SI k ps→k + 65≤4000→es.length≤50000→Sl dz M kv ks→t ∉ aF kv →
 (dM e ks=false→∀ M',ah [] M M'→Q (.tup [Bo false,N .i64 1]) M') →
 (dM e ks=true→∀ M',kI TS T (fun d=>B d∨M.next≤d) M' t (wW ps e ks) (jW ps es e ks)→ah [t] M M'→Q (.tup [Bo (!iL (wW ps e ks) ps || !decide (jW ps es e ks=es)),N .i64 0]) M')→c [.ptr t 0,.agg (eU e kv)] M Q
theorem RU {TS T TE TD TN nc nd:Nat} {cG cC cA cH cL cS cD cW cQ:av} {cv:FuncId→av} (hG:wB cG) (hC:Dy T cC) (hA:Si T cA) (hH:Mw T cH) (hL:zH TN cL) (hS:Ez (.fn (.func nc) [] []) fo TN cS)
  (hD:∀ b e kv ks,ks.length≤1000000→Gf TN (Di TE b e kv ks) (fun x=>decide (x.1∈ks)) (.fn (.func nd) [] [.ptr b 0]) cD) (hW:EU T cW) (hQ' : ug cQ) :
  Oo TS T fun args M Q=>∃ a0 a1,args=[a0,a1]∧vw TE cG cC TD cA cH TN cL cS nc nd cD cW cQ a0 a1 M Q:=by
 intro M0 t k B ps es e kv ks Q hst hsi hk hes hkv0 htk hbad hok
 refine ⟨_,_,rfl, ?_⟩
 unfold vw
 simp only [gM,fF,dY,fH,cZ]
 rw [dH (Er hkv0) (by simp),aX]
 have k0:ah [] M0 (M0.push (.row (eU e kv) false TE 0)):=(ah.refl _ _).push _
 have h0:(M0.push (.row (eU e kv) false TE 0)).heap M0.next=some (.row (eU e kv) false TE 0):=RM.aR _
 have hlt:M0.next<(M0.push (.row (eU e kv) false TE 0)).next:=by simp [RM.push]
 have hs:Sl dz (M0.push (.row (eU e kv) false TE 0)) kv ks:=aM.keep hkv0 k0 (by simp)
 have hkl:∀ d∈aF kv,d<M0.next:=aM.lt hkv0
 have n0:=k0.next
 generalize M0.push (.row (eU e kv) false TE 0)=M at *
 generalize hb0:M0.next=b at *
 rw [dG (n:=7) h0 (by simp [Yt.len]; rfl)]
 refine hG hs fun M1 k1=>?_
 have k01:=k0.trans k1
 rw [bO]
 refine aI (fun hg=>?_) (fun hg=>?_)
 ·exact hbad (by simpa using hg) M1 k01
 have hge:dM e ks=true:=by simpa using hg
 obtain ⟨hgd,hkl64,hkg,_,_⟩:=oD hge
 have hok:=hok hge
 have n1:=k1.next
 obtain ⟨s,v,r1,⟨S,r2,r2'⟩,r3,r4,r5⟩:=hst.row
 have htl:=hst.lt
 have e1:=k1.aO h0 hlt (by simp)
 have t1:=k01.aO r1 htl (by simp)
 have set1:=(r2.below).keep k01 (by simp) (by simp)
 have slt:=r2.lt
 rw [aK,aW,ak t1 rfl]
 -- the set is copied
 refine hC set1 hsi (by omega) fun s' M2 hs' set2 k2=>?_
 have n2:=k2.next
 have hs'lt:=set2.lt
 have e2:=k2.aO e1 (by omega) (by simp)
 have k02:=k01.trans k2
 rw [aW,yh e2,je (x:=.agg (aQ e.1)) (size:=2) rfl rfl rfl,aX]
 have k3:ah [] M2 (M2.push (.row (AV.agg (aQ e.1)).cells false TD 0)):=(ah.refl _ _).push _
 have l3:(M2.push (.row (AV.agg (aQ e.1)).cells false TD 0)).heap M2.next=some (.row (dz.row [e.1]) false TD 0):=by
  rw [RM.aR]; rfl
 have n3:M2.next<(M2.push (.row (AV.agg (aQ e.1)).cells false TD 0)).next:=by simp [RM.push]
 have e3:=k3.aO e2 (by omega) (by simp)
 have set3:=set2.keep k3 (by simp) (by simp)
 have kv3:Sl dz (M2.push (.row (AV.agg (aQ e.1)).cells false TD 0)) kv ks:=aM.keep hkv0 (k02.trans k3) (by simp)
 have k03:=k02.trans k3
 generalize M2.push (.row (AV.agg (aQ e.1)).cells false TD 0)=M3 at *
 generalize hb2:M2.next=b2 at *
 rw [aW,ak e3 rfl]
 refine XG (E:=dz) (xs:=[e.1]) (by omega) l3 kv3 (by simp) (by decide) (by simp; omega) (by simp; omega) fun dv M4 hdv hdb k4=>?_
 have hds:(e.1 :: ks).length≤65:=by simp; omega
 have k34:ah [] M3 M4:=k4
 have n4:=k4.next
 have e4:=k4.aO e3 (by omega) (by simp)
 have set4:=set3.keep k4 (by simp) (by simp)
 have k04:=k03.trans k4
 have hdv:Sl dz M4 dv (e.1 :: ks):=hdv
 have hdl:=aM.lt hdv
 have hdg:∀ d∈e.1 :: ks,good d=true:=fun d hd=>by
  rcases List.mem_cons.1 hd with rfl | hd
  ·exact hgd
  ·exact hkg d hd
 have hdne:s' ∉ aF dv:=fun hm=>by
  rcases hdb s' hm with h | h <;> omega
 generalize hds' : e.1 :: ks=ds at *
 rw [aM.len hdv]
 refine aJ (fun m ys M6=>∃ i:Nat,m=ds.length - i∧ys=[N .i64 (i:Int)]∧i≤ds.length∧ah [s'] M4 M6∧fZ T (fun e=>s'<e) M6 s' (lM ps (ds.take i))) _ ⟨0,rfl,rfl,Nat.zero_le _,ah.refl _ _,set4⟩ ?_
 rintro next m ys M6 hnext ⟨i,rfl,rfl,hi,k6,set6⟩
 dsimp only [aa]
 have hdv6:Sl dz M6 dv ds:=aM.keep hdv k6 (fun b hb hm=>by simp at hm; subst hm; exact hdne hb)
 have si6:SI (k + (ds.take i).length) (lM ps (ds.take i)):=yl hsi
 have hti:(ds.take i).length≤65:=by rw [List.length_take]; omega
 rw [dX]
 refine aI (fun hlti=>?_) (fun hge2=>?_)
 ·have hlti:i<ds.length:=of_decide_eq_true hlti
  rw [oO hdv6 hlti,aX,gI (n:=2) (x:=.agg (aQ ds[i])) (l:=[N .i64 0,N .u64 0]) (RM.aR _) rfl rfl rfl]
  have k7:ah [] M6 ((M6.push (.row [N .i64 0,N .u64 0] false TD 0)).put M6.next (.row (AV.agg (aQ ds[i])).cells false TD 0)):=((ah.refl _ _).push _).new _ (Nat.le_refl _)
  have hk7:((M6.push (.row [N .i64 0,N .u64 0] false TD 0)).put M6.next (.row (AV.agg (aQ ds[i])).cells false TD 0)).heap M6.next=some (.row (aQ ds[i]) false TD 0):=aZ _
  generalize (M6.push (.row [N .i64 0,N .u64 0] false TD 0)).put M6.next (.row (AV.agg (aQ ds[i])).cells false TD 0)=M7 at *
  rw [dG (n:=2) hk7 rfl]
  have set7:=set6.keep k7 (by simp) (by simp)
  have n7:=k7.next
  have s6:=set6.lt
  refine hA set7 si6.wf fun M8 set8 k8=>?_
  have hgood:=Lb (ps:=lM ps (ds.take i)) (d:=ds[i]) (fun p hp=>by have:=si6.few p hp; omega) (hdg _ (List.getElem_mem hlti))
  have h10:(lg (lM ps (ds.take i)) ds[i]).1=0:=by rw [hgood]
  rw [h10,gD,show ((0:Int) != 0)=false from rfl,bK,add1 (by omega)]
  refine hnext _ _ _ (by omega) ⟨i + 1,rfl,rfl,by omega,(k6.trans (k7.mono (cs:=[s']) (by simp))).trans k8, ?_⟩
  rw [Qf hlti]
  exact set8.mono (fun d hd=>by rcases hd with hd | hd <;> omega) (by omega)
 have hie:i=ds.length:=by
  have:¬ i<ds.length:=of_decide_eq_false hge2
  omega
 subst hie
 rw [List.take_length] at set6 si6
 clear hnext hge2
 have hps' : lM ps ds=wW ps e ks:=by rw [← hds']; rfl
 rw [hps'] at set6 si6
 have si6:=si6.mono (l:=k + 65) (by omega)
 have n6:=k6.next
 have k06:ah [] M0 M6:=k04.bi k6 (fun d hd=>by simp at hd; omega)
 have e6:=k6.aO e4 (by omega) (by simp; omega)
 have t6:=k06.aO r1 htl (by simp)
 have v6:Sl ay M6 v es:=aM.keep r3 k06 (by simp)
 have old6:=(r2.below).keep k06 (by simp) (by simp)
 have kv6:Sl dz M6 kv ks:=aM.keep hkv0 k06 (by simp)
 rw [aK,aG,ak (i:=0 + 1) t6 rfl]
 have set6b:=set6.below
 refine bn (fun zs M'=>∃ (w:AV) (es1:List aL),zs=[w]∧Sl ay M' w es1∧es1.length≤50001∧es1=(if decide (e.2.1=1) && !dB ps e.1 then nu fo (es++[fw e]) else es)∧ah [] M6 M') ?_ ?_
 ·rintro zs M9 ⟨w,es1,rfl,hw,hwl,hes1,k9⟩
  dsimp only [aa]
  have n9:=k9.next
  refine hL hw (by omega) fun c M10 oc k10=>?_
  have n10:=k10.next
  have k610:=k9.trans k10
  have k010:=k06.trans k610
  have ev10:Di TE b e kv ks M10:=⟨by omega,k610.aO e6 (by omega) (by simp),aM.keep kv6 k610 (by simp)⟩
  refine hD b e kv ks (by omega) ev10 (fun Ma Mb ks' hP kk hsub=>hP.keep kk (fun hm=>by have:=(oc.blk b (hsub b hm)).1; omega) (fun d hd hm=>by have:=hkl d hd; have:=(oc.blk d (hsub d hm)).1; omega)) oc (by omega) fun x M11 hx hxb k11=>?_
  have k611:ah [] M6 M11:=k610.bi k11 (fun d hd=>.inl (by have:=(oc.blk d hd).1; omega))
  have k011:=k06.trans k611
  have bT:=k611.aO t6 (by omega) (by simp)
  have new11:=set6b.keep k611 (by simp) (by simp)
  have old11:=old6.keep k611 (by simp) (by simp)
  have v11:Sl ay M11 v es:=aM.keep v6 k611 (by simp)
  rw [aK,aW,ak bT rfl]
  refine hW new11 old11 (fun p hp=>by have:=si6.few p hp; omega) (fun q hq=>⟨(hsi.wf q hq).1,by have:=hsi.few q hq; omega⟩) fun M12 k12=>?_
  have hxl:(es1.filter fun x=>!decide (x.1∈ks)).length≤es1.length:=List.length_filter_le _ _
  have t12:=k12.aO bT (by have:=k611.next; omega) (by simp)
  have hfin:es1.filter (fun x=>!decide (x.1∈ks))=jW ps es e ks:=by rw [hes1]; rfl
  rw [hfin] at hx hxl
  rw [bO]
  refine DU (p:=!decide (jW ps es e ks=es)) (fun _ k hk=>?_) ?_
  ·rw [aK,aG,ak (i:=0 + 1) t12 rfl]
   refine hQ' (aM.keep hx k12 (by simp)) (aM.keep v11 k12 (by simp)) (by omega) ?_
   rw [bO]
   exact hk
  have x12:Sl ay M12 x (jW ps es e ks):=aM.keep hx k12 (by simp)
  rw [aK,aW,fq t12 (by simp) rfl rfl,aK,aG]
  rw [fq (aZ _) (by simp) (aM.cells x12) (aM.one x12)]
  have kk:ah [t] M12 ((M12.put t (.row ([AV.ptr s 0,v].set 0 (.ptr s' 0)) false TS 0)).put t (.row (([AV.ptr s 0,v].set 0 (.ptr s' 0)).set (0 + 1) x) false TS 0)):=((ah.refl _ _).put _ (.inr (by simp))).put _ (.inr (by simp))
  have hh:((M12.put t (.row ([AV.ptr s 0,v].set 0 (.ptr s' 0)) false TS 0)).put t (.row (([AV.ptr s 0,v].set 0 (.ptr s' 0)).set (0 + 1) x) false TS 0)).heap t=some (.row [.ptr s' 0,x] false TS 0):=aZ _
  have hnx:((M12.put t (.row ([AV.ptr s 0,v].set 0 (.ptr s' 0)) false TS 0)).put t (.row (([AV.ptr s 0,v].set 0 (.ptr s' 0)).set (0 + 1) x) false TS 0)).next=M12.next:=rfl
  generalize (M12.put t (.row ([AV.ptr s 0,v].set 0 (.ptr s' 0)) false TS 0)).put t (.row (([AV.ptr s 0,v].set 0 (.ptr s' 0)).set (0 + 1) x) false TS 0)=M13 at *
  have n12:=k12.next
  have n611:=k611.next
  refine hok M13 ⟨by omega,⟨s',x,hh,⟨fun d=>s'<d∧d<M6.next,(new11.keep k12 (by simp) (by simp)).keep kk (by simp; omega) (fun d hd h=>by simp at hd; omega),fun d hd=>.inr (by omega)⟩,aM.keep x12 kk (fun d hd hm=>?_),.inr (by omega),fun d hd=>.inr (by have:=(oc.blk d (hxb d hd)).1; omega)⟩,fun hB=>?_⟩ ((k011.trans k12).mono (by simp) |>.trans kk)
  ·simp at hm
   subst hm
   have:=(oc.blk d (hxb d hd)).1
   omega
  ·rcases hB with hB | hB
   ·exact hst.nb hB
   ·omega
 intro J hJ
 have e2v:∀ {M' : RM},ah [] M6 M'→M'.heap b=some (.row (eU e kv) false TE 0):=fun k=>k.aO e6 (by omega) (by simp)
 have op1:((e.2.1:Int) == 1)=decide (e.2.1=1):=by by_cases h:e.2.1=1 <;> simp [h]
 rw [aW,ak e6 rfl,di,op1]
 refine vC (P:=fun M'=>ah [] M6 M') (p:=!dB ps e.1) (ah.refl _ _) (fun _ k hk=>?_) fun M7 k7=>?_
 ·rw [aK,aW,ak t6 rfl,aW,yh e6]
  refine hH old6 (fun q hq=>⟨(hsi.wf q hq).1,by have:=hsi.few q hq; omega⟩) fun M7 k7=>?_
  rw [bO]
  exact hk M7 k7
 refine aI (fun hc=>?_) (fun hc=>?_)
 ·have e7:=e2v k7
  rw [aW,yh e7,aW,ak e7 rfl,aW,ak e7 rfl,aW,ak e7 rfl,mW]
  refine ⟨_,Vk e, ?_⟩
  rw [je (x:=.agg (ay.cells (fw e))) (size:=5) rfl rfl rfl,iV]
  have k8:ah [] M7 (M7.push (.row (AV.agg (ay.cells (fw e))).cells false TN 0)):=(ah.refl _ _).push _
  have h8:(M7.push (.row (AV.agg (ay.cells (fw e))).cells false TN 0)).heap M7.next=some (.row (ay.cells (fw e)) false TN 0):=RM.aR _
  have n8:M7.next<(M7.push (.row (AV.agg (ay.cells (fw e))).cells false TN 0)).next:=by simp [RM.push]
  generalize M7.push (.row (AV.agg (ay.cells (fw e))).cells false TN 0)=M8 at *
  generalize hb7:M7.next=b7 at *
  have k68:=k7.trans k8
  refine hL (aM.keep v6 k68 (by simp)) (by omega) fun c M9 oc k9=>?_
  have k69:=k68.trans k9
  have e9:=e2v k69
  have n9:=k9.next
  rw [yh e9]
  refine ⟨rfl, ?_⟩
  rw [ak e9 rfl]
  refine ⟨rfl, ?_⟩
  rw [ak e9 rfl]
  refine ⟨rfl, ?_⟩
  rw [ak e9 rfl]
  refine ⟨rfl, ?_⟩
  rw [je (x:=.agg (ay.cells (fw e))) (size:=5) rfl rfl rfl,Tp]
  have h9:=k9.aO h8 n8 (by simp)
  refine ⟨⟨h9,rfl⟩, ?_⟩
  have slx:Sl ay M9 (.slc b7 0 1 (.ex 1)) [fw e]:=by
   refine .slc _ _ _ _ _ (by omega) ?_
   rw [RM.dh h9 (by rw [ay.len]; decide),List.drop_zero,Enc.row_one]
   have:(ay.cells (fw e)).length=1 * ay.size:=by rw [ay.len,Nat.one_mul]
   rw [← this,List.take_length]
  refine oN (E:=ay) oc n9 (by decide) slx (by simp; omega) (by simp; omega) fun c2 M10 oc2 k10 n10 _=>?_
  have k610:ah [] M6 M10:=k69.bi k10 (fun d hd=>.inl (by have:=(oc.blk d hd).1; have:=k68.next; omega))
  refine hS oc2 (by simp; omega) fun M11 oc3 k11=>?_
  have k611:ah [] M6 M11:=k610.bi k11 (fun d hd=>.inl (by have:=(oc2.blk d hd).1; have:=k68.next; omega))
  have hsl:(nu fo (es++[fw e])).length=(es++[fw e]).length:=(lG fM _).length_eq
  exact hJ _ _ ⟨c2,_,rfl,oc3.eu,by rw [hsl]; simp; omega,by rw [if_pos hc],k611⟩
 ·exact hJ _ _ ⟨v,es,rfl,aM.keep v6 k7 (by simp),by omega,by rw [if_neg (by rw [hc]; decide)],k7⟩
end Go.Ab.Crw
set_option maxRecDepth 10000
set_option linter.unusedVariables false
set_option linter.unusedSimpArgs false
namespace Go.Ab.Crw
open Go Go.Ab Go.Ab.aC
abbrev Ev:=l7 × List aC
def kW:nZ Ev:=nZ.pre Yt (dz.xD.slice)
theorem Ih {M:RM} {v:AV} {l:List Ev} {S:Nat→Prop} (h:fT kW M v l S) {i:Nat} (hi:i<l.length) :
  ∃ b o kv,(∀ (kd:IntKind) (K:AV→Prop),ax v (N kd (i:Int)) 7 K=K (.ptr b o))∧(∀ K:AV→Prop,aH M (.ptr b o) 7 K=K (.agg (eU l[i].1 kv)))∧(∀ K:AV→Prop,aH M (.ptr b o) 2 K=K (.agg (aQ l[i].1.1)))∧Sl dz M kv l[i].2∧∀ d∈aF kv,S d:=by
 obtain ⟨b,o,cs,_,_,hidx,hld,ds,hcs,kv,hds,hkv⟩:=h.at (i:=i) 7 (i:Int) hi rfl rfl
 subst hds
 subst hcs
 refine ⟨b,o,kv,hidx,fun K=>?_,fun K=>?_,fT.sl hkv, ?_⟩
 ·rw [eQ,hld]
  simp
 ·have e2:(eU l[i].1 kv).take 2=aQ l[i].1.1:=rfl
  rw [eQ,pE hld 2 (by decide),e2]
  simp
 ·obtain ⟨_,_,h2,_⟩:=hkv
  exact h2
theorem PI {M:RM} {e:l7} {kv:AV} {ks:List aC} {S:Nat→Prop} (h:Sl dz M kv ks) (hS:∀ d∈aF kv,S d) : kW.rel M (eU e kv) (e,ks) S:=⟨[kv],rfl,kv,rfl,fT.X9 h hS⟩
def Gj (TS T TN:Nat) (c:av) : Prop:=∀ {M:RM} {t:Nat} {B:Nat→Prop} {ps:List Pt} {es:List aL} {Q:ai},kI TS T B M t ps es→es.length≤1000000→(∀ v M',Ow ay M' M.next TN v es→ah [] M M'→Q v M')→c [.ptr t 0] M Q
theorem NY {TS T TN:Nat} {cL:av} (hL:zH TN cL) : Gj TS T TN fun args M Q=>∃ a0,args=[a0]∧rV cL a0 M Q:=by
 intro M t B ps es Q h hl hQ
 refine ⟨_,rfl, ?_⟩
 unfold rV
 obtain ⟨s,v,r1,_,r3,_,_⟩:=h.row
 rw [aK,aG,ak (i:=0 + 1) r1 rfl]
 exact hL r3 hl hQ
def iW (out:List Ev) (x:Ev) : List Ev:=if !(!dM x.1 x.2 || out.any fun y=>decide (y.1.1=x.1.1)) then out++[x] else out
def oG (l:List Ev) : List Ev:=l.foldl iW []
theorem Lv {l:List Ev} {i:Nat} (h:i<l.length) : oG (l.take (i + 1))=iW (oG (l.take i)) l[i]:=by
 rw [List.take_succ_eq_append_getElem h,oG,List.foldl_append]; rfl
theorem PX (out:List Ev) (x:Ev) : (iW out x).length≤out.length + 1:=by
 unfold iW; split <;> simp
theorem A7 (l:List Ev) : ∀ i,(oG (l.take i)).length≤i
 | 0=>Nat.le_refl _
 | i + 1=>by
   by_cases h:i<l.length
   ·rw [Lv h]
    have:=A7 l i
    have:=PX (oG (l.take i)) l[i]
    omega
   ·rw [List.take_of_length_le (by omega)]
    have:=A7 l i
    rw [List.take_of_length_le (by omega)] at this
    omega
theorem LV:∀ (l:List Ev) (out:List Ev),(∀ x∈out,dM x.1 x.2=true)→∀ x∈l.foldl iW out,dM x.1 x.2=true
 | [],out,h=>h
 | y :: l,out,h=>LV l (iW out y) fun x hx=>by
   unfold iW at hx
   split at hx
   ·rename_i hc
    rcases List.mem_append.1 hx with hx | hx
    ·exact h x hx
    ·simp only [List.mem_singleton] at hx
     subst hx
     simp only [Bool.not_eq_true',Bool.or_eq_false_iff,Bool.not_eq_false'] at hc
     exact hc.1
   ·exact h x hx
def WU (TE:Nat) (c:av) : Prop:=∀ {M:RM} {v:AV} {l:List Ev} {Q:ai},fT kW M v l (fun d=>d<M.next)→l.length≤10000 →
 (∀ v' M',fT kW M' v' (oG l) (fun d=>d<M'.next)→ah [] M M'→Q v' M')→c [v] M Q
theorem Xq {TE:Nat} {cG:av} (hG:wB cG) : WU TE fun args M Q=>∃ a0,args=[a0]∧RL TE cG a0 M Q:=by
 intro M v l Q hv hl hQ
 refine ⟨_,rfl, ?_⟩
 unfold RL
 simp only [gM,fF,dY,cZ]
 refine ⟨_,_,_,_,rfl,rfl,by decide,by decide,by decide,by decide, ?_⟩
 dsimp only
 rw [aX]
 have kM:ah [] M (M.push (.row (bM [(N .i64 0),(N .u64 0),(N .i64 0),(St []),(St []),(St []),(.sc (.slice none 0 0))] 0) false TE 0)):=(ah.refl _ _).push _
 have oM:iB kW (M.push (.row (bM [(N .i64 0),(N .u64 0),(N .i64 0),(St []),(St []),(St []),(.sc (.slice none 0 0))] 0) false TE 0)) M.next TE (.slc M.next 0 0 (.ex 0)) [] (fun d=>d<M.next):=⟨[],Own.lit M (Nat.le_refl _),.nil⟩
 refine aJ (fun m ys M3=>∃ (i:Nat) (w:AV),m=l.length - i∧ys=[w,N .i64 (i:Int)]∧i≤l.length∧ah [] M M3∧iB kW M3 M.next TE w (oG (l.take i)) (fun d=>d<M.next)) _ ⟨0,_,rfl,rfl,Nat.zero_le _,kM,oM⟩ ?_
 rintro next m ys M3 hnext ⟨i,w,rfl,rfl,hi,k3,ow⟩
 dsimp only [aa]
 have hv3:fT kW M3 v l (fun d=>d<M.next):=hv.keep k3 (by simp)
 have n3:=k3.next
 rw [hv3.len,dX]
 refine aI (fun hlt=>?_) (fun hge=>?_)
 ·have hlt:i<l.length:=of_decide_eq_true hlt
  refine bn (fun zs M'=>∃ w',zs=[w']∧ah [] M M'∧iB kW M' M.next TE w' (oG (l.take (i + 1))) (fun d=>d<M.next)) ?_ ?_
  ·rintro zs M' ⟨w',rfl,k',o'⟩
   dsimp only [aa]
   rw [add1 (by omega)]
   exact hnext _ _ _ (by omega) ⟨i + 1,w',rfl,rfl,by omega,k',o'⟩
  intro J hJ
  rw [Lv hlt] at hJ
  have hol:=A7 l i
  obtain ⟨b,o,kv,hidx,hl7,hl2,hkv,hkb⟩:=Ih hv3 hlt
  rw [hidx,hl7]
  refine hG hkv fun M4 k4=>?_
  rw [bO]
  have ow4:=ow.keep k4 (by simp) (by simp)
  generalize oG (l.take i)=out at *
  have k34:=k3.trans k4
  have n4:=k34.next
  have hv4:fT kW M4 v l (fun d=>d<M.next):=hv.keep k34 (by simp)
  have owS:fT kW M4 w out (fun d=>d<M4.next):=(ow4.mono (fun d hd=>by omega)).UW (fun d _ h=>h)
  obtain ⟨b4,o4,kv4,hidx4,hl74,hl24,hkv4,hkb4⟩:=Ih hv4 hlt
  refine aJ (fun m ys M5=>∃ j:Nat,m=out.length - j∧ys=[Bo (!dM l[i].1 l[i].2 || (out.take j).any fun y=>decide (y.1.1=l[i].1.1)),N .i64 (j:Int)]∧j≤out.length∧M5=M4) _ ⟨0,rfl,by simp,Nat.zero_le _,rfl⟩ ?_
  rintro next2 m ys M5 hnext2 ⟨j,rfl,rfl,hj,rfl⟩
  dsimp only [aa]
  rw [owS.len,dX]
  refine aI (fun hlt2=>?_) (fun hge2=>?_)
  ·have hlt2:j<out.length:=of_decide_eq_true hlt2
   obtain ⟨b5,o5,kv5,hidx5,hl75,hl25,_,_⟩:=Ih owS hlt2
   refine Rk (P:=fun M'=>M'=M5) (p:=decide (out[j].1.1=l[i].1.1)) rfl (fun _ k hk=>?_) fun M' hM'=>?_
   ·rw [hidx5,aG,Nat.add_zero,hl25,hidx4,aG,Nat.add_zero,hl24,mR rfl rfl (zV _ _),Bool.bne_false]
    exact hk M5 rfl
   subst hM'
   rw [add1 (by omega)]
   refine hnext2 _ _ _ (by omega) ⟨j + 1,rfl, ?_,by omega,rfl⟩
   rw [List.take_succ_eq_append_getElem hlt2,List.any_append,List.any_cons,List.any_nil,Bool.or_false,Bool.or_assoc]
  ·have hje:j=out.length:=by
    have:¬ j<out.length:=of_decide_eq_false hge2
    omega
   subst hje
   rw [List.take_length,bO]
   refine aI (fun hc=>?_) (fun hc=>?_)
   ·rw [hidx4,hl74,je (x:=.agg (eU l[i].1 kv4)) (size:=7) rfl (Er hkv4) rfl,aX]
    have hd:=ow4.blk
    refine iB.app (R:=kW) ow4 (PI hkv4 hkb4) (by omega) (by decide) (fun d hd' h=>by have:=(hd d hd').1; omega) (fun d h=>by omega) (by omega) (by omega) ?_
    intro w' M6 o6 k6 n6 _ _
    refine hJ _ _ ⟨w',rfl,k34.bi k6 (fun d hd'=>.inl (hd d hd').1), ?_⟩
    rw [iW,if_pos hc]
    exact o6
   ·refine hJ _ _ ⟨w,rfl,k34, ?_⟩
    rw [iW,if_neg (by rw [hc]; decide)]
    exact ow4
 ·have he:i=l.length:=by
   have:¬ i<l.length:=of_decide_eq_false hge
   omega
  subst he
  rw [List.take_length] at ow
  exact hQ w M3 ((ow.mono (fun d hd=>by omega)).UW (fun d _ h=>h)) k3
theorem U3 {k:Nat} {ps:List Pt} {d e:aC} (h:SI k ps) (hk:k<4096) (hg:good d=true) : dB (lg ps d).2 e=true↔dB ps e=true∨e=d:=by
 have hl:∀ p∈ps,p.2.length<4096:=fun p hp=>by have:=h.few p hp; omega
 rw [dB,dB,Bool.and_eq_true,Bool.and_eq_true,Xd h.len h.wf hl hg]
 constructor
 ·rintro ⟨h1,h2 | ⟨h2,h3⟩⟩
  ·exact .inl ⟨h1,h2⟩
  ·refine .inr (Prod.ext ?_ h3)
   have:=(qD h1).1
   have:=(qD hg).1
   omega
 ·rintro (⟨h1,h2⟩ | rfl)
  ·exact ⟨h1,.inl h2⟩
  ·exact ⟨hg,.inr ⟨rfl,rfl⟩⟩
theorem FW {e:aC} : ∀ {ds:List aC} {ps:List Pt} {k:Nat},SI k ps→k + ds.length<4096→(∀ d∈ds,good d=true)→(dB (lM ps ds) e=true↔dB ps e=true∨e∈ds)
 | [],ps,k,h,hk,hg=>by simp [lM]
 | d :: ds,ps,k,h,hk,hg=>by
   have:lM ps (d :: ds)=lM (lg ps d).2 ds:=rfl
   rw [this,FW (Ri h) (by simp at hk; omega) (fun x hx=>hg x (by simp [hx])),U3 h (by simp at hk; omega) (hg d (by simp)),List.mem_cons]
   constructor
   ·rintro ((h | h) | h)
    ·exact .inl h
    ·exact .inr (.inl h)
    ·exact .inr (.inr h)
   ·rintro (h | h | h)
    ·exact .inl (.inl h)
    ·exact .inl (.inr h)
    ·exact .inr h
theorem SA (ps:List Pt) (es:List aL) (e:l7) (ks:List aC) : (jW ps es e ks).length≤es.length + 1:=by
 unfold jW
 refine Nat.le_trans (List.length_filter_le _ _) ?_
 split
 ·rw [(lG fM _).length_eq]; simp
 ·omega
structure acW (i:Nat) (ps:List Pt) (es:List aL) (dead:List aC) : Prop where
 si:SI (65 * i) ps
 few:es.length≤i
 dl:dead.length≤64 * i
 seen:∀ d∈dead,dB ps d=true
 gone:∀ x∈es,x.1 ∉ dead
end Go.Ab.Crw
set_option maxRecDepth 10000
set_option linter.unusedVariables false
set_option linter.unusedSimpArgs false
namespace Go.Ab.Crw
open Go Go.Ab Go.Ab.aC
def Dp (x y:aL) : Bool:=decide (x.2.1=y.2.1∧x.2.2.1=y.2.2.1∧x.1=y.1)
theorem A9 {a b:Int} : Ce a b=0↔a=0∧b=0:=by
 unfold Ce; split <;> omega
theorem EG {β:Type} {lt:β→β→Bool} (h:LO lt) (x y:β) : c3 lt x y=0↔x=y:=by
 rcases Nc h x y with ⟨a,_,c⟩ | ⟨a,_,c⟩ | ⟨a,_,c⟩
 ·rw [a]; exact ⟨(fun h=>absurd h (by decide)),(fun h=>absurd h c)⟩
 ·rw [a]; exact ⟨(fun h=>absurd h (by decide)),(fun h=>absurd h c)⟩
 ·exact ⟨fun _=>c,fun _=>a⟩
theorem XH (x y:aL) : decide (Q8 x y=0)=Dp x y:=by
 unfold Q8 Ye Dp
 rw [decide_eq_decide,A9,A9,A9,A9,EG sJ,EG sJ,EG CE,EG Ed]
 constructor
 ·rintro ⟨h1,h2,h3,h4,_⟩; exact ⟨h1,h2,Prod.ext h4 h3⟩
 ·rintro ⟨h1,h2,h3⟩; exact ⟨h1,h2,by rw [h3],by rw [h3],rfl⟩
theorem Rq {x y:aL} (h:Dp x y=true) (z:aL) : fo x z=fo y z∧fo z x=fo z y:=by
 obtain ⟨h1,h2,h3⟩:=of_decide_eq_true h
 simp only [fo,lex,h1,h2,h3,and_self]
theorem ES {α β:Type} [DecidableEq β] {k:α→β} {lt1:β→β→Bool} {lt2:α→α→Bool} (h:LO lt1) {x y:α} (h1:lex k lt1 lt2 x y=false) (h2:lex k lt1 lt2 y x=false) : k x=k y∧lt2 x y=false∧lt2 y x=false:=by
 unfold lex at h1 h2
 rw [Bool.or_eq_false_iff] at h1 h2
 have e:=h.tri _ _ h1.1 h2.1
 have a:=h1.2
 have b:=h2.2
 rw [e,decide_eq_true rfl,Bool.true_and] at a b
 exact ⟨e,a,b⟩
theorem Rv {x y:aL} (h1:fo x y=false) (h2:fo y x=false) : Dp x y=true:=by
 obtain ⟨e1,a1,b1⟩:=ES sJ h1 h2
 obtain ⟨e2,a2,b2⟩:=ES sJ a1 b1
 obtain ⟨e3,a3,b3⟩:=ES CE a2 b2
 obtain ⟨e4,_,_⟩:=ES Ed a3 b3
 exact decide_eq_true ⟨e1,e2,Prod.ext e4 e3⟩
def nP (xs:List aL) : Prop:=xs.Pairwise fun x y=>fo y x=false
theorem nP.at {xs:List aL} (h:nP xs) {i j:Nat} (hij:i≤j) (hj:j<xs.length) : fo xs[j] (xs[i]'(by omega))=false:=by
 rcases Nat.lt_or_ge i j with h1 | h1
 ·exact (List.pairwise_iff_getElem.1 h) i j (by omega) hj h1
 ·have:i=j:=by omega
  subst this
  exact fM.irrefl _
def WW (fv:AV) (c:av) : Prop:=∀ {M:RM} {x y:aL} {Q:ai},(∀ (n:Int) M',decide (n<0)=fo x y→decide (n=0)=Dp x y→ah [] M M'→Q (N .i64 n) M')→c [.agg (ay.cells x),.agg (ay.cells y)] M Q
theorem Zc {cv:FuncId→av} {n:Nat} (h:Aa (cv n)) : WW (.fn (.func n) [] []) (dZ cv (.fn (.func n) [] [])):=by
 intro M x y Q hQ
 exact ⟨n,[],[],rfl,h fun M' k=>hQ _ _ (Zt x y) (XH x y) k⟩
def Gv (fv:AV) (c:av) : Prop:=∀ {M:RM} {v:AV} {xs:List aL} {x:aL} {Q:ai},Sl ay M v xs→xs.length≤1000000→nP xs→(∀ (n:Int) M',ah [] M M'→Q (.tup [N .i64 n,Bo (xs.any fun y=>Dp y x)]) M')→c [v,.agg (ay.cells x),fv] M Q
theorem NC {TN:Nat} {fv:AV} {cv:FuncId→av} (hc:WW fv (dZ cv fv)) : Gv fv fun args M Q=>∃ a0 a1 a2,args=[a0,a1,a2]∧kH TN cv a0 a1 a2 M Q:=by
 intro M v xs x Q hv hl hu hQ
 refine ⟨_,_,_,rfl, ?_⟩
 unfold kH
 simp only [gM,fF,dY,fH,cZ]
 rw [dH rfl (by rw [ay.len]; decide),aX]
 have k0:ah [] M (M.push (.row (ay.cells x) false TN 0)):=(ah.refl _ _).push _
 have h0:(M.push (.row (ay.cells x) false TN 0)).heap M.next=some (.row (ay.cells x) false TN 0):=RM.aR _
 have n0:M.next<(M.push (.row (ay.cells x) false TN 0)).next:=by simp [RM.push]
 generalize M.push (.row (ay.cells x) false TN 0)=M1 at *
 generalize M.next=s at *
 rw [aM.len hv]
 refine aJ (fun m ys M3=>∃ i j:Nat,m=j - i∧ys=[N .i64 (i:Int),N .i64 (j:Int)]∧i≤j∧j≤xs.length∧ah [] M1 M3∧(∀ k (hk:k<xs.length),k<i→fo xs[k] x=true)∧(∀ k (hk:k<xs.length),j≤k→fo xs[k] x=false)) _
  ⟨0,xs.length,rfl,rfl,Nat.zero_le _,Nat.le_refl _,ah.refl _ _,by omega,by omega⟩ ?_
 rintro next m ys M3 hnext ⟨i,j,rfl,rfl,hij,hj,k3,h1,h2⟩
 dsimp only [aa]
 have h3:=k3.aO h0 n0 (by simp)
 have hv3:Sl ay M3 v xs:=aM.keep hv (k0.trans k3) (by simp)
 rw [dX]
 refine aI (fun hlt=>?_) (fun hge=>?_)
 ·have hlt:i<j:=of_decide_eq_true hlt
  rw [bH,eX,wm]
  refine ⟨by omega, ?_⟩
  rw [eX,half i j (by omega)]
  have hm:(i + j) / 2<xs.length:=by omega
  rw [lJ hv3 hm,dG (n:=5) h3 (by rw [ay.len]; rfl)]
  refine hc fun n M4 hn _ k4=>?_
  rw [bL,hn]
  refine aI (fun h=>?_) (fun h=>?_)
  ·rw [add1 (by omega)]
   refine hnext _ _ _ (by omega) ⟨(i + j) / 2 + 1,j,rfl,rfl,by omega,hj,k3.trans k4,fun k hk hki=>?_,h2⟩
   cases h5:fo xs[k] x with
   | true=>rfl
   | false =>
     have h6:=hu.at (i:=k) (j:=(i + j) / 2) (by omega) hm
     rw [fM.ntrans _ _ _ h6 h5] at h
     cases h
  ·refine hnext _ _ _ (by omega) ⟨i,(i + j) / 2,rfl,rfl,by omega,by omega,k3.trans k4,h1,fun k hk hki=>?_⟩
   have h6:=hu.at (i:=(i + j) / 2) (j:=k) hki hk
   exact fM.ntrans _ _ _ h6 h
 ·have hij:i=j:=by
   have:¬ i<j:=of_decide_eq_false hge
   omega
  subst hij
  rw [dX]
  refine vC (P:=fun M'=>ah [] M3 M') (p:=if h:i<xs.length then Dp xs[i] x else false) (ah.refl _ _) (fun hc' k hk=>?_) fun M' k'=>?_
  ·have hi:i<xs.length:=of_decide_eq_true hc'
   rw [lJ hv3 hi,dG (n:=5) h3 (by rw [ay.len]; rfl)]
   refine hc fun n M4 _ hn k4=>?_
   rw [di,show (n == (0:Int))=decide (n=0) from rfl,hn]
   rw [dif_pos hi] at hk
   exact hk _ k4
  ·have e:(decide (i<xs.length) && if h:i<xs.length then Dp xs[i] x else false)=xs.any fun y=>Dp y x:=by
    rw [Bool.eq_iff_iff,Bool.and_eq_true,List.any_eq_true,decide_eq_true_eq]
    constructor
    ·rintro ⟨hi,h⟩
     rw [dif_pos hi] at h
     exact ⟨_,List.getElem_mem hi,h⟩
    ·rintro ⟨y,hy,hk⟩
     obtain ⟨k,hkl,rfl⟩:=List.getElem_of_mem hy
     have hlt:fo xs[k] x=false:=by rw [(Rq hk x).1]; exact fM.irrefl _
     have hik:i≤k:=by
      rcases Nat.lt_or_ge k i with h | h
      ·rw [h1 k hkl h] at hlt; cases hlt
      ·exact h
     have hi:i<xs.length:=by omega
     refine ⟨hi, ?_⟩
     rw [dif_pos hi]
     refine Rv (h2 i hi (Nat.le_refl _)) ?_
     rw [← (Rq hk _).1]
     exact hu.at hik hkl
   rw [e]
   exact hQ _ _ ((k0.trans k3).trans k')
end Go.Ab.Crw
set_option maxRecDepth 10000
set_option linter.unusedVariables false
set_option linter.unusedSimpArgs false
namespace Go.Ab.Crw
open Go Go.Ab Go.Ab.aC
theorem zO {k:Nat} {ps:List Pt} (h:SI k ps) (hk:k≤4096) : ∀ q∈ps,Asc q.2∧q.2.length≤1000000:=fun q hq=>⟨(h.wf q hq).1,by have:=h.few q hq; omega⟩
theorem UL {M:RM} {size n:Nat} {v:AV} {cs:List AV} (h:aM M size v cs n) : known v=true:=by
 cases h <;> rfl
theorem X8 {M:RM} {c p:Bool} {f:ai→Prop} {P:RM→Prop} {G:AV→RM→Prop} (h0:P M) (hf:c=true→∀ k:ai,(∀ M',P M'→k (Bo p) M')→f k) (hG:∀ M',P M'→G (Bo (c && p)) M') :
  au (Bo c) true f (fun k=>k .undef M) (fun t M'=>aP (Bo c) t (Bo false) fun u=>G u M'):=by
 cases c with
 | false=>rw [bV]; dsimp only; rw [bU]; exact hG M h0
 | true=>rw [bS]; exact hf rfl _ fun M' h=>by rw [dF]; exact hG M' h
def JR (es:List aL) (x:aL) : Bool:=es.any fun y=>Dp y x
def S9 (TS T:Nat) (c:av) : Prop:=∀ {M:RM} {t:Nat} {B:Nat→Prop} {ps:List Pt} {es:List aL} {x:aL} {Q:ai},kI TS T B M t ps es→es.length≤1000000→nP es→(∀ M',ah [] M M'→Q (Bo (JR es x)) M')→c [.ptr t 0,.agg (ay.cells x)] M Q
theorem VL {TS T TN n:Nat} {cb:av} (hb:Gv (.fn (.func n) [] []) cb) : S9 TS T fun args M Q=>∃ a0 a1,args=[a0,a1]∧yO TN cb n a0 a1 M Q:=by
 intro M t B ps es x Q h hl hu hQ
 refine ⟨_,_,rfl, ?_⟩
 unfold yO
 rw [dH rfl (by rw [ay.len]; decide),aX]
 have k0:ah [] M (M.push (.row (ay.cells x) false TN 0)):=(ah.refl _ _).push _
 have h0:(M.push (.row (ay.cells x) false TN 0)).heap M.next=some (.row (ay.cells x) false TN 0):=RM.aR _
 obtain ⟨s,v,r1,_,r3,_,_⟩:=h.row
 have r1':=k0.aO r1 h.lt (by simp)
 have r3' : Sl ay (M.push (.row (ay.cells x) false TN 0)) v es:=aM.keep r3 k0 (by simp)
 generalize M.push (.row (ay.cells x) false TN 0)=M1 at *
 generalize M.next=b at *
 rw [aK,aG,ak (i:=0 + 1) r1' rfl,dG (n:=5) h0 (by rw [ay.len]; rfl)]
 refine hb r3' hl hu fun n M2 k2=>?_
 rw [oZ,pF]
 exact hQ M2 (k0.trans k2)
def Ti (TS T:Nat) (c:av) : Prop:=∀ {M:RM} {t k:Nat} {B:Nat→Prop} {ps:List Pt} {es:List aL} {Q:ai},kI TS T B M t ps es→SI k ps→k≤4096 →
 (∀ a M',M.next≤a→fZ T (fun e=>a<e) M' a ps→ah [] M M'→Q (.ptr a 0) M')→c [.ptr t 0] M Q
theorem Vv {TS T:Nat} {cc:av} (hc:Dy T cc) : Ti TS T fun args M Q=>∃ a0,args=[a0]∧xm cc a0 M Q:=by
 intro M t k B ps es Q h hi hk hQ
 refine ⟨_,rfl, ?_⟩
 unfold xm
 obtain ⟨s,v,r1,⟨S,r2,_⟩,_,_,_⟩:=h.row
 rw [aK,aW,ak r1 rfl]
 exact hc r2 hi hk hQ
def EF (TS T:Nat) (c:av) : Prop:=∀ {M:RM} {t k:Nat} {B:Nat→Prop} {ps:List Pt} {es:List aL} {Q:ai},kI TS T B M t ps es→SI k ps→k≤4096→es.length≤1000000 →
 (∀ a M',M.next≤a→kI TS T (fun d=>M.next≤d∧d<a) M' a ps es→ah [] M M'→Q (.ptr a 0) M')→c [.ptr t 0] M Q
theorem P8 {TS T TN:Nat} {cc cl:av} (hc:Dy T cc) (hL:zH TN cl) : EF TS T fun args M Q=>∃ a0,args=[a0]∧wL cc cl TS a0 M Q:=by
 intro M t k B ps es Q h hi hk hl hQ
 refine ⟨_,rfl, ?_⟩
 unfold wL
 obtain ⟨s,v,r1,⟨S,r2,_⟩,r3,_,_⟩:=h.row
 rw [aK,aW,ak r1 rfl,aK,aG,ak (i:=0 + 1) r1 rfl]
 refine hc r2 hi hk fun a M1 ha h1 k1=>?_
 rw [ak (i:=0 + 1) (k1.aO r1 h.lt (by simp)) rfl]
 refine ⟨rfl, ?_⟩
 have hb1:=h1.below
 have alt:=h1.lt
 refine hL (aM.keep r3 k1 (by simp)) hl fun v' M2 h2 k2=>?_
 have n1:=k1.next
 have n2:=k2.next
 rw [mW]
 refine ⟨[.ptr a 0,v'],UX rfl rfl (UL h2.eu) (aM.cells h2.eu), ?_⟩
 rw [dH (by show (oneCell (.ptr a 0) && (oneCell v' && true))=true; rw [aM.one h2.eu]; rfl) (by simp),iV]
 have k3:ah [] M2 (M2.push (.row [.ptr a 0,v'] false TS 0)):=(ah.refl _ _).push _
 refine hQ _ _ (by omega) ⟨by simp [RM.push],⟨a,v',RM.aR _,⟨_,(hb1.keep k2 (by simp) (by simp)).keep k3 (by simp) (by simp),fun d hd=>⟨by omega,by omega⟩⟩,aM.keep h2.eu k3 (by simp),⟨by omega,by omega⟩,fun d hd=>?_⟩,fun hh=>by omega⟩ ((k1.trans k2).trans k3)
 have:=h2.blk d hd
 exact ⟨by omega,by omega⟩
def JP (TS T:Nat) (c:av) : Prop:=∀ {M:RM} {t u k l:Nat} {B C:Nat→Prop} {ps qs:List Pt} {es fs:List aL} {Q:ai},kI TS T B M t ps es→kI TS T C M u qs fs→SI k ps→SI l qs→k≤4096→l≤4096→es.length≤1000000 →
 (∀ M',ah [] M M'→Q (Bo ((decide (es=fs) && iL ps qs) && iL qs ps)) M')→c [.ptr t 0,.ptr u 0] M Q
theorem P9 {TS T:Nat} {ce cw:av} (he:ug ce) (hW:EU T cw) : JP TS T fun args M Q=>∃ a0 a1,args=[a0,a1]∧xh ce cw a0 a1 M Q:=by
 intro M t u k l B C ps qs es fs Q h g hi gi hk gk hl hQ
 refine ⟨_,_,rfl, ?_⟩
 unfold xh
 simp only [gM,fF,dY,fH,cZ]
 obtain ⟨s,v,r1,⟨S,r2,_⟩,r3,_,_⟩:=h.row
 obtain ⟨s',v',q1,⟨S',q2,_⟩,q3,_,_⟩:=g.row
 rw [aK,aG,ak (i:=0 + 1) r1 rfl,aK,aG,ak (i:=0 + 1) q1 rfl]
 refine he r3 q3 hl ?_
 refine X8 (P:=fun M'=>ah [] M M') (p:=iL ps qs) (ah.refl _ _) (fun _ k hk'=>?_) fun M1 k1=>?_
 ·rw [aK,aW,ak r1 rfl,aK,aW,ak q1 rfl]
  exact hW r2 q2 (fun p hp=>(zO hi hk p hp).2) (zO gi gk) fun M' k'=>hk' M' k'
 refine X8 (P:=fun M'=>ah [] M1 M') (p:=iL qs ps) (ah.refl _ _) (fun _ k hk'=>?_) fun M2 k2=>?_
 ·rw [aK,aW,ak (k1.aO q1 g.lt (by simp)) rfl,aK,aW,ak (k1.aO r1 h.lt (by simp)) rfl]
  exact hW (q2.keep k1 (by simp) (by simp)) (r2.keep k1 (by simp) (by simp)) (fun p hp=>(zO gi gk p hp).2) (zO hi hk) fun M' k'=>hk' M' k'
 exact hQ M2 (k1.trans k2)
end Go.Ab.Crw
set_option maxRecDepth 10000
set_option linter.unusedVariables false
set_option linter.unusedSimpArgs false
namespace Go.Ab.Crw
open Go Go.Ab Go.Ab.aC
abbrev jX:=List Pt × List aL
def qo (s:jX) (x:Ev) : jX:=if dM x.1 x.2 then (wW s.1 x.1 x.2,jW s.1 s.2 x.1 x.2) else s
def ko (l:List Ev) : jX:=l.foldl qo (jE,[])
theorem Le (l:List Ev) (x:Ev) : ko (l++[x])=qo (ko l) x:=by rw [ko,List.foldl_append]; rfl
structure FE (i:Nat) (s:jX) : Prop where
 si:SI (65 * i) s.1
 few:s.2.length≤i
 up:nP s.2
theorem K7 {ps:List Pt} {es:List aL} {e:l7} {ks:List aC} (h:nP es) : nP (jW ps es e ks):=by
 unfold jW
 refine List.Pairwise.filter _ ?_
 split
 ·exact Pg fM _
 ·exact h
theorem FE.step {i:Nat} {s:jX} (h:FE i s) (x:Ev) : FE (i + 1) (qo s x):=by
 unfold qo
 split
 ·rename_i hg
  obtain ⟨_,g2,_,_,_⟩:=oD hg
  refine ⟨(yl h.si).mono (by simp; omega), ?_,K7 h.up⟩
  have:=SA s.1 s.2 x.1 x.2
  have:=h.few
  show (jW s.1 s.2 x.1 x.2).length≤i + 1
  omega
 ·exact ⟨h.si.mono (by omega),by have:=h.few; omega,h.up⟩
theorem FE.empty:FE 0 (jE,[]):=⟨wP,Nat.le_refl _,.nil⟩
theorem VX:∀ (l:List Ev),FE l.length (ko l):=fun l=>by
 suffices h:∀ (l:List Ev) (i:Nat) (s:jX),FE i s→FE (i + l.length) (l.foldl qo s) by
  have:=h l 0 _ FE.empty
  rwa [Nat.zero_add] at this
 intro l
 induction l with
 | nil=>intro i s h; exact h
 | cons x l ih =>
   intro i s h
   have:=ih (i + 1) (qo s x) (h.step x)
   rwa [show i + 1 + l.length=i + (x :: l).length by simp; omega] at this
def sH (n m:Nat) (back:Bool) (i:Nat) : Nat:=if back then n - 1 - (i + m) % n else (i + m) % n
theorem qO {n m i:Nat} {back:Bool} (h:i<n) : sH n m back i<n:=by
 have:=Nat.mod_lt (i + m) (show 0<n by omega)
 unfold sH; split <;> omega
def jJ (l:List Ev) (m:Nat) (back:Bool) : List Ev:=(List.range l.length).map fun i=>l.getD (sH l.length m back i) (((0,0),(0,([],([],[])))),[])
theorem nY (l:List Ev) (m:Nat) (back:Bool) : (jJ l m back).length=l.length:=by simp [jJ]
theorem zC {l:List Ev} {m:Nat} {back:Bool} {i:Nat} (h:i<l.length) : (jJ l m back)[i]'(by rw [nY]; exact h)=l[sH l.length m back i]'(qO h):=by
 simp only [jJ,List.getElem_map,List.getElem_range]
 rw [List.getD_eq_getElem?_getD,List.getElem?_eq_getElem (qO h)]; rfl
theorem VJ {l:List Ev} {m:Nat} {back:Bool} {i:Nat} (h:i<l.length) : ko ((jJ l m back).take (i + 1))=qo (ko ((jJ l m back).take i)) (l[sH l.length m back i]'(qO h)):=by
 rw [List.take_succ_eq_append_getElem (by rw [nY]; exact h),Le,zC h]
def Io (TS T:Nat) (c:av) : Prop:=∀ {M:RM} {v:AV} {l:List Ev} {n:Int} {m:Nat} {back:Bool} {Q:ai},fT kW M v l (fun d=>d<M.next)→l.length≤60→PG .i64 n 1023=(m:Int)→m≤1023 →
 (∀ t M',M.next≤t→kI TS T (fun d=>M.next≤d∧d<M'.next∧d≠t) M' t (ko (jJ l m back)).1 (ko (jJ l m back)).2→ah [] M M'→Q (.ptr t 0) M')→c [v,N .i64 n,Bo back] M Q
theorem Tm {TS T:Nat} {cn cA:av} (hn:OB TS T cn) (hA:Oo TS T cA) : Io TS T fun args M Q=>∃ a0 a1 a2,args=[a0,a1,a2]∧Ka cn cA a0 a1 a2 M Q:=by
 intro M v l n m back Q hv hl hm hm2 hQ
 refine ⟨_,_,_,rfl, ?_⟩
 unfold Ka
 simp only [gM,fF,dY,fH,cZ]
 refine hn fun t M1 ht st1 k1=>?_
 refine aJ (fun z ys M3=>∃ i:Nat,z=l.length - i∧ys=[N .i64 (i:Int)]∧i≤l.length∧ah [] M M3∧kI TS T (fun d=>M.next≤d∧d<M3.next∧d≠t) M3 t (ko ((jJ l m back).take i)).1 (ko ((jJ l m back).take i)).2) _
  ⟨0,rfl,rfl,Nat.zero_le _,k1,(st1.mono (B':=fun d=>M.next≤d∧d≠t) (fun d hd=>⟨hd.1,by omega⟩) (fun h=>h.2 rfl)).below.mono (fun d hd=>⟨hd.1.1,hd.2,hd.1.2⟩) (fun h=>h.2.2 rfl)⟩ ?_
 rintro next z ys M3 hnext ⟨i,rfl,rfl,hi,k3,st3⟩
 dsimp only [aa]
 have hv3:fT kW M3 v l (fun d=>d<M.next):=hv.keep k3 (by simp)
 rw [hv3.len,dX]
 refine aI (fun hlt=>?_) (fun hge=>?_)
 ·have hlt:i<l.length:=of_decide_eq_true hlt
  have n3:=k3.next
  refine bn (fun zs M'=>zs=[]∧ah [] M M'∧kI TS T (fun d=>M.next≤d∧d<M'.next∧d≠t) M' t (ko ((jJ l m back).take (i + 1))).1 (ko ((jJ l m back).take (i + 1))).2) ?_ ?_
  ·rintro zs M' ⟨rfl,k',st'⟩
   rw [add1 (by omega)]
   exact hnext _ _ _ (by omega) ⟨i + 1,rfl,rfl,by omega,k',st'⟩
  intro J hJ
  rw [Bj,hm,addN (by omega),hv3.len,OU]
  refine ⟨by omega, ?_⟩
  rw [show (((i + m:Nat) : Int)).tmod (l.length:Int)=(((i + m) % l.length:Nat) : Int) by rw [Int.tmod_eq_emod_of_nonneg (by omega)]; rfl]
  have hj:(i + m) % l.length<l.length:=Nat.mod_lt _ (by omega)
  have hI:FE i (ko ((jJ l m back).take i)):=by
   have:=VX ((jJ l m back).take i)
   rwa [List.length_take,nY,Nat.min_eq_left hi] at this
  have htk:=VJ (m:=m) (back:=back) hlt
  have hil:=qO (n:=l.length) (m:=m) (i:=i) (back:=back) hlt
  refine bn (fun zs M'=>zs=[N .i64 ((sH l.length m back i:Nat) : Int)]∧M'=M3) ?_ ?_
  ·rintro zs M' ⟨rfl,rfl⟩
   dsimp only [aa]
   rw [htk] at hJ
   clear htk
   generalize ko ((jJ l m back).take i)=s at *
   obtain ⟨b,o,kv,hidx,hl7,_,hkv,hkb⟩:=Ih hv3 hil
   rw [hidx,hl7]
   generalize l[sH l.length m back i]'hil=x at *
   have hne:t ∉ aF kv:=fun h=>by have:=hkb t h; omega
   refine hA st3 hI.si (by omega) (by have:=hI.few; omega) hkv hne (fun hb M4 k4=>?_) (fun hg M4 st4 k4=>?_)
   ·refine hJ [] M4 ⟨rfl,k3.trans k4, ?_⟩
    unfold qo
    rw [if_neg (by rw [hb]; decide)]
    have n4:=k4.next
    exact (st3.keep k4 (by simp) (by simp)).mono (fun d hd=>⟨hd.1,by omega,hd.2.2⟩) (fun h=>h.2.2 rfl)
   ·refine hJ [] M4 ⟨rfl,k3.bi k4 (fun d hd=>by simp at hd; omega), ?_⟩
    unfold qo
    rw [if_pos hg]
    have lt3:=st3.lt
    have n4:=k4.next
    refine (st4.below.mono (B':=fun d=>M.next≤d∧d<M4.next∧d≠t) (fun d hd=>?_) (fun h=>h.2.2 rfl))
    obtain ⟨h | h,h'⟩:=hd
    ·exact ⟨h.1,h',h.2.2⟩
    ·exact ⟨by omega,h',by omega⟩
  ·intro J2 hJ2
   cases back with
   | true =>
     rw [dP,hv3.len,dm (by omega) (by omega),gK (by omega) (by omega)]
     exact hJ2 _ _ ⟨rfl,rfl⟩
   | false =>
     rw [bK]
     exact hJ2 _ _ ⟨rfl,rfl⟩
 ·have he:i=l.length:=by
   have:¬ i<l.length:=of_decide_eq_false hge
   omega
  subst he
  rw [List.take_of_length_le (by rw [nY]; exact Nat.le_refl _)] at st3
  exact hQ t M3 ht st3 k3
end Go.Ab.Crw
set_option maxRecDepth 10000
set_option linter.unusedVariables false
set_option linter.unusedSimpArgs false
namespace Go.Ab.Crw
open Go Go.Ab Go.Ab.aC
def nQ (qs:List Pt) (fs:List aL) (x:aL) : Bool:=JR fs x || !dB qs x.1
def nC (ps:List Pt) (es:List aL) (x:aL) : Bool:=!JR es x && !dB ps x.1
def ny (ps qs:List Pt) (es fs:List aL) : List aL:=nu fo (es.filter (nQ qs fs)++fs.filter (nC ps es))
theorem uF {α:Type} {p:α→Bool} {l:List α} {i:Nat} (h:i<l.length) : (l.take (i + 1)).filter p=(l.take i).filter p++(if p l[i] then [l[i]] else []):=by
 rw [List.take_succ_eq_append_getElem h,List.filter_append,List.filter_cons,List.filter_nil]
theorem vO {α:Type} (p:α→Bool) (l:List α) (i:Nat) : ((l.take i).filter p).length≤i:=Nat.le_trans (List.length_filter_le _ _) (by rw [List.length_take]; omega)
theorem mD (x:aL) : (ay.cells x).all oneCell=true:=rfl
theorem H5 {M:RM} {b T:Nat} {x:aL} {p:Bool} (h:M.heap b=some (.row (ay.cells x) p T 0)) {K:AV→Prop} : aH M (.ptr b 0) 2 K=K (.agg (aQ x.1)):=by
 have e2:((ay.cells x).drop 0).take 2=aQ x.1:=rfl
 rw [eQ,RM.dh h (by rw [ay.len]; decide),e2]
 simp
def wu (TS T:Nat) (c:av) : Prop:=∀ {M:RM} {t u k l:Nat} {B C:Nat→Prop} {ps qs:List Pt} {es fs:List aL} {Q:ai},kI TS T B M t ps es→kI TS T C M u qs fs→(t=u→ps=qs∧es=fs)→(t≠u→∀ d,B d→¬ C d)→¬ C t→¬ B u →
 SI k ps→SI l qs→k≤4096→l≤4096→es.length + fs.length≤50000→nP es→nP fs →
 (∀ s M',B s→kI TS T (fun d=>B d∨M.next≤d) M' t (iM ps qs) (ny ps qs es fs)→ah [t,s] M M'→Q (.tup []) M')→c [.ptr t 0,.ptr u 0] M Q
theorem Qe {TS T TN nc:Nat} {ch cH cS cj:av} (hh:S9 TS T ch) (hH:Mw T cH) (hS:Ez (.fn (.func nc) [] []) fo TN cS) (hj:IV T cj) :
  wu TS T fun args M Q=>∃ a0 a1,args=[a0,a1]∧wD TN ch cH cS nc cj a0 a1 M Q:=by
 intro M t u k l B C ps qs es fs Q hst hsu htu hsep hCt hBu hi gi hk4 hl4 hlen hup gup hQ
 refine ⟨_,_,rfl, ?_⟩
 unfold wD
 simp only [gM,fF,dY,fH,cZ]
 obtain ⟨s,v,r1,⟨S,r2,r2'⟩,r3,r4,r5⟩:=hst.row
 obtain ⟨s',v',q1,⟨S',q2,q2'⟩,q3,q4,q5⟩:=hsu.row
 have tlt:=hst.lt
 have ult:=hsu.lt
 rw [aK,aG,ak (i:=0 + 1) r1 rfl,aM.len r3]
 refine aJ (fun z ys M3=>∃ (i:Nat) (dv:AV),z=es.length - i∧ys=[dv,N .i64 (i:Int)]∧i≤es.length∧ah [] M M3∧Ow ay M3 M.next TN dv ((es.take i).filter (nQ qs fs))) _
  ⟨0,eG,rfl,rfl,Nat.zero_le _,ah.refl _ _,.nil⟩ ?_
 rintro next z ys M3 hnext ⟨i,dv,rfl,rfl,hil,k3,o3⟩
 dsimp only [aa]
 rw [dX]
 refine aI (fun hlt=>?_) (fun hge=>?_)
 ·have hlt:i<es.length:=of_decide_eq_true hlt
  have n3:=k3.next
  have hfl:=vO (nQ qs fs) es i
  refine bn (fun zs M'=>∃ dv',zs=[dv']∧ah [] M M'∧Ow ay M' M.next TN dv' ((es.take (i + 1)).filter (nQ qs fs))) ?_ ?_
  ·rintro zs M' ⟨dv',rfl,k',o'⟩
   dsimp only [aa]
   rw [add1 (by omega)]
   exact hnext _ _ _ (by omega) ⟨i + 1,dv',rfl,rfl,by omega,k',o'⟩
  intro J hJ
  rw [uF hlt] at hJ
  rw [lJ (aM.keep r3 k3 (by simp)) hlt]
  generalize (es.take i).filter (nQ qs fs)=acc at *
  generalize es[i]=x at *
  rw [aX,gI (n:=5) (x:=.agg (ay.cells x)) (l:=[(N .i64 0),(N .u64 0),(St []),(St []),(St [])]) (RM.aR _) rfl rfl (mD x)]
  have k4:ah [] M3 ((M3.push (.row [(N .i64 0),(N .u64 0),(St []),(St []),(St [])] false TN 0)).put M3.next (.row (AV.agg (ay.cells x)).cells false TN 0)):=((ah.refl _ _).push _).new _ (Nat.le_refl _)
  have h4:((M3.push (.row [(N .i64 0),(N .u64 0),(St []),(St []),(St [])] false TN 0)).put M3.next (.row (AV.agg (ay.cells x)).cells false TN 0)).heap M3.next=some (.row (ay.cells x) false TN 0):=aZ _
  have n4:M3.next<((M3.push (.row [(N .i64 0),(N .u64 0),(St []),(St []),(St [])] false TN 0)).put M3.next (.row (AV.agg (ay.cells x)).cells false TN 0)).next:=by rw [lY]; simp [RM.push]
  generalize (M3.push (.row [(N .i64 0),(N .u64 0),(St []),(St []),(St [])] false TN 0)).put M3.next (.row (AV.agg (ay.cells x)).cells false TN 0)=M4 at *
  generalize M3.next=b at *
  rw [dG (n:=5) h4 rfl]
  have su4:=hsu.keep (k3.trans k4) (by simp) (by simp)
  refine hh su4 (by omega) gup fun M5 k5=>?_
  have h5:=k5.aO h4 n4 (by simp)
  have k35:=k4.trans k5
  have k05:=k3.trans k35
  refine Rk (P:=fun M'=>ah [] M5 M') (p:=!dB qs x.1) (ah.refl _ _) (fun _ k' hk'=>?_) fun M6 k6=>?_
  ·rw [aK,aW,ak (k05.aO q1 ult (by simp)) rfl,aW,H5 h5]
   refine hH (q2.keep k05 (by simp) (by simp)) (zO gi (by omega)) fun M6 k6=>?_
   rw [bO]
   exact hk' M6 k6
  have k36:=k35.trans k6
  have k06:=k3.trans k36
  have n5:=k5.next
  have h6:=k6.aO h5 (by omega) (by simp)
  have o6:=o3.keep k36 (by simp)
  refine aI (fun hc=>?_) (fun hc=>?_)
  ·rw [dG (n:=5) h6 rfl,je (x:=.agg (ay.cells x)) (size:=5) rfl (mD x) rfl,aX]
   refine tF (E:=ay) (a:=x) o6 (by have:=k06.next; omega) (by decide) (by omega) (by omega) fun v2 M7 o7 k7 n7 _=>?_
   refine hJ _ _ ⟨v2,rfl,k06.bi k7 (fun d hd=>.inl (o6.blk d hd).1), ?_⟩
   rw [show nQ qs fs x=true from hc,if_pos rfl]
   exact o7
  ·refine hJ _ _ ⟨dv,rfl,k06, ?_⟩
   rw [show nQ qs fs x=false from hc,if_neg (by decide),List.append_nil]
   exact o6
 have he:i=es.length:=by
  have:¬ i<es.length:=of_decide_eq_false hge
  omega
 subst he
 rw [List.take_length] at o3
 clear hnext hge
 have hel:(es.filter (nQ qs fs)).length≤es.length:=List.length_filter_le _ _
 have q1':=k3.aO q1 ult (by simp)
 have q3' : Sl ay M3 v' fs:=aM.keep q3 k3 (by simp)
 rw [aK,aG,ak (i:=0 + 1) q1' rfl,aM.len q3']
 have hE:ny ps qs es fs=nu fo (es.filter (nQ qs fs)++fs.filter (nC ps es)):=rfl
 generalize es.filter (nQ qs fs)=eA at *
 refine aJ (fun z ys M4=>∃ (i:Nat) (dw:AV),z=fs.length - i∧ys=[dw,N .i64 (i:Int)]∧i≤fs.length∧ah [] M M4∧Ow ay M4 M.next TN dw (eA++(fs.take i).filter (nC ps es))) _
  ⟨0,dv,rfl,rfl,Nat.zero_le _,k3,by simpa using o3⟩ ?_
 clear o3 k3 q1' q3'
 rintro next z ys M4 hnext ⟨i,dw,rfl,rfl,hil,k4,o4⟩
 dsimp only [aa]
 rw [dX]
 refine aI (fun hlt=>?_) (fun hge=>?_)
 ·have hlt:i<fs.length:=of_decide_eq_true hlt
  have n4:=k4.next
  have hfl:=vO (nC ps es) fs i
  refine bn (fun zs M'=>∃ dv',zs=[dv']∧ah [] M M'∧Ow ay M' M.next TN dv' (eA++(fs.take (i + 1)).filter (nC ps es))) ?_ ?_
  ·rintro zs M' ⟨dv',rfl,k',o'⟩
   dsimp only [aa]
   rw [add1 (by omega)]
   exact hnext _ _ _ (by omega) ⟨i + 1,dv',rfl,rfl,by omega,k',o'⟩
  intro J hJ
  rw [uF hlt,← List.append_assoc] at hJ
  rw [lJ (aM.keep q3 k4 (by simp)) hlt]
  have hal:(eA++(fs.take i).filter (nC ps es)).length≤es.length + i:=by rw [List.length_append]; omega
  generalize eA++(fs.take i).filter (nC ps es)=acc at *
  generalize fs[i]=x at *
  rw [aX,gI (n:=5) (x:=.agg (ay.cells x)) (l:=[(N .i64 0),(N .u64 0),(St []),(St []),(St [])]) (RM.aR _) rfl rfl (mD x)]
  have k5:ah [] M4 ((M4.push (.row [(N .i64 0),(N .u64 0),(St []),(St []),(St [])] false TN 0)).put M4.next (.row (AV.agg (ay.cells x)).cells false TN 0)):=((ah.refl _ _).push _).new _ (Nat.le_refl _)
  have h5:((M4.push (.row [(N .i64 0),(N .u64 0),(St []),(St []),(St [])] false TN 0)).put M4.next (.row (AV.agg (ay.cells x)).cells false TN 0)).heap M4.next=some (.row (ay.cells x) false TN 0):=aZ _
  have n5:M4.next<((M4.push (.row [(N .i64 0),(N .u64 0),(St []),(St []),(St [])] false TN 0)).put M4.next (.row (AV.agg (ay.cells x)).cells false TN 0)).next:=by rw [lY]; simp [RM.push]
  generalize (M4.push (.row [(N .i64 0),(N .u64 0),(St []),(St []),(St [])] false TN 0)).put M4.next (.row (AV.agg (ay.cells x)).cells false TN 0)=M5 at *
  generalize M4.next=b at *
  rw [dG (n:=5) h5 rfl]
  have st5:=hst.keep (k4.trans k5) (by simp) (by simp)
  refine hh st5 (by omega) hup fun M6 k6=>?_
  have h6:=k6.aO h5 n5 (by simp)
  have k46:=k5.trans k6
  have k06:=k4.trans k46
  rw [bO]
  refine vC (P:=fun M'=>ah [] M6 M') (p:=!dB ps x.1) (ah.refl _ _) (fun _ k' hk'=>?_) fun M7 k7=>?_
  ·rw [aK,aW,ak (k06.aO r1 tlt (by simp)) rfl,aW,H5 h6]
   refine hH (r2.keep k06 (by simp) (by simp)) (zO hi (by omega)) fun M7 k7=>?_
   rw [bO]
   exact hk' M7 k7
  have k47:=k46.trans k7
  have k07:=k4.trans k47
  have n6:=k6.next
  have h7:=k7.aO h6 (by omega) (by simp)
  have o7:=o4.keep k47 (by simp)
  refine aI (fun hc=>?_) (fun hc=>?_)
  ·rw [dG (n:=5) h7 rfl,je (x:=.agg (ay.cells x)) (size:=5) rfl (mD x) rfl,aX]
   refine tF (E:=ay) (a:=x) o7 (by have:=k07.next; omega) (by decide) (by omega) (by omega) fun v2 M8 o8 k8 n8 _=>?_
   refine hJ _ _ ⟨v2,rfl,k07.bi k8 (fun d hd=>.inl (o7.blk d hd).1), ?_⟩
   rw [show nC ps es x=true from hc,if_pos rfl]
   exact o8
  ·refine hJ _ _ ⟨dw,rfl,k07, ?_⟩
   rw [show nC ps es x=false from hc,if_neg (by decide),List.append_nil]
   exact o7
 have he:i=fs.length:=by
  have:¬ i<fs.length:=of_decide_eq_false hge
  omega
 subst he
 rw [List.take_length] at o4
 clear hnext hge
 have hel2:(eA++fs.filter (nC ps es)).length≤es.length + fs.length:=by
  have:=List.length_filter_le (nC ps es) fs
  rw [List.length_append]; omega
 refine hS o4 (by omega) fun M5 o5 k5=>?_
 rw [← hE] at o5
 have k05:=k4.bi k5 (fun d hd=>.inl (o4.blk d hd).1)
 have n5:=k05.next
 have r15:=k05.aO r1 tlt (by simp)
 have q15:=k05.aO q1 ult (by simp)
 rw [aK,aG,fq (i:=0 + 1) r15 (by simp) (aM.cells o5.eu) (aM.one o5.eu)]
 have k6:ah [t] M5 (M5.put t (.row ([AV.ptr s 0,v].set (0 + 1) dw) false TS 0)):=(ah.refl _ _).put _ (.inr (by simp))
 have h6:(M5.put t (.row ([AV.ptr s 0,v].set (0 + 1) dw) false TS 0)).heap t=some (.row [.ptr s 0,dw] false TS 0):=aZ _
 have g6:∃ w,(M5.put t (.row ([AV.ptr s 0,v].set (0 + 1) dw) false TS 0)).heap u=some (.row [.ptr s' 0,w] false TS 0):=by
  by_cases e:t=u
  ·subst e
   rw [r1] at q1
   cases q1
   exact ⟨_,h6⟩
  ·exact ⟨v',uG q15 (fun h=>e h.symm)⟩
 have st:t≠s:=fun e=>hst.nb (e▸r4)
 have o6:=o5.keep k6 (fun d hd hm=>by
  simp at hm; subst hm
  have:=(o5.blk _ hd).1
  omega)
 have n6:=k6.next
 have s6:=(r2.keep k05 (by simp) (by simp)).keep k6 (by simp; exact fun e=>st e.symm) (fun d hd hS=>by
  simp at hd; subst hd
  exact hst.nb (r2' _ hS))
 have t6:=(q2.keep k05 (by simp) (by simp)).keep k6 (by
  simp
  intro e
  exact hCt (e▸q4)) (fun d hd hS=>by
  simp at hd; subst hd
  exact hCt (q2' _ hS))
 have k06:ah [t] M (M5.put t (.row ([AV.ptr s 0,v].set (0 + 1) dw) false TS 0)):=(k05.mono (by simp)).trans k6
 generalize M5.put t (.row ([AV.ptr s 0,v].set (0 + 1) dw) false TS 0)=M6 at *
 obtain ⟨w,g6⟩:=g6
 rw [aK,aW,ak h6 rfl,aK,aW,ak g6 rfl]
 have hne:¬ S' s:=fun h=>by
  by_cases e:t=u
  ·subst e
   rw [r1] at q1
   cases q1
   exact q2.nb h
  ·exact hsep e s r4 (q2' s h)
 have hss:s=s'→ps=qs:=fun e=>by
  by_cases e' : t=u
  ·exact (htu e').1
  ·exact absurd (e▸q4) (hsep e' s r4)
 refine hj.use s6 t6 hss hne hi gi (by omega) fun M7 s7 k7=>?_
 have n7:=k7.next
 have nb' : ¬ (B t∨M.next≤t):=fun h=>by
  rcases h with h | h
  ·exact hst.nb h
  ·omega
 refine hQ s M7 r4 ⟨by omega,⟨s,dw,k7.aO h6 (by omega) (by simp; exact st),⟨_,s7,fun d hd=>?_⟩,aM.keep o6.eu k7 (fun d hd hm=>?_),.inl r4,fun d hd=>.inr (o5.blk d hd).1⟩,nb'⟩ ((k06.mono (by simp)).trans (k7.mono (by simp)))
 ·rcases hd with hd | hd
  ·exact .inl (r2' d hd)
  ·exact .inr (by omega)
 ·simp at hm; subst hm
  have:=(o6.blk _ hd).1
  have:=r2.lt
  omega
end Go.Ab.Crw
set_option maxRecDepth 10000
set_option linter.unusedVariables false
set_option linter.unusedSimpArgs false
namespace Go.Ab.Crw
open Go Go.Ab Go.Ab.aC
theorem nG {α:Type} [DecidableEq α] : ∀ {xs ys:List α},xs.Nodup→(∀ x∈xs,x∈ys)→xs.length≤ys.length
 | [],_,_,_=>Nat.zero_le _
 | x :: xs,ys,hn,hs=>by
   have hx:x∈ys:=hs x (by simp)
   rw [List.nodup_cons] at hn
   have:=nG (xs:=xs) (ys:=ys.erase x) hn.2 fun y hy=>(List.mem_erase_of_ne (by rintro rfl; exact hn.1 hy)).2 (hs y (by simp [hy]))
   rw [List.length_erase_of_mem hx] at this
   have h0:0<ys.length:=List.length_pos_of_mem hx
   simp
   omega
theorem Gt {k:Nat} {ps:List Pt} (h:SI k ps) {j x:Nat} (hj:j<16) (hx:x∈(ps.getD j (0,[])).2) : dB ps ((j:Int),x)=true:=by
 have w:=(h.at j).1
 have h1:=w.2.1 x hx
 have h2:=w.2.2.2.1 x hx
 rw [dB,Bool.and_eq_true]
 refine ⟨?_, ?_⟩
 ·simp only [good,Bool.and_eq_true,decide_eq_true_eq]
  omega
 ·rw [gV]
  exact .inr (by simpa using hx)
theorem VE {k l:Nat} {ps qs:List Pt} (h1:SI k ps) (h2:SI l qs) {D:List aC} (d1:∀ d,dB ps d=true→d∈D) (d2:∀ d,dB qs d=true→d∈D) {j:Nat} (hj:j<16) : (jl (ps.getD j (0,[])) (qs.getD j (0,[]))).length≤D.length:=by
 obtain ⟨a1,a2,_⟩:=tQ (ps.getD j (0,[])) (qs.getD j (0,[]))
 have hn:((jl (ps.getD j (0,[])) (qs.getD j (0,[]))).map fun x=>(((j:Int),x) : aC)).Nodup:=by
  rw [List.Nodup,List.pairwise_map]
  exact List.Pairwise.imp (fun {a b} (h:a<b) e=>by cases e; omega) a1
 have:=nG hn (ys:=D) fun d hd=>by
  obtain ⟨x,hx,rfl⟩:=List.mem_map.1 hd
  rcases (a2 x).1 hx with h | h
  ·exact d1 _ (Gt h1 hj h)
  ·exact d2 _ (Gt h2 hj h)
 rwa [List.length_map] at this
theorem Uh {p q:Pt} (hp:iZ p) (hq:iZ q) (hl:(jl p q).length≤4096) :
  iZ (lK iw dd p q)∧(∀ x,il (lK iw dd p q) x=true↔il p x=true∨il q x=true)∧(lK iw dd p q).2.length≤(jl p q).length:=by
 obtain ⟨h1,h2,h3⟩:=tQ p q
 have he:lK iw dd p q=Go.Ab.aC.settle (max p.1 q.1) (jl p q):=rfl
 rw [he]
 have hpos:∀ y∈jl p q,1≤y:=fun y hy=>by
  rcases (h2 y).1 hy with h | h
  ·have:=hp.2.1 y h; omega
  ·have:=hq.2.1 y h; omega
 have hle:∀ y∈jl p q,y≤1099511627776:=fun y hy=>by
  rcases (h2 y).1 hy with h | h
  ·exact hp.2.2.2.1 y h
  ·exact hq.2.2.2.1 y h
 have hm:max p.1 q.1≤1099511627776:=by have:=hp.2.2.1; have:=hq.2.2.1; omega
 obtain ⟨s1,s2,s3,s4⟩:=rU (jl p q) (max p.1 q.1) 1099511627776 h1 hm hle
 have hsl:=vK (max p.1 q.1) (jl p q)
 refine ⟨⟨s1,s2,s3,fun x hx=>hle x (BM hx),by omega⟩,fun x=>?_,by omega⟩
 rw [vH _ _ _ hpos,h2,gV,gV]
 constructor
 ·rintro (h | h | h)
  ·by_cases hx:x≤p.1
   ·exact .inl (.inl ⟨h.1,hx⟩)
   ·exact .inr (.inl ⟨h.1,by omega⟩)
  ·exact .inl (.inr h)
  ·exact .inr (.inr h)
 ·rintro ((h | h) | (h | h))
  ·exact .inl ⟨h.1,by omega⟩
  ·exact .inr (.inl h)
  ·exact .inl ⟨h.1,by omega⟩
  ·exact .inr (.inr h)
theorem Vj {k l:Nat} {ps qs:List Pt} (h1:SI k ps) (h2:SI l qs) {D:List aC} (hD:D.length≤4096) (d1:∀ d,dB ps d=true→d∈D) (d2:∀ d,dB qs d=true→d∈D) :
  SI D.length (iM ps qs)∧∀ d,dB (iM ps qs) d=true↔dB ps d=true∨dB qs d=true:=by
 have hlen:(iM ps qs).length=16:=by rw [iM,yo,h1.len]
 have at_:∀ {j:Nat},j<16→_:=fun {j} hj=>Uh (h1.at j).1 (h2.at j).1 (Nat.le_trans (VE h1 h2 d1 d2 hj) hD)
 have all:∀ p∈iM ps qs,iZ p∧p.2.length≤D.length:=fun p hp=>by
  obtain ⟨i,hi,rfl⟩:=List.getElem_of_mem hp
  rw [hlen] at hi
  have e:=Bq h1 h2 hi
  rw [mH (by omega)] at e
  rw [e]
  obtain ⟨r1,_,r3⟩:=at_ hi
  exact ⟨r1,Nat.le_trans r3 (VE h1 h2 d1 d2 hi)⟩
 refine ⟨⟨hlen,fun p hp=>(all p hp).1,fun p hp=>(all p hp).2⟩,fun d=>?_⟩
 simp only [dB,Bool.and_eq_true]
 by_cases hg:good d=true
 ·have hd:=qD hg
  have e:=(at_ (j:=d.1.toNat) (by omega)).2.1 d.2
  rw [← Bq h1 h2 (by omega)] at e
  rw [e]
  constructor
  ·rintro ⟨h,h' | h'⟩
   ·exact .inl ⟨h,h'⟩
   ·exact .inr ⟨h,h'⟩
  ·rintro (⟨h,h'⟩ | ⟨h,h'⟩)
   ·exact ⟨h,.inl h'⟩
   ·exact ⟨h,.inr h'⟩
 ·constructor
  ·rintro ⟨h,_⟩; exact absurd h hg
  ·rintro (⟨h,_⟩ | ⟨h,_⟩) <;> exact absurd h hg
def bZ (l:List Ev) : List aC:=l.flatMap fun x=>x.1.1 :: x.2
theorem TJ {k:Nat} {ps:List Pt} {e:l7} {ks:List aC} (h:SI k ps) (hk:k + 65<4096) (hg:dM e ks=true) (d:aC) : dB (wW ps e ks) d=true↔dB ps d=true∨d∈e.1 :: ks:=by
 obtain ⟨g1,g2,g3,_,_⟩:=oD hg
 refine FW h (by simp; omega) fun d hd=>?_
 rcases List.mem_cons.1 hd with rfl | hd
 ·exact g1
 ·exact g3 d hd
structure Z9 (s:jX) : Prop where
 seen:∀ x∈s.2,dB s.1 x.1=true
 one:s.2.Pairwise fun x y=>x.1≠y.1
structure StB (a t:jX) : Prop where
 mq:∀ x∈t.2,dB a.1 x.1=true→x∈a.2
 sets:∀ d,dB a.1 d=true→dB t.1 d=true
theorem Z9.empty:Z9 (jE,[]):=⟨by simp,.nil⟩
theorem VT (d:aC) : dB jE d=false:=by
 rw [dB,Bi]
 cases good d with
 | false=>rfl
 | true =>
   simp only [Bool.true_and]
   unfold il
   simp
   omega
theorem X4 (x:aL) : Dp x x=true:=decide_eq_true ⟨rfl,rfl,rfl⟩
theorem XZ {es:List aL} {x:aL} (h:x∈es) : JR es x=true:=List.any_eq_true.2 ⟨x,h,X4 x⟩
theorem Qs (l:List Ev) : (oG l).length≤l.length:=by
 have:=A7 l l.length
 rwa [List.take_length] at this
end Go.Ab.Crw
set_option maxRecDepth 10000
set_option linter.unusedVariables false
set_option linter.unusedSimpArgs false
namespace Go.Ab.Crw
open Go Go.Ab Go.Ab.aC
theorem Hl:∀ {l:List Ev},(∀ x∈l,dM x.1 x.2=true)→(bZ l).length≤65 * l.length
 | [],_=>by simp [bZ]
 | x :: l,h=>by
   have e:bZ (x :: l)=(x.1.1 :: x.2)++bZ l:=by simp [bZ]
   have:=Hl (l:=l) fun y hy=>h y (by simp [hy])
   obtain ⟨_,g2,_,_,_⟩:=oD (h x (by simp))
   rw [e,List.length_append,List.length_cons,List.length_cons]
   omega
end Go.Ab.Crw
set_option maxRecDepth 10000
set_option linter.unusedVariables false
set_option linter.unusedSimpArgs false
namespace Go.Ab.Crw
open Go Go.Ab Go.Ab.aC
def Live (l:List Ev) (x:aL) : Prop:=∃ e∈l,e.1.2.1=1∧fw e.1=x∧∀ f∈l,e.1.1 ∉ f.2
def yx (l:List Ev) : Prop:=∀ x∈l,∀ y∈l,x.1.1=y.1.1→x=y
structure Ch (l:List Ev) (s:jX) : Prop where
 mq:∀ x,x∈s.2↔Live l x
 sets:∀ d,dB s.1 d=true↔d∈bZ l
 up:nP s.2
 one:s.2.Pairwise fun x y=>x.1≠y.1
 si:∃ k,SI k s.1
theorem kR {l:List Ev} {d:aC} : d∈bZ l↔∃ e∈l,d=e.1.1∨d∈e.2:=by
 unfold bZ
 rw [List.mem_flatMap]
 constructor
 ·rintro ⟨e,he,h⟩
  exact ⟨e,he,List.mem_cons.1 h⟩
 ·rintro ⟨e,he,h⟩
  exact ⟨e,he,List.mem_cons.2 h⟩
theorem Live.mem {l m:List Ev} {x:aL} (h:Live l x) (hm:∀ e,e∈l↔e∈m) : Live m x:=by
 obtain ⟨e,he,h1,h2,h3⟩:=h
 exact ⟨e,(hm e).1 he,h1,h2,fun f hf=>h3 f ((hm f).2 hf)⟩
theorem Ch.mem {l m:List Ev} {s:jX} (h:Ch l s) (hm:∀ e,e∈l↔e∈m) : Ch m s where
 mq x:=(h.mq x).trans ⟨fun h=>h.mem hm,fun h=>h.mem fun e=>(hm e).symm⟩
 sets d:=by
  rw [h.sets,kR,kR]
  exact ⟨fun ⟨e,he,h⟩=>⟨e,(hm e).1 he,h⟩,fun ⟨e,he,h⟩=>⟨e,(hm e).2 he,h⟩⟩
 up:=h.up
 one:=h.one
 si:=h.si
theorem Ch.stU {l:List Ev} {s:jX} (h:Ch l s) : Z9 s:=⟨fun x hx=>by
 obtain ⟨e,he,_,rfl,_⟩:=(h.mq x).1 hx
 exact (h.sets _).2 (kR.2 ⟨e,he,.inl rfl⟩),h.one⟩
theorem _root_.Go.Ab.aC.SI.tight {k:Nat} {ps:List Pt} {D:List aC} (h:SI k ps) (hd:∀ d,dB ps d=true→d∈D) : SI D.length ps:=by
 refine ⟨h.len,h.wf,fun p hp=>?_⟩
 obtain ⟨i,hi,rfl⟩:=List.getElem_of_mem hp
 have hi16:i<16:=by rw [← h.len]; exact hi
 have hw:=(h.wf _ hp).1
 have hn:((ps[i].2).map fun x=>(((i:Int),x) : aC)).Nodup:=by
  rw [List.Nodup,List.pairwise_map]
  exact List.Pairwise.imp (fun {a b} (h:a<b) e=>by cases e; omega) hw
 have:=nG hn (ys:=D) fun d hd'=>by
  obtain ⟨x,hx,rfl⟩:=List.mem_map.1 hd'
  refine hd _ (Gt h hi16 ?_)
  rw [mH hi]
  exact hx
 rwa [List.length_map] at this
theorem Ch.siD {l:List Ev} {s:jX} {D:List aC} (h:Ch l s) (hD:∀ d∈bZ l,d∈D) : SI D.length s.1:=by
 obtain ⟨k,hk⟩:=h.si
 exact hk.tight fun d hd=>hD d ((h.sets d).1 hd)
theorem Ch.len {l m:List Ev} {s:jX} (h:Ch l s) (hm:∀ e∈l,e∈m) : s.2.length≤m.length:=by
 have hn:(s.2.map fun x=>x.1).Nodup:=by
  rw [List.Nodup,List.pairwise_map]
  exact h.one
 have:=nG hn (ys:=m.map fun e=>e.1.1) fun d hd=>by
  obtain ⟨x,hx,rfl⟩:=List.mem_map.1 hd
  obtain ⟨e,he,_,rfl,_⟩:=(h.mq x).1 hx
  exact List.mem_map.2 ⟨e,hm e he,rfl⟩
 rwa [List.length_map,List.length_map] at this
theorem Ur {ps:List Pt} {es:List aL} {e:l7} {ks:List aC} {x:aL} : x∈jW ps es e ks↔x.1 ∉ ks∧(x∈es∨(e.2.1=1∧dB ps e.1=false∧x=fw e)):=by
 unfold jW
 rw [List.mem_filter]
 constructor
 ·rintro ⟨h1,h2⟩
  refine ⟨by simpa using h2, ?_⟩
  split at h1
  ·rename_i hc
   simp only [Bool.and_eq_true,Bool.not_eq_true',decide_eq_true_eq] at hc
   rw [(lG fM _).mem_iff,List.mem_append,List.mem_singleton] at h1
   rcases h1 with h1 | h1
   ·exact .inl h1
   ·exact .inr ⟨hc.1,hc.2,h1⟩
  ·exact .inl h1
 ·rintro ⟨h1,h2⟩
  refine ⟨?_,by simpa using h1⟩
  split
  ·rw [(lG fM _).mem_iff,List.mem_append,List.mem_singleton]
   rcases h2 with h2 | ⟨_,_,h2⟩
   ·exact .inl h2
   ·exact .inr h2
  ·rename_i hc
   rcases h2 with h2 | ⟨h3,h4,_⟩
   ·exact h2
   ·exact absurd (by rw [h3,h4]; rfl) hc
theorem Ch.step {l:List Ev} {s:jX} {x:Ev} {k:Nat} (h:Ch l s) (hk:SI k s.1) (hk2:k + 65<4096) (hg:dM x.1 x.2=true) (hf:∀ e∈l,e.1.1≠x.1.1) : Ch (l++[x]) (qo s x):=by
 have hU:=h.stU
 have e1:qo s x=(wW s.1 x.1 x.2,jW s.1 s.2 x.1 x.2):=by unfold qo; rw [if_pos hg]
 have hm:=TJ hk hk2 hg
 rw [e1]
 refine ⟨fun y=>?_,fun d=>?_,K7 h.up, ?_,⟨_,yl hk⟩⟩
 ·rw [Ur,h.mq]
  constructor
  ·rintro ⟨hy,⟨e,he,h1,rfl,h3⟩ | ⟨h1,h2,rfl⟩⟩
   ·refine ⟨e,by simp [he],h1,rfl,fun f hf'=>?_⟩
    rcases List.mem_append.1 hf' with hf' | hf'
    ·exact h3 f hf'
    ·rw [List.mem_singleton] at hf'
     subst hf'
     exact hy
   ·refine ⟨x,by simp,h1,rfl,fun f hf'=>?_⟩
    rcases List.mem_append.1 hf' with hf' | hf'
    ·intro hk'
     rw [(h.sets x.1.1).2 (kR.2 ⟨f,hf',.inr hk'⟩)] at h2
     cases h2
    ·rw [List.mem_singleton] at hf'
     subst hf'
     exact hy
  ·rintro ⟨e,he,h1,rfl,h3⟩
   refine ⟨h3 x (by simp), ?_⟩
   rcases List.mem_append.1 he with he | he
   ·exact .inl ⟨e,he,h1,rfl,fun f hf'=>h3 f (by simp [hf'])⟩
   ·rw [List.mem_singleton] at he
    subst he
    refine .inr ⟨h1, ?_,rfl⟩
    cases hs:dB s.1 e.1.1 with
    | false=>rfl
    | true =>
      obtain ⟨f,hf',hd⟩:=kR.1 ((h.sets _).1 hs)
      rcases hd with hd | hd
      ·exact absurd hd.symm (hf f hf')
      ·exact absurd hd (h3 f (by simp [hf']))
 ·show dB (wW s.1 x.1 x.2) d=true↔_
  rw [hm,h.sets]
  have:bZ (l++[x])=bZ l++(x.1.1 :: x.2):=by simp [bZ]
  rw [this,List.mem_append]
 ·show (jW s.1 s.2 x.1 x.2).Pairwise _
  unfold jW
  refine List.Pairwise.filter _ ?_
  split
  ·rename_i hc
   simp only [Bool.and_eq_true,Bool.not_eq_true',decide_eq_true_eq] at hc
   refine (lG fM _).symm.pairwise ?_ (fun {a b} hab e=>hab e.symm)
   rw [List.pairwise_append]
   refine ⟨h.one,by simp,fun a ha b hb e=>?_⟩
   simp only [List.mem_singleton] at hb
   subst hb
   have:=hU.seen a ha
   rw [e,show (fw x.1).1=x.1.1 from rfl,hc.2] at this
   cases this
  ·exact h.one
theorem Ch.empty:Ch [] (jE,[]):=⟨fun x=>by simp [Live],fun d=>by rw [VT]; simp [bZ],.nil,.nil,⟨0,wP⟩⟩
theorem Ch.run {l:List Ev} (hg:∀ x∈l,dM x.1 x.2=true) (hd:l.Pairwise fun x y=>x.1.1≠y.1.1) (hl:l.length≤60) : Ch l (ko l):=by
 suffices h:∀ n,n≤l.length→Ch (l.take n) (ko (l.take n)) by
  have:=h l.length (Nat.le_refl _)
  rwa [List.take_length] at this
 intro n
 induction n with
 | zero=>intro _; exact Ch.empty
 | succ n ih =>
   intro hn
   have h0:=ih (by omega)
   have e:l.take (n + 1)=l.take n++[l[n]]:=List.take_succ_eq_append_getElem (by omega)
   rw [e,Le]
   have hI:=VX (l.take n)
   rw [List.length_take,Nat.min_eq_left (by omega)] at hI
   refine h0.step hI.si (by omega) (hg _ (List.getElem_mem _)) fun y hy=>?_
   obtain ⟨i,hi,rfl⟩:=List.getElem_of_mem hy
   rw [List.length_take] at hi
   rw [List.getElem_take]
   exact (List.pairwise_iff_getElem.1 hd) i n (by omega) (by omega) (by omega)
theorem NZ:∀ {a b:List aL},nP a→nP b→(a.Pairwise fun x y=>x.1≠y.1)→(b.Pairwise fun x y=>x.1≠y.1)→(∀ x,x∈a↔x∈b)→a=b:=by
 intro a b ha hb oa ob hm
 have strict:∀ {c:List aL},nP c→(c.Pairwise fun x y=>x.1≠y.1)→c.Pairwise fun x y=>fo x y=true:=fun {c} hu ho=>by
  refine List.Pairwise.imp (fun {x y} h=>?_) (List.Pairwise.and hu ho)
  cases hxy:fo x y with
  | true=>rfl
  | false=>exact absurd (of_decide_eq_true (Rv hxy h.1)).2.2 h.2
 have sa:=strict ha oa
 have sb:=strict hb ob
 clear ha hb oa ob
 induction a generalizing b with
 | nil =>
   cases b with
   | nil=>rfl
   | cons y b=>exact absurd ((hm y).2 (by simp)) (by simp)
 | cons x a ih =>
   cases b with
   | nil=>exact absurd ((hm x).1 (by simp)) (by simp)
   | cons y b =>
     rw [List.pairwise_cons] at sa sb
     have hxy:x=y:=by
      rcases List.mem_cons.1 ((hm x).1 (by simp)) with h | h
      ·exact h
      ·rcases List.mem_cons.1 ((hm y).2 (by simp)) with h' | h'
       ·exact h'.symm
       ·have h1:=sb.1 x h
        have h2:=sa.1 y h'
        have:=fM.trans _ _ _ h1 h2
        rw [fM.irrefl] at this
        cases this
     subst hxy
     rw [ih (fun z=>?_) sa.2 sb.2]
     constructor
     ·intro hz
      rcases List.mem_cons.1 ((hm z).1 (by simp [hz])) with h | h
      ·subst h
       have:=sa.1 z hz
       rw [fM.irrefl] at this
       cases this
      ·exact h
     ·intro hz
      rcases List.mem_cons.1 ((hm z).2 (by simp [hz])) with h | h
      ·subst h
       have:=sb.1 z hz
       rw [fM.irrefl] at this
       cases this
      ·exact h
theorem Ch.eq {l:List Ev} {s t:jX} (h:Ch l s) (g:Ch l t) : s.2=t.2∧iL s.1 t.1=true∧iL t.1 s.1=true:=by
 obtain ⟨k,hk⟩:=h.si
 obtain ⟨m,hm⟩:=g.si
 refine ⟨NZ h.up g.up h.one g.one fun x=>by rw [h.mq,g.mq], ?_, ?_⟩
 ·exact (uy hk.wf hm.wf).2 fun d hd=>(g.sets d).2 ((h.sets d).1 hd)
 ·exact (uy hm.wf hk.wf).2 fun d hd=>(h.sets d).2 ((g.sets d).1 hd)
theorem UC {ps qs:List Pt} {es fs:List aL} {x:aL} : x∈ny ps qs es fs↔(x∈es∧nQ qs fs x=true)∨(x∈fs∧nC ps es x=true):=by
 unfold ny
 rw [(lG fM _).mem_iff,List.mem_append,List.mem_filter,List.mem_filter]
theorem MM {es:List aL} {x:aL} : JR es x=true→∃ y∈es,y.1=x.1:=fun h=>by
 obtain ⟨y,hy,hk⟩:=List.any_eq_true.1 h
 exact ⟨y,hy,(of_decide_eq_true hk).2.2⟩
theorem Ch.join {l m:List Ev} {s t:jX} {D:List aC} (h:Ch l s) (g:Ch m t) (hc:yx (l++m)) (hD:D.length≤4096) (d1:∀ d∈bZ l,d∈D) (d2:∀ d∈bZ m,d∈D) : Ch (l++m) (iM s.1 t.1,ny s.1 t.1 s.2 t.2):=by
 obtain ⟨k,hk⟩:=h.si
 obtain ⟨k',hk'⟩:=g.si
 obtain ⟨jI,jH⟩:=Vj hk hk' hD (fun d hd=>d1 d ((h.sets d).1 hd)) (fun d hd=>d2 d ((g.sets d).1 hd))
 have hdl:bZ (l++m)=bZ l++bZ m:=by simp [bZ]
 have same:∀ {e:Ev},e∈l→∀ {f:Ev},f∈m→e.1.1=f.1.1→e=f:=fun he _ hf hd=>hc _ (by simp [he]) _ (by simp [hf]) hd
 refine ⟨fun x=>?_,fun d=>?_,Pg fM _, ?_,⟨_,jI⟩⟩
 ·rw [UC,h.mq,g.mq]
  constructor
  ·rintro (⟨⟨e,he,h1,rfl,h3⟩,hA⟩ | ⟨⟨e,he,h1,rfl,h3⟩,hB⟩)
   ·refine ⟨e,by simp [he],h1,rfl,fun f hf=>?_⟩
    rcases List.mem_append.1 hf with hf | hf
    ·exact h3 f hf
    ·intro hkill
     unfold nQ at hA
     rw [Bool.or_eq_true] at hA
     rcases hA with hA | hA
     ·obtain ⟨y,hy,hyd⟩:=MM hA
      obtain ⟨e',he',_,rfl,h3'⟩:=(g.mq y).1 hy
      exact h3' f hf (by rw [show e'.1.1=e.1.1 from hyd]; exact hkill)
     ·rw [show dB t.1 (fw e.1).1=true from (g.sets _).2 (kR.2 ⟨f,hf,.inr hkill⟩)] at hA
      cases hA
   ·refine ⟨e,by simp [he],h1,rfl,fun f hf=>?_⟩
    rcases List.mem_append.1 hf with hf | hf
    ·intro hkill
     unfold nC at hB
     rw [Bool.and_eq_true] at hB
     rw [show dB s.1 (fw e.1).1=true from (h.sets _).2 (kR.2 ⟨f,hf,.inr hkill⟩)] at hB
     cases hB.2
    ·exact h3 f hf
  ·rintro ⟨e,he,h1,rfl,h3⟩
   have lv:e∈l→(fw e.1∈s.2∧nQ t.1 t.2 (fw e.1)=true):=fun he'=>by
    refine ⟨(h.mq _).2 ⟨e,he',h1,rfl,fun f hf=>h3 f (by simp [hf])⟩, ?_⟩
    unfold nQ
    cases hs:dB t.1 (fw e.1).1 with
    | false=>simp
    | true =>
      obtain ⟨f,hf,hd⟩:=kR.1 ((g.sets _).1 hs)
      rcases hd with hd | hd
      ·have:=same he' hf hd
       subst this
       rw [XZ ((g.mq _).2 ⟨e,hf,h1,rfl,fun f hf=>h3 f (by simp [hf])⟩)]
       rfl
      ·exact absurd hd (h3 f (by simp [hf]))
   by_cases hel:e∈l
   ·exact .inl ⟨(h.mq _).1 (lv hel).1,(lv hel).2⟩
   ·have hem:e∈m:=by
     rcases List.mem_append.1 he with h | h
     ·exact absurd h hel
     ·exact h
    refine .inr ⟨⟨e,hem,h1,rfl,fun f hf=>h3 f (by simp [hf])⟩, ?_⟩
    have hs:dB s.1 (fw e.1).1=false:=by
     cases hs:dB s.1 (fw e.1).1 with
     | false=>rfl
     | true =>
       obtain ⟨f,hf,hd⟩:=kR.1 ((h.sets _).1 hs)
       rcases hd with hd | hd
       ·exact absurd (same hf hem hd.symm▸hf) hel
       ·exact absurd hd (h3 f (by simp [hf]))
    unfold nC
    rw [hs]
    cases hk2:JR s.2 (fw e.1) with
    | false=>rfl
    | true =>
      obtain ⟨y,hy,hyd⟩:=MM hk2
      have:=h.stU.seen y hy
      rw [hyd,hs] at this
      cases this
 ·rw [jH,h.sets,g.sets,hdl,List.mem_append]
 ·refine (lG fM _).symm.pairwise ?_ (fun {a b} hab e=>hab e.symm)
  rw [List.pairwise_append]
  refine ⟨h.one.filter _,g.one.filter _,fun a ha b hb e=>?_⟩
  obtain ⟨hb1,hb2⟩:=List.mem_filter.1 hb
  unfold nC at hb2
  rw [Bool.and_eq_true] at hb2
  have:=h.stU.seen a (List.mem_filter.1 ha).1
  rw [e] at this
  rw [this] at hb2
  cases hb2.2
theorem MQ (l:List Ev) : (oG l).Pairwise fun x y=>x.1.1≠y.1.1:=by
 suffices h:∀ (l out:List Ev),(out.Pairwise fun x y=>x.1.1≠y.1.1)→(l.foldl iW out).Pairwise fun x y=>x.1.1≠y.1.1 from h l [] .nil
 intro l
 induction l with
 | nil=>intro out h; exact h
 | cons x l ih =>
   intro out h
   refine ih _ ?_
   unfold iW
   split
   ·rename_i hc
    simp only [Bool.not_eq_true',Bool.or_eq_false_iff,Bool.not_eq_false'] at hc
    rw [List.pairwise_append]
    refine ⟨h,by simp,fun a ha b hb e=>?_⟩
    simp only [List.mem_singleton] at hb
    subst hb
    have:=List.any_eq_false.1 hc.2 a ha
    exact this (decide_eq_true e)
   ·exact h
theorem FV {l:List Ev} (h:l.Pairwise fun x y=>x.1.1≠y.1.1) : yx l:=fun x hx y hy e=>by
 obtain ⟨i,hi,rfl⟩:=List.getElem_of_mem hx
 obtain ⟨j,hj,rfl⟩:=List.getElem_of_mem hy
 have hp:=List.pairwise_iff_getElem.1 h
 rcases Nat.lt_trichotomy i j with h | h | h
 ·exact absurd e (hp i j hi hj h)
 ·subst h; rfl
 ·exact absurd e.symm (hp j i hj hi h)
theorem yx.sub {l m:List Ev} (h:yx m) (hs:∀ e∈l,e∈m) : yx l:=fun x hx y hy e=>h x (hs x hx) y (hs y hy) e
end Go.Ab.Crw
set_option maxRecDepth 10000
set_option linter.unusedVariables false
set_option linter.unusedSimpArgs false
namespace Go.Ab.Crw
open Go Go.Ab Go.Ab.aC
theorem ZF {M:RM} {c q r:Bool} {f0:ai→Prop} {f:RM→ai→Prop} {G:AV→RM→Prop} (hf0:c=true→∀ k:ai,k (Bo q) M→f0 k) (hf:c=true→q=false→∀ k:ai,k (Bo r) M→f M k) (hG:G (Bo (c && (q || r))) M) :
  au (Bo c) true f0 (fun k=>k .undef M) fun t45 M1=>au t45 false (f M1) (fun k=>k .undef M1) fun t54 M2=>au (Bo c) true (fun k3=>aP t45 (Bo true) t54 fun t55=>k3 t55 M2) (fun k=>k .undef M2) fun t55 M3=>aP (Bo c) t55 (Bo false) fun t56=>G t56 M3:=by
 cases c with
 | false=>rw [bV]; dsimp only; rw [ui]; dsimp only; rw [bV]; dsimp only; rw [bU]; exact hG
 | true =>
   rw [bS]
   refine hf0 rfl _ ?_
   cases q with
   | true=>rw [iY]; dsimp only; rw [bS]; dsimp only; rw [dF,dF]; exact hG
   | false =>
     rw [dC]
     refine hf rfl rfl _ ?_
     rw [bS]; dsimp only; rw [bU,dF]; exact hG
theorem Rc {M:RM} {v:AV} {xs:List aL} (h:Sl ay M v xs) {i:Nat} (hi:i<xs.length) {kd:IntKind} {j:Nat} {x:AV} (hx:(ay.cells xs[i])[j]?=some x) {K:AV→Prop} : (ax v (N kd (i:Int)) 5 fun p=>aD p j fun q=>aj M q K)=K x:=by
 obtain ⟨b,o,_,_,hidx,hld⟩:=Sl.at (E:=ay) (i:=i) h 5 (i:Int) hi rfl rfl
 rw [hidx,aG,fu]
 rw [ja hld hx]
 simp
def HY (TS T TN:Nat) (c:av) : Prop:=∀ {M:RM} {t:Nat} {B:Nat→Prop} {ps:List Pt} {es:List aL} {s:List UInt8} {Q:ai},kI TS T B M t ps es→es.length≤50000→(∀ v M',Ow ay M' M.next TN v (es.filter fun x=>x.2.1 == s)→ah [] M M'→Q v M')→c [.ptr t 0,St s] M Q
theorem NL {TS T TN:Nat} : HY TS T TN fun args M Q=>∃ a0 a1,args=[a0,a1]∧rP TN a0 a1 M Q:=by
 intro M t B ps es s Q hst hlen hQ
 refine ⟨_,_,rfl, ?_⟩
 unfold rP
 simp only [gM,fF,dY,fH,cZ]
 obtain ⟨s0,v,r1,_,r3,_,_⟩:=hst.row
 rw [aK,aG,ak (i:=0 + 1) r1 rfl,aM.len r3]
 refine aJ (fun z ys M3=>∃ (i:Nat) (dv:AV),z=es.length - i∧ys=[dv,N .i64 (i:Int)]∧i≤es.length∧ah [] M M3∧Ow ay M3 M.next TN dv ((es.take i).filter fun x=>x.2.1 == s)) _
  ⟨0,eG,rfl,rfl,Nat.zero_le _,ah.refl _ _,.nil⟩ ?_
 rintro next z ys M3 hnext ⟨i,dv,rfl,rfl,hil,k3,o3⟩
 dsimp only [aa]
 rw [dX]
 refine aI (fun hlt=>?_) (fun hge=>?_)
 ·have hlt:i<es.length:=of_decide_eq_true hlt
  have n3:=k3.next
  have hfl:=vO (fun x:aL=>x.2.1 == s) es i
  refine bn (fun zs M'=>∃ dv',zs=[dv']∧ah [] M M'∧Ow ay M' M.next TN dv' ((es.take (i + 1)).filter fun x=>x.2.1 == s)) ?_ ?_
  ·rintro zs M' ⟨dv',rfl,k',o'⟩
   dsimp only [aa]
   rw [add1 (by omega)]
   exact hnext _ _ _ (by omega) ⟨i + 1,dv',rfl,rfl,by omega,k',o'⟩
  intro J hJ
  rw [uF hlt] at hJ
  rw [lJ (aM.keep r3 k3 (by simp)) hlt]
  generalize ((es.take i).filter fun x=>x.2.1 == s)=acc at *
  generalize es[i]=x at *
  rw [aX,gI (n:=5) (x:=.agg (ay.cells x)) (l:=[(N .i64 0),(N .u64 0),(St []),(St []),(St [])]) (RM.aR _) rfl rfl (mD x)]
  have k4:ah [] M3 ((M3.push (.row [(N .i64 0),(N .u64 0),(St []),(St []),(St [])] false TN 0)).put M3.next (.row (AV.agg (ay.cells x)).cells false TN 0)):=((ah.refl _ _).push _).new _ (Nat.le_refl _)
  have h4:((M3.push (.row [(N .i64 0),(N .u64 0),(St []),(St []),(St [])] false TN 0)).put M3.next (.row (AV.agg (ay.cells x)).cells false TN 0)).heap M3.next=some (.row (ay.cells x) false TN 0):=aZ _
  generalize (M3.push (.row [(N .i64 0),(N .u64 0),(St []),(St []),(St [])] false TN 0)).put M3.next (.row (AV.agg (ay.cells x)).cells false TN 0)=M4 at *
  generalize M3.next=b at *
  rw [aG,ak (i:=0 + 2) (x:=St x.2.1) h4 rfl,qG]
  have k04:=k3.trans k4
  have o4:=o3.keep k4 (by simp)
  refine aI (fun hc=>?_) (fun hc=>?_)
  ·rw [dG (n:=5) h4 rfl,je (x:=.agg (ay.cells x)) (size:=5) rfl (mD x) rfl,aX]
   refine tF (E:=ay) (a:=x) o4 (by have:=k04.next; omega) (by decide) (by omega) (by omega) fun v2 M7 o7 k7 n7 _=>?_
   refine hJ _ _ ⟨v2,rfl,k04.bi k7 (fun d hd=>.inl (o4.blk d hd).1), ?_⟩
   rw [hc,if_pos rfl]
   exact o7
  ·refine hJ _ _ ⟨dv,rfl,k04, ?_⟩
   rw [hc,if_neg (by decide),List.append_nil]
   exact o4
 ·have he:i=es.length:=by
   have:¬ i<es.length:=of_decide_eq_false hge
   omega
  subst he
  rw [List.take_length] at o3
  exact hQ dv M3 o3 k3
def Z7 (s:List UInt8) (x:aL) : Bool:=(s != []) && (x.2.2.1 != s)
def setOf (d:aC) (c f a:List UInt8) : l7:=(d,(1,(c,(f,a))))
def KE (es:List aL) (c f:List UInt8) : List aL:=(es.filter fun x=>x.2.1 == c).filter fun x=>!Z7 f x
def tX (es:List aL) (c f:List UInt8) : List aC:=Yr ltD ((KE es c f).map fun x=>x.1)
def uQ (c f:List UInt8) (x:aL) : Bool:=(x.2.1 == c) && ((f == []) || (x.2.2.1 == f))
def N7 (TN:Nat) (c:av) : Prop:=∀ {M:RM} {v:AV} {es:List aL} {s f:List UInt8} {Q:ai},Sl ay M v es→es.length≤50000→(∀ v' M',Ow ay M' M.next TN v' (es.filter (uQ s f))→ah [] M M'→Q v' M')→c [v,St s,St f] M Q
theorem TH {TN:Nat} : N7 TN fun args M Q=>∃ a0 a1 a2,args=[a0,a1,a2]∧XB TN a0 a1 a2 M Q:=by
 intro M v es s f Q hv hlen hQ
 refine ⟨_,_,_,rfl, ?_⟩
 unfold XB
 simp only [gM,fF,dY,fH,cZ]
 refine ⟨_,_,_,_,rfl,rfl,by decide,by decide,by decide,by decide, ?_⟩
 dsimp only
 rw [aX]
 have k0:ah [] M (M.push (.row (bM [(N .i64 0),(N .u64 0),(St []),(St []),(St [])] 0) false TN 0)):=(ah.refl _ _).push _
 refine aJ (fun z ys M3=>∃ (i:Nat) (dv:AV),z=es.length - i∧ys=[dv,N .i64 (i:Int)]∧i≤es.length∧ah [] M M3∧Ow ay M3 M.next TN dv ((es.take i).filter (uQ s f))) _
  ⟨0,_,rfl,rfl,Nat.zero_le _,k0,Own.lit M (Nat.le_refl _)⟩ ?_
 rintro next z ys M3 hnext ⟨i,dv,rfl,rfl,hil,k3,o3⟩
 dsimp only [aa]
 have hv3:Sl ay M3 v es:=aM.keep hv k3 (by simp)
 rw [aM.len hv3,dX]
 refine aI (fun hlt=>?_) (fun hge=>?_)
 ·have hlt:i<es.length:=of_decide_eq_true hlt
  have n3:=k3.next
  have hfl:=vO (uQ s f) es i
  refine bn (fun zs M'=>∃ dv',zs=[dv']∧ah [] M M'∧Ow ay M' M.next TN dv' ((es.take (i + 1)).filter (uQ s f))) ?_ ?_
  ·rintro zs M' ⟨dv',rfl,k',o'⟩
   dsimp only [aa]
   rw [add1 (by omega)]
   exact hnext _ _ _ (by omega) ⟨i + 1,dv',rfl,rfl,by omega,k',o'⟩
  intro J hJ
  rw [uF hlt] at hJ
  rw [Rc hv3 hlt (j:=2) (x:=St es[i].2.1) rfl,qG]
  refine ZF (q:=f == []) (r:=es[i].2.2.1 == f) (fun _ k hk=>?_) (fun _ _ k hk=>?_) ?_
  ·rw [qG]; exact hk
  ·rw [Rc hv3 hlt (j:=3) (x:=St es[i].2.2.1) rfl,qG]; exact hk
  refine aI (fun hc=>?_) (fun hc=>?_)
  ·rw [lJ hv3 hlt,je (x:=.agg (ay.cells es[i])) (size:=5) rfl (mD _) rfl,aX]
   refine tF (E:=ay) (a:=es[i]) o3 (by have:=k3.next; omega) (by decide) (by omega) (by omega) fun v2 M7 o7 k7 n7 _=>?_
   refine hJ _ _ ⟨v2,rfl,k3.bi k7 (fun d hd=>.inl (o3.blk d hd).1), ?_⟩
   rw [show uQ s f es[i]=true from hc,if_pos rfl]
   exact o7
  ·refine hJ _ _ ⟨dv,rfl,k3, ?_⟩
   rw [show uQ s f es[i]=false from hc,if_neg (by decide),List.append_nil]
   exact o3
 ·have he:i=es.length:=by
   have:¬ i<es.length:=of_decide_eq_false hge
   omega
  subst he
  rw [List.take_length] at o3
  exact hQ dv M3 o3 k3
end Go.Ab.Crw
set_option maxRecDepth 10000
set_option linter.unusedVariables false
set_option linter.unusedSimpArgs false
namespace Go.Ab.Crw
open Go Go.Ab Go.Ab.aC
theorem FI {es:List aL} {c f:List UInt8} (hf:f≠[]) {x:aL} : x∈KE es c f↔x∈es∧x.2.1=c∧x.2.2.1=f:=by
 unfold KE Z7
 rw [List.mem_filter,List.mem_filter]
 have h1:(f != [])=true:=by simpa using hf
 rw [h1,Bool.true_and]
 constructor
 ·rintro ⟨⟨h,h2⟩,h3⟩
  exact ⟨h,by simpa using h2,by simpa using h3⟩
 ·rintro ⟨h,h2,h3⟩
  exact ⟨⟨h,by simpa using h2⟩,by simpa using h3⟩
theorem FD {es:List aL} {c f:List UInt8} (hf:f≠[]) {d:aC} : d∈tX es c f↔∃ x∈es,x.2.1=c∧x.2.2.1=f∧x.1=d:=by
 unfold tX
 rw [(Tx Y9 _).mem_iff,List.mem_map]
 constructor
 ·rintro ⟨x,hx,rfl⟩
  obtain ⟨h1,h2,h3⟩:=(FI hf).1 hx
  exact ⟨x,h1,h2,h3,rfl⟩
 ·rintro ⟨x,h1,h2,h3,rfl⟩
  exact ⟨x,(FI hf).2 ⟨h1,h2,h3⟩,rfl⟩
theorem YR {w:List Ev} {s:jX} (h:Ch w s) {x:aL} (hx:x∈s.2) : ∃ e∈w,e.1.1=x.1:=by
 obtain ⟨e,he,_,rfl,_⟩:=(h.mq x).1 hx
 exact ⟨e,he,rfl⟩
structure Apart (w:List Ev) (s:jX) (c f a b cc:List UInt8) : Prop where
 ch:Ch w s
 good:∀ e∈w,dM e.1 e.2=true
 one:w.Pairwise fun x y=>x.1.1≠y.1.1
 len:w.length≤30
 dev:∀ e∈w,e.1.1.1<12∧∀ k∈e.2,k.1<12
 hf:f≠[]
 gx:dM (setOf (12,1) c f a) (tX s.2 c f)=true
 gy:dM (setOf (13,1) c f b) (tX s.2 c f)=true
 hc:cc.length≤512
section
variable {w:List Ev} {s:jX} {c f a b cc:List UInt8}
def Yh (s:jX) (c f a:List UInt8) : Ev:=(setOf (12,1) c f a,tX s.2 c f)
def ZC (s:jX) (c f b:List UInt8) : Ev:=(setOf (13,1) c f b,tX s.2 c f)
theorem Gm {l m:List Ev} (h:∀ e∈l,e∈m) : ∀ d∈bZ l,d∈bZ m:=fun d hd=>by
 obtain ⟨e,he,h'⟩:=kR.1 hd
 exact kR.2 ⟨e,h e he,h'⟩
theorem Apart.abT (h:Apart w s c f a b cc) : ∀ d∈tX s.2 c f,d.1<12:=fun d hd=>by
 obtain ⟨x,hx,_,_,rfl⟩:=(FD h.hf).1 hd
 obtain ⟨e,he,hd⟩:=YR h.ch hx
 rw [← hd]
 exact (h.dev e he).1
theorem Apart.two (h:Apart w s c f a b cc) {l:List Ev} (hm:∀ e,e∈l↔e∈w∨e=Yh s c f a∨e=ZC s c f b) (t:aL) : (Live l t∧t.2.1=c∧t.2.2.1=f)↔t=fw (Yh s c f a).1∨t=fw (ZC s c f b).1:=by
 have hk:=h.abT
 have nk:∀ e,e∈l→∀ n:Int,12≤n→((n,1) : aC) ∉ e.2:=fun e he n hn hd=>by
  rcases (hm e).1 he with he | rfl | rfl
  ·have:=(h.dev e he).2 _ hd
   simp at this; omega
  ·have:=hk _ hd
   simp at this; omega
  ·have:=hk _ hd
   simp at this; omega
 constructor
 ·rintro ⟨⟨e,he,h1,rfl,h3⟩,h4,h5⟩
  rcases (hm e).1 he with he' | rfl | rfl
  ·have hmem:fw e.1∈s.2:=(h.ch.mq _).2 ⟨e,he',h1,rfl,fun g hg=>h3 g ((hm g).2 (.inl hg))⟩
   exact absurd ((FD h.hf).2 ⟨_,hmem,h4,h5,rfl⟩) (h3 (Yh s c f a) ((hm _).2 (.inr (.inl rfl))))
  ·exact .inl rfl
  ·exact .inr rfl
 ·rintro (rfl | rfl)
  ·exact ⟨⟨Yh s c f a,(hm _).2 (.inr (.inl rfl)),rfl,rfl,fun g hg=>nk g hg 12 (by decide)⟩,rfl,rfl⟩
  ·exact ⟨⟨ZC s c f b,(hm _).2 (.inr (.inr rfl)),rfl,rfl,fun g hg=>nk g hg 13 (by decide)⟩,rfl,rfl⟩
end
end Go.Ab.Crw
set_option maxRecDepth 10000
set_option linter.unusedVariables false
set_option linter.unusedSimpArgs false
namespace Go.Ab.Crw
open Go Go.Ab Go.Ab.aC
structure SH (TS T:Nat) (M:RM) (t:Nat) (B:Nat→Prop) (s:jX) : Prop where
 st:kI TS T B M t s.1 s.2
 lo:∀ d,B d→d<M.next
def Off (t:Nat) (B:Nat→Prop) (x:Nat) : Prop:=x≠t∧¬ B x
def Sep (t:Nat) (B:Nat→Prop) (u:Nat) (C:Nat→Prop) : Prop:=Off t B u∧Off u C t∧∀ d,B d→¬ C d
theorem Sep.symm {t u:Nat} {B C:Nat→Prop} (h:Sep t B u C) : Sep u C t B:=⟨h.2.1,h.1,fun d hd hb=>h.2.2 d hb hd⟩
theorem SH.of {TS T t:Nat} {M:RM} {B:Nat→Prop} {ps:List Pt} {es:List aL} (h:kI TS T B M t ps es) : SH TS T M t (fun d=>B d∧d<M.next) (ps,es):=⟨h.below,fun d hd=>hd.2⟩
theorem Off.grow {t x n:Nat} {B B' : Nat→Prop} (h:Off t B x) (hx:x<n) (hB:∀ d,B' d→B d∨n≤d) : Off t B' x:=⟨h.1,fun hb=>by
 rcases hB x hb with h' | h'
 ·exact h.2 h'
 ·omega⟩
theorem Sep.grow {t u n:Nat} {B B' C:Nat→Prop} (h:Sep t B u C) (hu:u<n) (hC:∀ d,C d→d<n) (hB:∀ d,B' d→B d∨n≤d) : Sep t B' u C :=
 ⟨h.1.grow hu hB,h.2.1,fun d hd hc=>by
  rcases hB d hd with h' | h'
  ·exact h.2.2 d h' hc
  ·have:=hC d hc; omega⟩
theorem SH.keep {TS T t u r:Nat} {M M' : RM} {B C:Nat→Prop} {s:jX} (h:SH TS T M u C s) (k:ah [t,r] M M') (hs:Sep t B u C) (hr:r=t∨B r) : SH TS T M' u C s:=by
 refine ⟨h.st.keep k ?_ ?_,fun d hd=>Nat.lt_of_lt_of_le (h.lo d hd) k.next⟩
 ·intro hm
  simp only [List.mem_cons,List.not_mem_nil,or_false] at hm
  rcases hm with e | e
  ·exact hs.1.1 e
  ·rcases hr with hr | hr
   ·exact hs.1.1 (e.trans hr)
   ·exact hs.1.2 (e▸hr)
 ·intro d hd hc
  simp only [List.mem_cons,List.not_mem_nil,or_false] at hd
  rcases hd with rfl | rfl
  ·exact hs.2.1.2 hc
  ·rcases hr with hr | hr
   ·exact hs.2.1.2 (hr▸hc)
   ·exact hs.2.2 _ hr hc
theorem SH.ma {TS T u:Nat} {M M' : RM} {C:Nat→Prop} {s:jX} (h:SH TS T M u C s) (k:ah [] M M') : SH TS T M' u C s:=⟨h.st.keep k (by simp) (by simp),fun d hd=>Nat.lt_of_lt_of_le (h.lo d hd) k.next⟩
structure acZ (TE:Nat) (M:RM) (b:Nat) (e:l7) (kv:AV) (ks:List aC) : Prop where
 lt:b<M.next
 row:M.heap b=some (.row (eU e kv) false TE 0)
 kills:Sl dz M kv ks
section
variable {TS T:Nat}
theorem aaq {c:av} (hj:wu TS T c) {M:RM} {t u k l:Nat} {B C:Nat→Prop} {s r:jX} {Q:ai} (h:SH TS T M t B s) (g:SH TS T M u C r) (hs:Sep t B u C) (hk:SI k s.1) (hl:SI l r.1) (hk4:k≤4096) (hl4:l≤4096) (hlen:s.2.length + r.2.length≤50000) (hu:nP s.2) (gu:nP r.2)
  (hQ:∀ v M' B' x,B x→SH TS T M' t B' (iM s.1 r.1,ny s.1 r.1 s.2 r.2)→(∀ d,B' d→B d∨M.next≤d)→ah [t,x] M M'→Q v M') : c [.ptr t 0,.ptr u 0] M Q :=
 hj h.st g.st (fun e=>absurd e.symm hs.1.1) (fun _=>hs.2.2) hs.2.1.2 hs.1.2 hk hl hk4 hl4 hlen hu gu fun x M' hx st' k' =>
  hQ _ M' (fun d=>(B d∨M.next≤d)∧d<M'.next) x hx (SH.of st') (fun d hd=>hd.1) k'
end
theorem kF {M:RM} {v:AV} {l:List Ev} {S:Nat→Prop} (h:fT kW M v l S) {i:Nat} (hi:i<l.length) :
  ∃ b o kv,(∀ (kd:IntKind) (K:AV→Prop),ax v (N kd (i:Int)) 7 K=K (.ptr b o))∧M.loads b o 7=some (eU l[i].1 kv)∧Sl dz M kv l[i].2:=by
 obtain ⟨b,o,cs,_,_,hidx,hld,ds,hcs,kv,hds,hkv⟩:=h.at (i:=i) 7 (i:Int) hi rfl rfl
 subst hds
 subst hcs
 exact ⟨b,o,kv,hidx,hld,fT.sl hkv⟩
theorem mO {M:RM} {b o k j:Nat} {cs:List AV} {x:AV} (h:M.loads b o k=some cs) (hj:cs[j]?=some x) {K:AV→Prop} (hK:K x) : aj M (.ptr b (o + j)) K:=by
 rw [fu]
 exact ⟨x,ja h hj,hK⟩
end Go.Ab.Crw
set_option maxRecDepth 10000
set_option linter.unusedVariables false
set_option linter.unusedSimpArgs false
namespace Go.Ab.Crw
open Go Go.Ab Go.Ab.aC
end Go.Ab.Crw
set_option maxRecDepth 10000
set_option linter.unusedVariables false
set_option linter.unusedSimpArgs false
namespace Go.Ab.Crw
open Go Go.Ab Go.Ab.aC
def JZ (c:av) : Prop:=∀ {M:RM} {x y:aL} {Q:ai},(∀ M',ah [] M M'→Q (Bo (fo x y)) M')→c [.agg (ay.cells x),.agg (ay.cells y)] M Q
theorem aaJ {x y:aL} (h:x.2.1≠y.2.1) : fo x y=decide (x.2.1<y.2.1):=by
 rw [fo,lex]; simp [h]
theorem aaS {x y:aL} (h:x.2.1=y.2.1) (h2:x.2.2.1≠y.2.2.1) : fo x y=decide (x.2.2.1<y.2.2.1):=by
 rw [fo,lex,lex]; simp [h,h2,List.lt_irrefl]
theorem aaK {x y:aL} (h:x.2.1=y.2.1) (h2:x.2.2.1=y.2.2.1) : fo x y=uB x.1 y.1:=by
 rw [fo,lex,lex]; simp [h,h2,List.lt_irrefl,uB,lex]
theorem Qk {TN:Nat} {cl:av} (hl:wZ cl) : JZ fun args M Q=>∃ a0 a1,args=[a0,a1]∧GQ TN cl a0 a1 M Q:=by
 intro M x y Q hQ
 refine ⟨_,_,rfl, ?_⟩
 unfold GQ
 rw [dH rfl (by rw [ay.len]; decide),aX,dH rfl (by rw [ay.len]; decide),aX]
 have k0:ah [] M ((M.push (.row (ay.cells x) false TN 0)).push (.row (ay.cells y) false TN 0)):=((ah.refl _ _).push _).push _
 have hx:((M.push (.row (ay.cells x) false TN 0)).push (.row (ay.cells y) false TN 0)).heap M.next=some (.row (ay.cells x) false TN 0):=kU (RM.aR _) (by simp [RM.push])
 have hy:((M.push (.row (ay.cells x) false TN 0)).push (.row (ay.cells y) false TN 0)).heap (M.push (.row (ay.cells x) false TN 0)).next=some (.row (ay.cells y) false TN 0):=RM.aR _
 generalize (M.push (.row (ay.cells x) false TN 0)).push (.row (ay.cells y) false TN 0)=M1 at *
 generalize (M.push (.row (ay.cells x) false TN 0)).next=b2 at *
 rw [aG,ak (i:=0 + 2) (x:=St x.2.1) hx rfl,aG,ak (i:=0 + 2) (x:=St y.2.1) hy rfl,kK]
 refine aI (fun h=>?_) (fun h=>?_)
 ·have h:x.2.1≠y.2.1:=by simpa using h
  rw [aG,ak (i:=0 + 2) (x:=St x.2.1) hx rfl,aG,ak (i:=0 + 2) (x:=St y.2.1) hy rfl,G5,og,← aaJ h]
  exact hQ _ k0
 have h:x.2.1=y.2.1:=by simpa using h
 rw [aG,ak (i:=0 + 3) (x:=St x.2.2.1) hx rfl,aG,ak (i:=0 + 3) (x:=St y.2.2.1) hy rfl,kK]
 refine aI (fun h2=>?_) (fun h2=>?_)
 ·have h2:x.2.2.1≠y.2.2.1:=by simpa using h2
  rw [aG,ak (i:=0 + 3) (x:=St x.2.2.1) hx rfl,aG,ak (i:=0 + 3) (x:=St y.2.2.1) hy rfl,G5,og,← aaS h h2]
  exact hQ _ k0
 have h2:x.2.2.1=y.2.2.1:=by simpa using h2
 rw [aW,H5 hx,aW,H5 hy]
 refine hl fun M2 k2=>?_
 rw [← aaK h h2]
 exact hQ _ (k0.trans k2)
theorem KU {α:Type} {p:α→Bool} : ∀ {l:List α} {i:Nat},i≤l.length→(∀ k (hk:k<l.length),k<i→p l[k]=true)→(∀ (hi:i<l.length),p l[i]=false)→(l.takeWhile p).length=i
 | [],i,h,_,_=>by simp at h; subst h; rfl
 | x :: l,0,_,_,h2=>by
   have:=h2 (by simp)
   simp only [List.getElem_cons_zero] at this
   simp [this]
 | x :: l,i + 1,h,h1,h2=>by
   have hx:=h1 0 (by simp) (by omega)
   simp only [List.getElem_cons_zero] at hx
   have:=KU (p:=p) (l:=l) (i:=i) (by simpa using h) (fun k hk hki=>by have:=h1 (k + 1) (by simp; omega) (by omega); simpa using this) (fun hi=>by have:=h2 (by simp; omega); simpa using this)
   rw [List.takeWhile_cons_of_pos hx,List.length_cons,this]
def QR (x:aL) (l:List aL) : Nat:=(l.takeWhile fun y=>fo y x).length
def AZ (l:List aL) (x:aL) : List aL:=l.take (QR x l)++x :: l.drop (QR x l)
theorem Xj (l:List aL) (x:aL) : (AZ l x).length=l.length + 1:=by
 unfold AZ
 have:(l.take (QR x l)++l.drop (QR x l)).length=l.length:=by rw [List.take_append_drop]
 simp only [List.length_append,List.length_cons] at *
 omega
def Dv (TN:Nat) (c:av) : Prop:=∀ {M:RM} {base:Nat} {v:AV} {l:List aL} {x:aL} {Q:ai},Ow ay M base TN v l→base≤M.next→l.length≤100000→(∀ v' M',Ow ay M' base TN v' (AZ l x)→ah [] M M'→Q v' M')→c [v,.agg (ay.cells x)] M Q
theorem Mk {T:Nat} {cb:av} (ha:JZ cb) : Dv T fun args M Q=>∃ a0 a1,args=[a0,a1]∧Bu T cb a0 a1 M Q:=by
 intro M base v l d Q ho hb hl hQ
 refine ⟨_,_,rfl, ?_⟩
 unfold Bu
 simp only [fF,dY]
 rw [dH rfl (by rw [ay.len]; decide),aX]
 have h3:(M.push (.row (ay.cells d) false T 0)).heap M.next=some (.row (ay.cells d) false T 0):=RM.aR _
 have k12:ah [] M (M.push (.row (ay.cells d) false T 0)):=(ah.refl _ _).push _
 have n1:(M.push (.row (ay.cells d) false T 0)).next=M.next + 1:=rfl
 generalize M.push (.row (ay.cells d) false T 0)=M2 at *
 have ho2:=ho.keep k12 (by simp)
 unfold AZ at hQ
 refine aJ (fun m ys M3=>∃ (i:Nat),m=l.length - i∧ys=[N .i64 (i:Int)]∧i≤l.length∧ah [] M2 M3∧∀ k (hk:k<l.length),k<i→fo l[k] d=true) _
  ⟨0,rfl,rfl,Nat.zero_le _,ah.refl _ _,fun k hk h=>by omega⟩ ?_
 rintro next m ys M3 hnext ⟨i,rfl,rfl,hi,k3,hah⟩
 dsimp only [aa]
 have k13:=k12.trans k3
 have ho3:=ho2.keep k3 (by simp)
 have s3:Sl ay M3 v l:=ho3.eu
 have n3:=k3.next
 have h33:=k3.aO h3 (by omega) (by simp)
 have fin:∀ M3,ah [] M2 M3→QR d l=i→(df T 0 [(N .i64 0),(N .u64 0),(St []),(St []),(St [])] [] fun r_22 f_23=>jZ r_22 f_23 M3 fun t24 M_24 b_25=>eZ (bR 5 v none (some (N .i64 (i:Int))) none) fun t27=>aH M_24 (.ptr M.next 0) 5 fun t29 =>
   df T 1 [(N .i64 0),(N .u64 0),(St []),(St []),(St [])] [(0,5,t29)] fun r_26 f_27=>jZ r_26 f_27 M_24 fun t30 M_28 b_29=>eZ (bR 5 v (some (N .i64 (i:Int))) none none) fun t34=>appW T 5 64 [(N .i64 0),(N .u64 0),(St []),(St []),(St [])] false t24 t27 M_28 fun t28 M_30 =>
   aH M_30 (.ptr M.next 0) 5 fun t29_37=>(t29_37=t29∧df T 1 [(N .i64 0),(N .u64 0),(St []),(St []),(St [])] [(0,5,t29)] fun r_35 f_36=>(uA b_29 M_30 r_35 f_36 t30∧eZ (bR 5 v (some (N .i64 (i:Int))) none none) fun t34_34=>(t34_34=t34∧appW T 5 64 [(N .i64 0),(N .u64 0),(St []),(St []),(St [])] false t28 t30 M_30 fun t31 M_31 =>
   eZ (bR 5 v (some (N .i64 (i:Int))) none none) fun t34_33=>(t34_33=t34∧appW T 5 64 [(N .i64 0),(N .u64 0),(St []),(St []),(St [])] false t31 t34 M_31 fun t35 M_32=>Q t35 M_32))))):=fun M3 k3 hat=>by
  have k13:=k12.trans k3
  have ho3:=ho2.keep k3 (by simp)
  have n3:=k3.next
  have h33:=k3.aO h3 (by omega) (by simp)
  obtain ⟨v1,v2,e1,s1,e2,s2,hb1,hb2⟩:=Ke (E:=ay) (k:=i) (by decide) ho3 hi
  have e1:bR 5 v none (some (N .i64 (i:Int))) none=some v1:=e1
  have e2:bR 5 v (some (N .i64 (i:Int))) none none=some v2:=e2
  have hvb:=ho3.blk
  rw [Tn,iV,e1,dD]
  have o4:Ow ay (M3.push (.row [] false T 0)) M3.next T (.slc M3.next 0 0 (.ex 0)) []:=Ow.lit ay M3
  have k4:ah [] M3 (M3.push (.row [] false T 0)):=(ah.refl _ _).push _
  have n4:(M3.push (.row [] false T 0)).next=M3.next + 1:=rfl
  generalize M3.push (.row [] false T 0)=M4 at *
  have h4:=k4.aO h33 (by omega) (by simp)
  rw [dG (n:=5) h4 rfl,je (x:=.agg (ay.cells d)) (size:=5) rfl (mD d) rfl,iV,e2,dD]
  have h5:(M4.push (.row (AV.agg (ay.cells d)).cells false T 0)).heap M4.next=some (.row (ay.cells d) false T 0):=RM.aR _
  have k5:ah [] M4 (M4.push (.row (AV.agg (ay.cells d)).cells false T 0)):=(ah.refl _ _).push _
  have n5:(M4.push (.row (AV.agg (ay.cells d)).cells false T 0)).next=M4.next + 1:=rfl
  generalize M4.push (.row (AV.agg (ay.cells d)).cells false T 0)=M5 at *
  have k45:=k4.trans k5
  refine oN (E:=ay) (ys:=l.take i) (o4.keep k5 (by simp)) (by omega) (by decide) (aM.keep s1 k45 (by simp)) (by simp; omega) (by simp; omega) ?_
  intro v6 M6 o6 k6 n6 _
  have hk6:∀ c,c<M3.next→c ∉ aF (.slc M3.next 0 0 (.ex 0)):=fun c hc hm=>by simp [aF] at hm; omega
  have h6:=k6.aO (k5.aO h4 (by omega) (by simp)) (by omega) (hk6 _ (by omega))
  have h66:=k6.aO h5 (by omega) (by simp [aF]; omega)
  rw [dG (n:=5) h6 rfl]
  refine ⟨rfl, ?_⟩
  rw [je (x:=.agg (ay.cells d)) (size:=5) rfl (mD d) rfl]
  refine ⟨⟨h66,rfl⟩, ?_⟩
  rw [dD]
  refine ⟨rfl, ?_⟩
  rw [List.nil_append] at o6
  have sd:Sl ay M6 (.slc M4.next 0 1 (.ex 1)) [d]:=.slc _ _ _ _ _ (by omega) (by rw [RM.dh h66 (by show 0 + 1 * 5≤5; omega)]; rfl)
  refine oN (E:=ay) (ys:=[d]) o6 (by omega) (by decide) sd (by simp; omega) (by simp; omega) ?_
  intro v7 M7 o7 k7 n7 _
  rw [dD]
  refine ⟨rfl, ?_⟩
  have hv6:=o6.blk
  have hv7:=o7.blk
  have s27:Sl ay M7 v2 (l.drop i):=by
   refine aM.keep (aM.keep (aM.keep s2 k45 (by simp)) k6 fun c hc=>?_) k7 fun c hc hm=>?_
   ·exact hk6 c (hvb c (hb2 c hc)).2
   ·have:=(hv6 c hm).1
    have:=(hvb c (hb2 c hc)).2
    omega
  refine oN (E:=ay) (ys:=l.drop i) o7 (by omega) (by decide) s27 (by simp; omega) (by simp; omega) ?_
  intro v8 M8 o8 k8 n8 _
  refine hQ v8 M8 ?_ ?_
  ·rw [hat]
   have:=o8.mono (base':=base) (by have:=k13.next; omega)
   have e:l.take i++[d]++l.drop i=l.take i++d :: l.drop i:=by simp
   rw [e] at this
   exact this
  ·have a1:ah [] M M5:=k13.trans k45
   have:=k13.next
   refine ((a1.bi k6 fun c hc=>.inl (by simp [aF] at hc; omega)).bi k7 fun c hc=>.inl (by have:=(hv6 c hc).1; omega)).bi k8 fun c hc=>.inl (by have:=(hv7 c hc).1; omega)
 rw [aM.len s3,bL]
 by_cases hlt:i<l.length
 ·rw [show decide ((i:Int)<(l.length:Int))=true by simpa using hlt,bS]
  dsimp only
  rw [lJ s3 hlt,dG (n:=5) h33 rfl]
  refine ha fun M4 k4=>?_
  rw [dF]
  refine aI (fun hg=>?_) (fun hg=>?_)
  ·rw [bH,dQ (by omega)]
   refine hnext _ _ _ (by omega) ⟨i + 1,rfl,rfl,by omega,k3.trans k4,fun k hk hki=>?_⟩
   rcases Nat.lt_or_ge k i with h | h
   ·exact hah k hk h
   ·have:k=i:=by omega
    subst this; exact hg
  ·exact fin M4 (k3.trans k4) (KU hi hah fun _=>hg)
 ·rw [show decide ((i:Int)<(l.length:Int))=false by simp; omega,bV]
  dsimp only
  rw [bU,bK]
  exact fin M3 k3 (KU hi hah fun h=>absurd h hlt)
theorem Pw:ug fun args M Q=>∃ a0 a1,args=[a0,a1]∧OH a0 a1 M Q:=by
 intro M v w xs ys Q h1 h2 hl hQ
 refine ⟨_,_,rfl, ?_⟩
 unfold OH
 rw [aM.len h1,aM.len h2,gD]
 refine aI (fun hn=>?_) (fun hn=>?_)
 ·have:¬ xs=ys:=fun e=>by subst e; simp at hn
  rw [decide_eq_false this] at hQ
  exact hQ
 have hn:xs.length=ys.length:=by
  simp only [bne_eq_false_iff_eq] at hn
  omega
 refine aJ (fun m zs M3=>∃ i:Nat,m=xs.length - i∧zs=[N .i64 (i:Int)]∧i≤xs.length∧M3=M∧(xs=ys↔xs.drop i=ys.drop i)) _ ⟨0,rfl,rfl,Nat.zero_le _,rfl,Iff.rfl⟩ ?_
 rintro next m zs M3 hnext ⟨i,rfl,rfl,hi,rfl,hm⟩
 dsimp only [aa]
 rw [aM.len h1,dX]
 refine aI (fun hlt=>?_) (fun hge=>?_)
 ·have hlt:i<xs.length:=of_decide_eq_true hlt
  rw [List.drop_eq_getElem_cons hlt,List.drop_eq_getElem_cons (show i<ys.length by omega),List.cons.injEq] at hm
  rw [lJ h1 hlt,lJ h2 (by omega),mR rfl rfl (VS _ _)]
  refine aI (fun he=>?_) (fun he=>?_)
  ·have he:¬ xs[i]=ys[i]'(by omega):=by simpa using he
   rw [decide_eq_false (fun e=>he (hm.1 e).1)] at hQ
   exact hQ
  ·have he:xs[i]=ys[i]'(by omega):=by simpa using he
   rw [add1 (by omega)]
   exact hnext _ _ _ (by omega) ⟨i + 1,rfl,rfl,by omega,rfl,hm.trans ⟨fun h=>h.2,fun h=>⟨he,h⟩⟩⟩
 ·have he:i=xs.length:=by
   have:¬ i<xs.length:=of_decide_eq_false hge
   omega
  subst he
  rw [List.drop_length,hn,List.drop_length] at hm
  rw [decide_eq_true (hm.2 rfl)] at hQ
  exact hQ
end Go.Ab.Crw
set_option maxRecDepth 10000
set_option linter.unusedVariables false
set_option linter.unusedSimpArgs false
namespace Go.Ab.Crw
open Go Go.Ab Go.Ab.aC
theorem aaR {M:RM} {c p:Bool} {f:KR→Prop} {P:RM→Prop} {G:AV→RM→Prop} (h0:P M) (hf:c=true→∀ k:KR,(∀ M',P M'→k (Bo p) M' none)→f k) (hG:∀ M',P M'→G (Bo (c && p)) M') :
  ae (Bo c) true f (fun k=>k .undef M none) (fun t M' b=>aP (Bo c) t (Bo false) fun u=>G u M'):=by
 cases c with
 | false=>rw [jL]; dsimp only; rw [bU]; exact hG M h0
 | true=>rw [fe]; exact hf rfl _ fun M' h=>by rw [dF]; exact hG M' h
theorem aaP {M:RM} {c q r:Bool} {f1:KR→Prop} {f2:RM→KR→Prop} {G:AV→RM→Prop} (h1:c=true→∀ k:KR,k (Bo q) M none→f1 k) (h2:c=true→q=true→∀ k:KR,k (Bo r) M none→f2 M k) (hG:G (Bo (c && !(q && r))) M) :
  ae (Bo c) true f1 (fun k=>k .undef M none) (fun t45 M1 b1=>ae t45 true (f2 M1) (fun k=>k .undef M1 none) fun t56 M2 b2=>ae (Bo c) true (fun k'=>aP t45 t56 (Bo false) fun t57=>dU t57 fun t58=>k' t58 M2 none) (fun k=>k .undef M2 none) fun t58 M3 b3=>aP (Bo c) t58 (Bo false) fun t59=>G t59 M3):=by
 cases c with
 | false=>rw [jL]; dsimp only; rw [O6]; dsimp only; rw [jL]; dsimp only; rw [bU]; exact hG
 | true =>
   rw [fe]
   refine h1 rfl _ ?_
   cases q with
   | false=>rw [jL]; dsimp only; rw [fe]; dsimp only; rw [bU,bO]; rw [dF]; exact hG
   | true =>
     rw [fe]
     refine h2 rfl rfl _ ?_
     rw [fe]; dsimp only; rw [dF,bO,dF]; exact hG
def MB (e:Ev) (i k:Nat) (f:Ev) : Bool:=!decide (e.1.1∈f.2) && !(decide (k<i) && decide (f.1.1=e.1.1))
def uI (l:List Ev) (e:Ev) (i:Nat) : Nat→Bool
 | 0=>e.1.2.1 == 1
 | k + 1=>uI l e i k && (match l[k]? with | some f=>MB e i k f | none=>true)
def nE (l:List Ev) : Nat→List aL
 | 0=>[]
 | i + 1=>match l[i]? with
   | some e=>if uI l e i l.length then AZ (nE l i) (fw e.1) else nE l i
   | none=>nE l i
theorem Nj (l:List Ev) : ∀ i,(nE l i).length≤i
 | 0=>Nat.le_refl _
 | i + 1=>by
   have:=Nj l i
   rw [nE]
   split
   ·split
    ·rw [Xj]; omega
    ·omega
   ·omega
def yL (TN:Nat) (c:av) : Prop:=∀ {M:RM} {v:AV} {l:List Ev} {S:Nat→Prop} {Q:ai},fT kW M v l S→(∀ d,S d→d<M.next)→l.length≤10000→(∀ e∈l,e.2.length≤1000000) →
 (∀ v' M',Ow ay M' M.next TN v' (nE l l.length)→ah [] M M'→Q v' M')→c [v] M Q
theorem IY {TN:Nat} {ch cp:av} (hh:EX ch) (hp:Dv TN cp) : yL TN fun args M Q=>∃ a0,args=[a0]∧Ep TN ch cp a0 M Q:=by
 intro M v l S Q hv hS hlen hks hQ
 refine ⟨_,rfl, ?_⟩
 unfold Ep
 simp only [gM,fF,dY,fH,cZ]
 refine ⟨_,_,_,_,rfl,rfl,by decide,by decide,by decide,by decide, ?_⟩
 dsimp only
 rw [aX]
 have k0:ah [] M (M.push (.row (bM [(N .i64 0),(N .u64 0),(St []),(St []),(St [])] 0) false TN 0)):=(ah.refl _ _).push _
 refine aJ (fun z ys M3=>∃ (i:Nat) (dv:AV),z=l.length - i∧ys=[dv,N .i64 (i:Int)]∧i≤l.length∧ah [] M M3∧Ow ay M3 M.next TN dv (nE l i)) _
  ⟨0,_,rfl,rfl,Nat.zero_le _,k0,Own.lit M (Nat.le_refl _)⟩ ?_
 rintro next z ys M3 hnext ⟨i,dv,rfl,rfl,hil,k3,o3⟩
 dsimp only [aa]
 have hv3:=hv.keep k3 (by simp)
 rw [hv3.len,dX]
 refine aI (fun hlt=>?_) (fun hge=>?_)
 ·have hlt:i<l.length:=of_decide_eq_true hlt
  have n3:=k3.next
  have hrl:=Nj l i
  refine bn (fun zs M'=>∃ dv',zs=[dv']∧ah [] M M'∧Ow ay M' M.next TN dv' (nE l (i + 1))) ?_ ?_
  ·rintro zs M' ⟨dv',rfl,k',o'⟩
   dsimp only [aa]
   rw [add1 (by omega)]
   exact hnext _ _ _ (by omega) ⟨i + 1,dv',rfl,rfl,by omega,k',o'⟩
  ·intro J hJ
   obtain ⟨b,o,kv,hidx,hld,hkv⟩:=kF hv3 hlt
   rw [hidx,aG]
   refine mO (j:=2) hld (x:=N .i64 l[i].1.2.1) rfl ?_
   rw [di,show (l[i].1.2.1 == 1)=uI l l[i] i 0 from rfl]
   refine aJ (fun z ys M4=>∃ k:Nat,z=l.length - k∧ys=[Bo (uI l l[i] i k),N .i64 (k:Int)]∧k≤l.length∧ah [] M3 M4) _
    ⟨0,rfl,rfl,Nat.zero_le _,ah.refl _ _⟩ ?_
   rintro next2 z ys M4 hnext2 ⟨k,rfl,rfl,hk,k4⟩
   dsimp only [aa]
   have hv4:=hv3.keep k4 (by simp)
   rw [hv4.len,dX]
   refine aI (fun hlt2=>?_) (fun hge2=>?_)
   ·have hlt2:k<l.length:=of_decide_eq_true hlt2
    refine aaR (P:=fun M5=>ah [] M3 M5) (p:=!decide (l[i].1.1∈l[k].2)) k4 (fun _ K hK=>?_) fun M5 k5=>?_
    ·obtain ⟨b1,o1,kv1,hidx1,hld1,hkv1⟩:=kF hv4 hlt2
     obtain ⟨b2,o2,kv2,hidx2,hld2,hkv2⟩:=kF hv4 hlt
     rw [hidx1,aG]
     refine mO (j:=6) hld1 (x:=kv1) rfl ?_
     rw [hidx2,aG,Nat.add_zero,eQ,pE hld2 2 (by decide)]
     refine ⟨_,rfl, ?_⟩
     refine hh hkv1 (hks _ (List.getElem_mem hlt2)) fun M6 k6=>?_
     rw [bO]
     exact hK M6 (k4.trans k6)
    ·have hv5:=hv3.keep k5 (by simp)
     refine aaP (q:=decide (k<i)) (r:=decide (l[k].1.1=l[i].1.1)) (fun _ K hK=>?_) (fun _ _ K hK=>?_) ?_
     ·rw [dX]; exact hK
     ·obtain ⟨b1,o1,kv1,hidx1,hld1,hkv1⟩:=kF hv5 hlt2
      obtain ⟨b2,o2,kv2,hidx2,hld2,hkv2⟩:=kF hv5 hlt
      rw [hidx1,aG,Nat.add_zero,eQ,pE hld1 2 (by decide)]
      refine ⟨_,rfl, ?_⟩
      rw [hidx2,aG,Nat.add_zero,eQ,pE hld2 2 (by decide)]
      refine ⟨_,rfl, ?_⟩
      rw [mR rfl rfl (show ek [1,1] (List.take 2 (eU l[k].1 kv1)) (List.take 2 (eU l[i].1 kv2))=some (decide (l[k].1.1=l[i].1.1)) from zV _ _),Bool.bne_false]
      exact hK
     ·rw [add1 (by omega)]
      refine hnext2 _ _ _ (by omega) ⟨k + 1,rfl, ?_,by omega,k5⟩
      rw [uI,List.getElem?_eq_getElem hlt2]
      simp only [MB,Bool.and_assoc]
   ·have hke:k=l.length:=by
     have:¬ k<l.length:=of_decide_eq_false hge2
     omega
    subst hke
    obtain ⟨b2,o2,kv2,hidx2,hld2,hkv2⟩:=kF hv4 hlt
    have n4:=k4.next
    have o4:=o3.keep k4 (by simp)
    refine aI (fun hc=>?_) (fun hc=>?_)
    ·rw [hidx2,aG,Nat.add_zero,eQ,pE hld2 2 (by decide)]
     refine ⟨_,rfl, ?_⟩
     rw [hidx2,aG]
     refine mO (j:=3) hld2 (x:=St l[i].1.2.2.1) rfl ?_
     rw [hidx2,aG]
     refine mO (j:=4) hld2 (x:=St l[i].1.2.2.2.1) rfl ?_
     rw [hidx2,aG]
     refine mO (j:=5) hld2 (x:=St l[i].1.2.2.2.2) rfl ?_
     rw [mW]
     refine ⟨ay.cells (fw l[i].1),rfl, ?_⟩
     refine hp o4 (by omega) (by omega) fun v' M5 o5 k5=>?_
     refine hJ _ _ ⟨v',rfl,(k3.trans k4).trans k5, ?_⟩
     rw [nE,List.getElem?_eq_getElem hlt]
     simp only [hc,if_true]
     exact o5
    ·refine hJ _ _ ⟨dv,rfl,k3.trans k4, ?_⟩
     rw [nE,List.getElem?_eq_getElem hlt]
     simp only [hc]
     exact o4
 ·have he:i=l.length:=by
   have:¬ i<l.length:=of_decide_eq_false hge
   omega
  subst he
  exact hQ dv M3 o3 k3
end Go.Ab.Crw
set_option maxRecDepth 10000
set_option linter.unusedVariables false
set_option linter.unusedSimpArgs false
namespace Go.Ab.Crw
open Go Go.Ab Go.Ab.aC
def nm (es:List aL) (i:Nat) : List UInt8:=(es.getD i ((0,0),([],[],[]))).2.1
theorem ME {es:List aL} {i:Nat} (h:i<es.length) : nm es i=es[i].2.1:=by rw [nm,mH h]
def iQ (es:List aL) : Nat→List (List UInt8)
 | 0=>[]
 | i + 1=>if i=0∨nm es (i - 1)≠nm es i then iQ es i++[nm es i] else iQ es i
theorem Bw (es:List aL) : ∀ i,(iQ es i).length≤i
 | 0=>Nat.le_refl _
 | i + 1=>by
   have:=Bw es i
   rw [iQ]
   split
   ·simp; omega
   ·omega
theorem CX (es:List aL) : ∀ i,(iQ es (i + 1)).getLast?=some (nm es i)
 | 0=>by rw [iQ,if_pos (.inl rfl)]; simp
 | i + 1=>by
   rw [iQ]
   split
   ·simp
   ·rename_i h
    have h:nm es i=nm es (i + 1):=by
     apply Classical.byContradiction; intro hh; exact h (.inr (by simpa using hh))
    rw [CX es i,h]
theorem Wn (es:List aL) (i:Nat) : (iQ es (i + 1))≠[]:=fun h=>by
 have:=CX es i
 rw [h] at this; cases this
def CF (TS T T9:Nat) (c:av) : Prop:=∀ {M:RM} {t:Nat} {B:Nat→Prop} {ps:List Pt} {es:List aL} {Q:ai},kI TS T B M t ps es→es.length≤50000→(∀ v M',Ow sQ M' M.next T9 v (iQ es es.length)→ah [] M M'→Q v M')→c [.ptr t 0] M Q
theorem Mr {TS T TN T9:Nat} : CF TS T T9 fun args M Q=>∃ a0,args=[a0]∧qB TN T9 a0 M Q:=by
 intro M t B ps es Q hst hlen hQ
 refine ⟨_,rfl, ?_⟩
 unfold qB
 simp only [gM,fF,dY,fH,cZ]
 obtain ⟨s0,v,r1,_,r3,_,_⟩:=hst.row
 rw [aK,aG,ak (i:=0 + 1) r1 rfl,aM.len r3]
 refine aJ (fun z ys M3=>∃ (i:Nat) (dv:AV),z=es.length - i∧ys=[dv,N .i64 (i:Int)]∧i≤es.length∧ah [] M M3∧Ow sQ M3 M.next T9 dv (iQ es i)) _
  ⟨0,eG,rfl,rfl,Nat.zero_le _,ah.refl _ _,.nil⟩ ?_
 rintro next z ys M3 hnext ⟨i,dv,rfl,rfl,hil,k3,o3⟩
 dsimp only [aa]
 rw [dX]
 refine aI (fun hlt=>?_) (fun hge=>?_)
 ·have hlt:i<es.length:=of_decide_eq_true hlt
  have n3:=k3.next
  have hcl:=Bw es i
  refine bn (fun zs M'=>∃ dv',zs=[dv']∧ah [] M M'∧Ow sQ M' M.next T9 dv' (iQ es (i + 1))) ?_ ?_
  ·rintro zs M' ⟨dv',rfl,k',o'⟩
   dsimp only [aa]
   rw [add1 (by omega)]
   exact hnext _ _ _ (by omega) ⟨i + 1,dv',rfl,rfl,by omega,k',o'⟩
  intro J hJ
  rw [lJ (aM.keep r3 k3 (by simp)) hlt]
  have hx:=ME hlt
  generalize es[i]=x at *
  rw [aX,gI (n:=5) (x:=.agg (ay.cells x)) (l:=[(N .i64 0),(N .u64 0),(St []),(St []),(St [])]) (RM.aR _) rfl rfl (mD x)]
  have k4:ah [] M3 ((M3.push (.row [(N .i64 0),(N .u64 0),(St []),(St []),(St [])] false TN 0)).put M3.next (.row (AV.agg (ay.cells x)).cells false TN 0)):=((ah.refl _ _).push _).new _ (Nat.le_refl _)
  have h4:((M3.push (.row [(N .i64 0),(N .u64 0),(St []),(St []),(St [])] false TN 0)).put M3.next (.row (AV.agg (ay.cells x)).cells false TN 0)).heap M3.next=some (.row (ay.cells x) false TN 0):=aZ _
  generalize (M3.push (.row [(N .i64 0),(N .u64 0),(St []),(St []),(St [])] false TN 0)).put M3.next (.row (AV.agg (ay.cells x)).cells false TN 0)=M4 at *
  generalize M3.next=b at *
  have o4:=o3.keep k4 (by simp)
  have k04:=k3.trans k4
  rw [aM.len o4.eu,di]
  refine Rk (P:=fun M'=>M'=M4) (p:=decide (nm es (i - 1)≠nm es i)) rfl (fun hc K hK=>?_) fun M5 hM5=>?_
  ·have hi0:i≠0:=fun e=>by
    subst e; simp [iQ] at hc
   have hlp:0<(iQ es i).length:=by
    simp only [beq_eq_false_iff_ne,ne_eq] at hc; omega
   rw [aM.len o4.eu,dm hlp (by omega)]
   obtain ⟨b1,o1,_,_,hidx,hcell⟩:=Sl.qX (E:=sQ) (i:=(iQ es i).length - 1) o4.eu (((iQ es i).length - 1:Nat) : Int) (by omega) rfl rfl
   have hlast:(iQ es i)[(iQ es i).length - 1]'(by omega)=nm es (i - 1):=by
    have:=CX es (i - 1)
    rw [show i - 1 + 1=i by omega,List.getLast?_eq_getElem?,List.getElem?_eq_getElem (by omega)] at this
    exact Option.some.inj this
   rw [hidx,fu,hcell (St (nm es (i - 1))) (by rw [hlast]; rfl)]
   simp only [Option.some.injEq,exists_eq_left']
   rw [aG,ak (i:=0 + 2) (x:=St x.2.1) h4 rfl,kK]
   refine hK M4 rfl |> fun h=>?_
   rw [show (nm es (i - 1) != x.2.1)=decide (nm es (i - 1)≠nm es i) by rw [hx]; by_cases h:nm es (i - 1)=x.2.1 <;> simp [h]]
   exact h
  ·subst hM5
   have hc0:((((iQ es i).length:Nat) : Int) == 0)=decide (i=0):=by
    cases i with
    | zero=>simp [iQ]
    | succ i =>
      have:=List.length_pos_iff.2 (Wn es i)
      rw [decide_eq_false (by omega),beq_eq_false_iff_ne]
      omega
   rw [hc0]
   refine aI (fun hc=>?_) (fun hc=>?_)
   ·simp only [Bool.or_eq_true,decide_eq_true_eq] at hc
    rw [aG,ak (i:=0 + 2) (x:=St x.2.1) h4 rfl,je (x:=St x.2.1) (size:=1) rfl rfl rfl,aX]
    refine tF (E:=sQ) (a:=x.2.1) o4 (by have:=k04.next; omega) (by decide) (by omega) (by omega) fun v2 M7 o7 k7 n7 _=>?_
    refine hJ _ _ ⟨v2,rfl,k04.bi k7 (fun d hd=>.inl (o4.blk d hd).1), ?_⟩
    rw [iQ,if_pos hc,hx]
    exact o7
   ·refine hJ _ _ ⟨dv,rfl,k04, ?_⟩
    rw [iQ,if_neg (by simpa using hc)]
    exact o4
 ·have he:i=es.length:=by
   have:¬ i<es.length:=of_decide_eq_false hge
   omega
  subst he
  exact hQ dv M3 o3 k3
def xe (T9:Nat) (c:av) : Prop:=∀ {M:RM} {v:AV} {es:List aL} {Q:ai},Sl ay M v es→es.length≤50000→(∀ v' M',Ow sQ M' M.next T9 v' (iQ es es.length)→ah [] M M'→Q v' M')→c [v] M Q
theorem GK {T9:Nat} : xe T9 fun args M Q=>∃ a0,args=[a0]∧BQ T9 a0 M Q:=by
 intro M v es Q hv hlen hQ
 refine ⟨_,rfl, ?_⟩
 unfold BQ
 simp only [gM,fF,dY,fH,cZ]
 refine ⟨_,_,_,_,rfl,rfl,by decide,by decide,by decide,by decide, ?_⟩
 dsimp only
 rw [aX]
 have k0:ah [] M (M.push (.row (bM [(St [])] 0) false T9 0)):=(ah.refl _ _).push _
 refine aJ (fun z ys M3=>∃ (i:Nat) (dv:AV),z=es.length - i∧ys=[dv,N .i64 (i:Int)]∧i≤es.length∧ah [] M M3∧Ow sQ M3 M.next T9 dv (iQ es i)) _
  ⟨0,_,rfl,rfl,Nat.zero_le _,k0,Own.lit M (Nat.le_refl _)⟩ ?_
 rintro next z ys M3 hnext ⟨i,dv,rfl,rfl,hil,k3,o3⟩
 dsimp only [aa]
 have hv3:Sl ay M3 v es:=aM.keep hv k3 (by simp)
 rw [aM.len hv3,dX]
 refine aI (fun hlt=>?_) (fun hge=>?_)
 ·have hlt:i<es.length:=of_decide_eq_true hlt
  have n3:=k3.next
  have hcl:=Bw es i
  have hx:=ME hlt
  refine bn (fun zs M'=>∃ dv',zs=[dv']∧ah [] M M'∧Ow sQ M' M.next T9 dv' (iQ es (i + 1))) ?_ ?_
  ·rintro zs M' ⟨dv',rfl,k',o'⟩
   dsimp only [aa]
   rw [add1 (by omega)]
   exact hnext _ _ _ (by omega) ⟨i + 1,dv',rfl,rfl,by omega,k',o'⟩
  intro J hJ
  rw [di]
  refine Rk (P:=fun M'=>M'=M3) (p:=decide (nm es (i - 1)≠nm es i)) rfl (fun hc K hK=>?_) fun M5 hM5=>?_
  ·have hi0:1≤i:=by
    simp only [beq_eq_false_iff_ne,ne_eq] at hc; omega
   obtain ⟨b1,o1,_,_,hidx1,hld1⟩:=Sl.at (E:=ay) (i:=i) hv3 5 (i:Int) hlt rfl rfl
   obtain ⟨b2,o2,_,_,hidx2,hld2⟩:=Sl.at (E:=ay) (i:=i - 1) hv3 5 ((i - 1:Nat) : Int) (by omega) rfl rfl
   rw [hidx1,aG]
   refine mO (j:=2) hld1 (x:=St es[i].2.1) rfl ?_
   rw [dm hi0 (by omega),hidx2,aG]
   refine mO (j:=2) hld2 (x:=St (es[i - 1]'(by omega)).2.1) rfl ?_
   rw [kK,← ME hlt,← ME (show i - 1<es.length by omega),show (nm es i != nm es (i - 1))=decide (nm es (i - 1)≠nm es i) by by_cases h:nm es (i - 1)=nm es i <;> simp [h]; exact fun e=>h e.symm]
   exact hK M3 rfl
  ·subst hM5
   rw [show ((i:Int) == 0)=decide (i=0) by by_cases h:i=0 <;> simp [h]]
   refine aI (fun hc=>?_) (fun hc=>?_)
   ·simp only [Bool.or_eq_true,decide_eq_true_eq] at hc
    obtain ⟨b1,o1,_,_,hidx1,hld1⟩:=Sl.at (E:=ay) (i:=i) hv3 5 (i:Int) hlt rfl rfl
    rw [hidx1,aG]
    refine mO (j:=2) hld1 (x:=St es[i].2.1) rfl ?_
    rw [je (x:=St es[i].2.1) (size:=1) rfl rfl rfl,aX]
    refine tF (E:=sQ) (a:=es[i].2.1) o3 (by omega) (by decide) (by omega) (by omega) fun v2 M7 o7 k7 n7 _=>?_
    refine hJ _ _ ⟨v2,rfl,k3.bi k7 (fun d hd=>.inl (o3.blk d hd).1), ?_⟩
    rw [iQ,if_pos hc,hx]
    exact o7
   ·refine hJ _ _ ⟨dv,rfl,k3, ?_⟩
    rw [iQ,if_neg (by simpa using hc)]
    exact o3
 ·have he:i=es.length:=by
   have:¬ i<es.length:=of_decide_eq_false hge
   omega
  subst he
  exact hQ dv M3 o3 k3
def Hu (TD:Nat) (c:av) : Prop:=∀ {M:RM} {v:AV} {l:List Ev} {S:Nat→Prop} {Q:ai},fT kW M v l S→(bZ l).length≤90000→l.length≤10000 →
 (∀ v' M',Ow dz M' M.next TD v' (pG [] (bZ l))→ah [] M M'→Q v' M')→c [v] M Q
theorem Fq {l:List Ev} {i:Nat} (h:i<l.length) : bZ (l.take (i + 1))=bZ (l.take i)++l[i].1.1 :: l[i].2:=by
 rw [List.take_succ_eq_append_getElem h,bZ,bZ,List.flatMap_append,List.flatMap_singleton]
theorem UE {l:List Ev} : ∀ i,(bZ (l.take i)).length≤(bZ l).length:=fun i=>by
 have:bZ l=bZ (l.take i)++bZ (l.drop i):=by
  unfold bZ
  rw [← List.flatMap_append,List.take_append_drop]
 rw [this,List.length_append]; omega
theorem Rx (u v w:List aC) : pG u (v++w)=pG (pG u v) w:=List.foldl_append
theorem PD {TD:Nat} {ca:av} (ha:KV TD ca) : Hu TD fun args M Q=>∃ a0,args=[a0]∧MP ca a0 M Q:=by
 intro M v l S Q hv hdl hlen hQ
 refine ⟨_,rfl, ?_⟩
 unfold MP
 refine aJ (fun z ys M3=>∃ (i:Nat) (dv:AV),z=l.length - i∧ys=[dv,N .i64 (i:Int)]∧i≤l.length∧ah [] M M3∧Ow dz M3 M.next TD dv (pG [] (bZ (l.take i)))) _
  ⟨0,eG,rfl,rfl,Nat.zero_le _,ah.refl _ _,.nil⟩ ?_
 rintro next z ys M3 hnext ⟨i,dv,rfl,rfl,hil,k3,o3⟩
 dsimp only [aa]
 have hv3:=hv.keep k3 (by simp)
 rw [hv3.len,dX]
 refine aI (fun hlt=>?_) (fun hge=>?_)
 ·have hlt:i<l.length:=of_decide_eq_true hlt
  have n3:=k3.next
  have hd1:=UE (l:=l) (i + 1)
  rw [Fq hlt,List.length_append,List.length_cons] at hd1
  have hu1:=EQ (u:=[]) (v:=bZ (l.take i))
  obtain ⟨b,o,kv,hidx,hld,hkv⟩:=kF hv3 hlt
  rw [hidx,aG,Nat.add_zero,eQ,pE hld 2 (by decide)]
  refine ⟨_,rfl, ?_⟩
  refine ha (d:=l[i].1.1) o3 n3 (by simp at hu1; omega) fun v4 M4 o4 k4=>?_
  refine aJ (fun z ys M5=>∃ (j:Nat) (dv:AV),z=l[i].2.length - j∧ys=[dv,N .i64 (j:Int)]∧j≤l[i].2.length∧ah [] M M5∧Ow dz M5 M.next TD dv (pG (pG [] (bZ (l.take i))) (l[i].1.1 :: l[i].2.take j))) _
   ⟨0,v4,rfl,rfl,Nat.zero_le _,k3.trans k4,o4⟩ ?_
  rintro next2 z ys M5 hnext2 ⟨j,dv5,rfl,rfl,hj,k5,o5⟩
  dsimp only [aa]
  have hv5:=hv.keep k5 (by simp)
  obtain ⟨b2,o2,kv2,hidx2,hld2,hkv2⟩:=kF hv5 hlt
  rw [hidx2,aG]
  refine mO (j:=6) hld2 (x:=kv2) rfl ?_
  rw [aM.len hkv2,dX]
  refine aI (fun hlt2=>?_) (fun hge2=>?_)
  ·have hlt2:j<l[i].2.length:=of_decide_eq_true hlt2
   rw [hidx2,aG]
   refine mO (j:=6) hld2 (x:=kv2) rfl ?_
   rw [oO hkv2 hlt2]
   have hu2:=EQ (u:=pG [] (bZ (l.take i))) (v:=l[i].1.1 :: l[i].2.take j)
   have n5:=k5.next
   refine ha o5 n5 (by simp at hu1 hu2; omega) fun v6 M6 o6 k6=>?_
   rw [add1 (by omega)]
   refine hnext2 _ _ _ (by omega) ⟨j + 1,v6,rfl,rfl,by omega,k5.trans k6, ?_⟩
   rw [List.take_succ_eq_append_getElem hlt2,← List.cons_append,Rx]
   exact o6
  ·have hje:j=l[i].2.length:=by
    have:¬ j<l[i].2.length:=of_decide_eq_false hge2
    omega
   subst hje
   rw [List.take_length,← Rx,← Fq hlt] at o5
   rw [add1 (by omega)]
   exact hnext _ _ _ (by omega) ⟨i + 1,dv5,rfl,rfl,by omega,k5,o5⟩
 ·have he:i=l.length:=by
   have:¬ i<l.length:=of_decide_eq_false hge
   omega
  subst he
  rw [List.take_length] at o3
  exact hQ dv M3 o3 k3
end Go.Ab.Crw
set_option maxRecDepth 10000
set_option linter.unusedVariables false
set_option linter.unusedSimpArgs false
namespace Go.Ab.Crw
open Go Go.Ab Go.Ab.aC
def gz (s:List UInt8) : List UInt8:=bC s.length++s
def iF (x:aL) : List UInt8:=bC x.1.1.toNat++bC x.1.2++gz x.2.1++gz x.2.2.1++gz x.2.2.2
def vF (ps:List Pt) (es:List aL) : List UInt8:=gz (encS ps)++bC es.length++es.flatMap iF
def kZ (x:aL) : Prop:=0≤x.1.1∧x.1.1<16∧x.1.2<2 ^ 64∧x.2.1.length≤600∧x.2.2.1.length≤600∧x.2.2.2.length≤600
theorem kD {s:List UInt8} (h:s.length<2 ^ 64) : (gz s).length≤s.length + 10:=by
 have:=dK h
 rw [gz,List.length_append]; omega
theorem Xn {x:aL} (h:kZ x) : (iF x).length≤2000:=by
 obtain ⟨h1,h2,h3,h4,h5,h6⟩:=h
 have a1:=dK (v:=x.1.1.toNat) (by omega)
 have a2:=dK h3
 have a3:=kD (s:=x.2.1) (by omega)
 have a4:=kD (s:=x.2.2.1) (by omega)
 have a5:=kD (s:=x.2.2.2) (by omega)
 simp only [iF,List.length_append]
 omega
theorem CY {es:List aL} (h:∀ x∈es,kZ x) : ∀ i,((es.take i).flatMap iF).length≤2000 * i
 | 0=>by simp
 | i + 1=>by
   have ih:=CY h i
   by_cases hi:i<es.length
   ·rw [List.take_succ_eq_append_getElem hi,List.flatMap_append,List.length_append,List.flatMap_singleton]
    have:=Xn (h _ (List.getElem_mem hi))
    omega
   ·rw [List.take_of_length_le (by omega)] at ih ⊢
    omega
theorem Li {es:List aL} {i:Nat} (h:i<es.length) (p:List UInt8) : p++(es.take (i + 1)).flatMap iF=(p++(es.take i).flatMap iF)++iF es[i]:=by
 rw [List.take_succ_eq_append_getElem h,List.flatMap_append,List.flatMap_singleton,List.append_assoc]
theorem GG {M:RM} {zs:List AV} (s:List UInt8) : kN M 1 zs false (St s)=some (s.length,dL s):=by
 simp only [kN,if_true]
def GY (T:Nat) (c:av) : Prop:=∀ {M:RM} {v:AV} {L s:List UInt8} {Q:ai},Sl BY M v L→L.length + s.length≤1000000000 →
 (∀ r M',Own M' M.next T 1 r (dL (L++gz s)) (L++gz s).length→ah [] M M'→Q r M')→c [v,St s] M Q
theorem MN {T:Nat} {cu:av} (hu:Br T cu) : GY T fun args M Q=>∃ a0 a1,args=[a0,a1]∧MZ cu T a0 a1 M Q:=by
 intro M v L s Q hv hl hQ
 refine ⟨_,_,rfl, ?_⟩
 unfold MZ
 have hv:aM M 1 v (BY.row L) L.length:=hv
 rw [zt] at hv
 rw [kw,eX,dx (by omega) (by omega)]
 refine hu (v:=s.length) hv (kg _) (by omega) (by omega) fun r M1 o1 k1=>?_
 have n1:=k1.next
 have u10:=dK (v:=s.length) (by omega)
 refine nI o1 n1 (Nat.le_refl _) (GG s) (by simp) (kg _) (by omega) (by omega) fun v' M' o2 k2 _ _=>?_
 refine hQ v' M' ?_ (k1.bi k2 fun d hd=>.inl (o1.blk d hd).1)
 rw [show dL (L++gz s)=List.map By L++dL (bC s.length)++dL s by rw [gz,jU,jU,List.append_assoc],show (L++gz s).length=L.length + (bC s.length).length + s.length by simp [gz]; omega]
 exact o2
theorem mX.acs {T base:Nat} {M:RM} {v:AV} {L L' : List UInt8} {zs:List AV} {K:ai} (h:mX T M base v L) (hb:base≤M.next) (hl:L.length + L'.length≤1000000000)
  (hK:∀ v' M',mX T M' base v' (L++L')→ah (aF v) M M'→(∀ d∈aF v,base≤d)→K v' M') : appW T 1 1 zs false v (St L') M K:=by
 rcases h with h | ⟨b,rfl,h1,h2,h3⟩
 ·refine nI h hb (Nat.le_refl _) (GG L') (by simp) (kg _) (by omega) (by omega) ?_
  intro v' M' o k _ _
  refine hK v' M' (.inl ?_) k (fun d hd=>(h.blk d hd).1)
  rw [jU,List.length_append]; exact o
 ·refine ⟨L'.length,dL L',GG L',by omega,by omega, ?_⟩
  by_cases h0:L'.length=0
  ·have:L'=[]:=List.length_eq_zero_iff.1 h0
   subst this
   refine ⟨.slc b 0 L.length (.ex L.length),M,by simp [mZ],hK _ _ (.inr ⟨b,by simp,h1,h2,by simpa using h3⟩) (ah.refl _ _) (by simp [aF]; exact h1)⟩
  ·have hld:M.loads b 0 (L.length * 1)=some (dL L):=by
    rw [RM.dh h3 (by simp),Nat.mul_one,List.drop_zero,List.take_of_length_le (by simp)]
   refine ⟨.slc M.next 0 (L.length + L'.length) (.op 1),M.push (.row (dL L++dL L') true T 0), ?_,hK _ _ (.inl ?_) ((ah.refl _ _).push _) (by simp [aF]; exact h1)⟩
   ·have hone:(dL L++dL L').all oneCell=true:=by rw [List.all_append,kg,kg]; rfl
    simp only [mZ,if_neg h0,if_neg (show ¬ L.length + L'.length≤L.length by omega),hld]
    rw [if_pos ⟨by omega,by omega,hone⟩]
   ·rw [List.length_append,jU]
    exact .op _ _ _ hb (by simp [RM.push]) (RM.aR _) (by simp)
def Hq (T:Nat) (c:av) : Prop:=∀ {M:RM} {s:List UInt8} {Q:ai},s.length≤900000000→(∀ r M',mX T M' M.next r (gz s)→ah [] M M'→Q r M')→c [St s] M Q
theorem Oc {T:Nat} {cu:av} (hu:BJ T cu) : Hq T fun args M Q=>∃ a0,args=[a0]∧zi cu T a0 M Q:=by
 intro M s Q hl hQ
 refine ⟨_,rfl, ?_⟩
 unfold zi
 rw [kw,eX,dx (by omega) (by omega)]
 refine hu s.length (by omega) fun r M1 o1 k1=>?_
 have n1:=k1.next
 have u10:=dK (v:=s.length) (by omega)
 refine mX.acs o1 n1 (by omega) fun v' M2 o2 k2 hb=>?_
 exact hQ v' M2 o2 (k1.bi k2 fun d hd=>.inl (hb d hd))
def xP (TS T TB:Nat) (c:av) : Prop:=∀ {M:RM} {t:Nat} {B:Nat→Prop} {ps:List Pt} {es:List aL} {Q:ai},kI TS T B M t ps es→(∀ p∈ps,Bd p)→(∀ x∈es,kZ x)→es.length≤100000 →
 (∀ r M',Own M' M.next TB 1 r (dL (vF ps es)) (vF ps es).length→(encS ps).length≤200000000→ah [] M M'→Q r M')→c [.ptr t 0] M Q
theorem Me {TS T TB TN:Nat} {ce ct cu:av} (he:zq T TB ce) (ht:GY TB ct) (hu:Br TB cu) : xP TS T TB fun args M Q=>∃ a0,args=[a0]∧tL ce ct cu TN a0 M Q:=by
 intro M t B ps es Q hst hbd hok hlen hQ
 refine ⟨_,rfl, ?_⟩
 unfold tL
 obtain ⟨s0,v,r1,⟨S,r2,_⟩,r3,_,_⟩:=hst.row
 have htl:=hst.lt
 rw [aK,aW,ak (i:=0) r1 rfl,aK,aG,ak (i:=0 + 1) r1 rfl,aM.len r3,eX,dx (by omega) (by omega)]
 refine he r2 hbd fun b1 M1 o1 hel k1=>?_
 have n1:=k1.next
 have r11:=k1.aO r1 htl (by simp)
 rw [ak (i:=0 + 1) r11 rfl]
 refine ⟨rfl, ?_⟩
 rw [Sl.str (Own.sl o1)]
 refine ht (L:=[]) (s:=encS ps) .nil (by simp; omega) fun b2 M2 o2 k2=>?_
 have n2:=k2.next
 have r12:=k2.aO r11 (by omega) (by simp)
 rw [ak (i:=0 + 1) r12 rfl]
 refine ⟨rfl, ?_⟩
 rw [List.nil_append] at o2
 have tl:=kD (s:=encS ps) (by omega)
 have o2':=o2.mono (base':=M.next) n1
 refine hu.app o2' (by omega) (by omega) (by omega) fun b3 M3 o3 k3=>?_
 have n3:=k3.next
 have k03:=(k1.trans k2).trans k3
 have r13:=k3.aO r12 (by omega) (by simp)
 rw [aK,aG,ak (i:=0 + 1) r13 rfl,aM.len r3]
 have u10:=dK (v:=es.length) (by omega)
 have hpl:(gz (encS ps)++bC es.length).length≤200000020:=by rw [List.length_append]; omega
 unfold vF at hQ
 generalize gz (encS ps)++bC es.length=p at *
 refine aJ (fun z ys M4=>∃ (i:Nat) (dv:AV),z=es.length - i∧ys=[dv,N .i64 (i:Int)]∧i≤es.length∧ah [] M M4∧Own M4 M.next TB 1 dv (dL (p++(es.take i).flatMap iF)) (p++(es.take i).flatMap iF).length) _
  ⟨0,b3,rfl,rfl,Nat.zero_le _,k03,by simpa using o3⟩ ?_
 rintro next z ys M4 hnext ⟨i,dv,rfl,rfl,hil,k4,o4⟩
 dsimp only [aa]
 rw [dX]
 refine aI (fun hlt=>?_) (fun hge=>?_)
 ·have hlt:i<es.length:=of_decide_eq_true hlt
  have n4:=k4.next
  have hfl:=CY hok i
  have hLl:(p++(es.take i).flatMap iF).length≤200000020 + 2000 * 100000:=by rw [List.length_append]; omega
  have hstep:∀ w M',ah [] M M'→Own M' M.next TB 1 w (dL ((p++(es.take i).flatMap iF)++iF es[i])) ((p++(es.take i).flatMap iF)++iF es[i]).length→next [w,N .i64 ((i + 1:Nat) : Int)] M':=fun w M' k o=>by
   refine hnext _ _ _ (by omega) ⟨i + 1,w,rfl,rfl,by omega,k, ?_⟩
   rw [Li hlt]; exact o
  rw [lJ (aM.keep r3 k4 (by simp)) hlt]
  generalize p++(es.take i).flatMap iF=L at *
  obtain ⟨e1,e2,e3,e4,e5,e6⟩:=hok _ (List.getElem_mem hlt)
  generalize es[i]=x at *
  rw [aX,gI (n:=5) (x:=.agg (ay.cells x)) (l:=[(N .i64 0),(N .u64 0),(St []),(St []),(St [])]) (RM.aR _) rfl rfl (mD x)]
  have k5:ah [] M4 ((M4.push (.row [(N .i64 0),(N .u64 0),(St []),(St []),(St [])] false TN 0)).put M4.next (.row (AV.agg (ay.cells x)).cells false TN 0)):=((ah.refl _ _).push _).new _ (Nat.le_refl _)
  have h5:((M4.push (.row [(N .i64 0),(N .u64 0),(St []),(St []),(St [])] false TN 0)).put M4.next (.row (AV.agg (ay.cells x)).cells false TN 0)).heap M4.next=some (.row (ay.cells x) false TN 0):=aZ _
  have l5:M4.next<((M4.push (.row [(N .i64 0),(N .u64 0),(St []),(St []),(St [])] false TN 0)).put M4.next (.row (AV.agg (ay.cells x)).cells false TN 0)).next:=by rw [lY]; simp [RM.push]
  have o5:=o4.keep k5 (by simp)
  have k05:=k4.trans k5
  generalize (M4.push (.row [(N .i64 0),(N .u64 0),(St []),(St []),(St [])] false TN 0)).put M4.next (.row (AV.agg (ay.cells x)).cells false TN 0)=M5 at *
  generalize M4.next=b at *
  obtain ⟨dn,hdn⟩:=Int.eq_ofNat_of_zero_le e1
  have n5:=k05.next
  rw [aW,aW,ak (i:=0) (x:=N .i64 x.1.1) h5 rfl,eX,dx (by omega) (by omega),aW,aG,ak (i:=0 + 1) (x:=N .u64 (x.1.2:Int)) h5 rfl]
  rw [show x.1.1=((x.1.1.toNat:Nat) : Int) by omega]
  refine hu.app o5 n5 (by omega) (by omega) fun b6 M6 o6 k6=>?_
  have a1:=dK (v:=x.1.1.toNat) (by omega)
  have h6:=k6.aO h5 l5 (by simp)
  have n6:=k6.next
  rw [ak (i:=0 + 1) (x:=N .u64 (x.1.2:Int)) h6 rfl]
  refine ⟨rfl, ?_⟩
  refine hu.app o6 (by omega) (by rw [List.length_append]; omega) e3 fun b7 M7 o7 k7=>?_
  have a2:=dK e3
  have h7:=k7.aO h6 (by omega) (by simp)
  have n7:=k7.next
  rw [aG,ak (i:=0 + 2) (x:=St x.2.1) h7 rfl,aG,ak (i:=0 + 3) (x:=St x.2.2.1) h7 rfl,aG,ak (i:=0 + 4) (x:=St x.2.2.2) h7 rfl]
  refine ht (Own.sl o7) (by simp only [List.length_append]; omega) fun b8 M8 o8 k8=>?_
  have a3:=kD (s:=x.2.1) (by omega)
  have h8:=k8.aO h7 (by omega) (by simp)
  have n8:=k8.next
  rw [ak (i:=0 + 3) (x:=St x.2.2.1) h8 rfl]
  refine ⟨rfl, ?_⟩
  rw [ak (i:=0 + 4) (x:=St x.2.2.2) h8 rfl]
  refine ⟨rfl, ?_⟩
  refine ht (Own.sl o8) (by simp only [List.length_append]; omega) fun b9 M9 o9 k9=>?_
  have a4:=kD (s:=x.2.2.1) (by omega)
  have h9:=k9.aO h8 (by omega) (by simp)
  have n9:=k9.next
  rw [ak (i:=0 + 4) (x:=St x.2.2.2) h9 rfl]
  refine ⟨rfl, ?_⟩
  refine ht (Own.sl o9) (by simp only [List.length_append]; omega) fun b10 M10 o10 k10=>?_
  rw [add1 (by omega)]
  refine hstep b10 M10 ((((((k05.trans k6).trans k7).trans k8).trans k9).trans k10)) ?_
  rw [show L++iF x=L++bC x.1.1.toNat++bC x.1.2++gz x.2.1++gz x.2.2.1++gz x.2.2.2 by simp [iF]]
  exact o10.mono (by omega)
 ·have he:i=es.length:=by
   have:¬ i<es.length:=of_decide_eq_false hge
   omega
  subst he
  rw [List.take_length] at o4
  exact hQ dv M4 o4 hel k4
def Dh (TB:Nat) (c:av) : Prop:=∀ {M:RM} {u v:AV} {w:List aC} {es:List aL} {Q:ai},Sl dz M u w→(∀ d∈w,good d=true)→w.length≤5000→(pM (fA w)).length≤200000000→Sl ay M v es→(∀ x∈es,kZ x)→es.length≤100000 →
 (∀ r M',mX TB M' M.next r (gz (pM (fA w))++bC es.length++es.flatMap iF)→ah [] M M'→Q r M')→c [u,v] M Q
theorem Mj {TB:Nat} {ce ct cu:av} (he:sG TB ce) (ht:Hq TB ct) (hu:BJ TB cu) : Dh TB fun args M Q=>∃ a0 a1,args=[a0,a1]∧u7 ce ct cu TB a0 a1 M Q:=by
 intro M u v w es Q hw hg hwl hel hv hok hlen hQ
 refine ⟨_,_,rfl, ?_⟩
 unfold u7
 refine he hw hg hwl fun b1 M1 o1 k1=>?_
 have n1:=k1.next
 rw [Sl.str o1.sl]
 refine ht (by omega) fun b2 M2 o2 k2=>?_
 have n2:=k2.next
 have k02:=k1.trans k2
 have tl:=kD (s:=pM (fA w)) (by omega)
 have hv2:Sl ay M2 v es:=aM.keep hv k02 (by simp)
 rw [aM.len hv2,eX,dx (by omega) (by omega)]
 have u10:=dK (v:=es.length) (by omega)
 have mono:∀ {M' : RM} {r:AV} {L:List UInt8},mX TB M' M1.next r L→mX TB M' M.next r L:=fun h=>by
  rcases h with h | ⟨b,rfl,h1,h2,h3⟩
  ·exact .inl (h.mono n1)
  ·exact .inr ⟨b,rfl,by omega,h2,h3⟩
 refine nJ hu k02 (mono o2) (by omega) (by omega) fun b3 M3 o3 k3 _=>?_
 have hpl:(gz (pM (fA w))++bC es.length).length≤200000020:=by rw [List.length_append]; omega
 generalize gz (pM (fA w))++bC es.length=p at *
 refine aJ (fun z ys M4=>∃ (i:Nat) (dv:AV),z=es.length - i∧ys=[dv,N .i64 (i:Int)]∧i≤es.length∧ah [] M M4∧mX TB M4 M.next dv (p++(es.take i).flatMap iF)) _
  ⟨0,b3,rfl,rfl,Nat.zero_le _,k3,by simpa using o3⟩ ?_
 rintro next z ys M4 hnext ⟨i,dv,rfl,rfl,hil,k4,o4⟩
 dsimp only [aa]
 have hv4:Sl ay M4 v es:=aM.keep hv k4 (by simp)
 rw [aM.len hv4,dX]
 refine aI (fun hlt=>?_) (fun hge=>?_)
 ·have hlt:i<es.length:=of_decide_eq_true hlt
  have n4:=k4.next
  have hfl:=CY hok i
  have hLl:(p++(es.take i).flatMap iF).length≤200000020 + 2000 * 100000:=by rw [List.length_append]; omega
  have hstep:∀ w M',ah [] M M'→mX TB M' M.next w ((p++(es.take i).flatMap iF)++iF es[i])→next [w,N .i64 ((i + 1:Nat) : Int)] M':=fun w M' k o=>by
   refine hnext _ _ _ (by omega) ⟨i + 1,w,rfl,rfl,by omega,k, ?_⟩
   rw [Li hlt]; exact o
  generalize p++(es.take i).flatMap iF=L at *
  obtain ⟨e1,e2,e3,e4,e5,e6⟩:=hok _ (List.getElem_mem hlt)
  have a1:=dK (v:=es[i].1.1.toNat) (by omega)
  have a2:=dK e3
  have a3:=kD (s:=es[i].2.1) (by omega)
  have a4:=kD (s:=es[i].2.2.1) (by omega)
  have a5:=kD (s:=es[i].2.2.2) (by omega)
  obtain ⟨b,o,_,_,hidx,hld⟩:=Sl.at (E:=ay) (i:=i) hv4 5 (i:Int) hlt rfl rfl
  have hlds:∀ {M' : RM},ah [] M M'→Sl ay M' v es:=fun k=>aM.keep hv k (by simp)
  have hcell:∀ {M' : RM} {j:Nat} {x:AV} {K:AV→Prop},ah [] M M'→(ay.cells es[i])[j]?=some x→K x→aj M' (.ptr b (o + j)) K:=fun {M'} {j} {x} {K} k hj hK=>by
   obtain ⟨b',o',_,_,hidx',hld'⟩:=Sl.at (E:=ay) (i:=i) (hlds k) 5 (i:Int) hlt rfl rfl
   have hEq:AV.ptr b o=AV.ptr b' o':=by
    have h1:=hidx .i64 (fun a=>a=AV.ptr b o)
    have h2:=hidx' .i64 (fun a=>a=AV.ptr b o)
    have:(AV.ptr b' o'=AV.ptr b o):=by rw [← h2,h1]
    exact this.symm
   cases hEq
   exact mO hld' hj hK
  rw [hidx,aG,Nat.add_zero,aG]
  refine hcell (j:=0) k4 (x:=N .i64 es[i].1.1) rfl ?_
  rw [eX,dx (by omega) (by omega),hidx,aG,Nat.add_zero,aG]
  refine hcell (j:=1) k4 (x:=N .u64 (es[i].1.2:Int)) rfl ?_
  rw [show es[i].1.1=((es[i].1.1.toNat:Nat) : Int) by omega]
  refine hu es[i].1.1.toNat (by omega) fun r5 M5 o5 k5=>?_
  refine hcell (j:=1) (k4.trans k5) (x:=N .u64 (es[i].1.2:Int)) rfl ⟨rfl, ?_⟩
  have n5:=k5.next
  refine (o4.keep k5).app (by omega) o5.sl (by omega) fun b6 M6 o6 k6 hb6=>?_
  have k06:=(k4.trans k5).bi k6 (fun d hd=>.inl (hb6 d hd))
  refine hcell (j:=1) k06 (x:=N .u64 (es[i].1.2:Int)) rfl ⟨rfl, ?_⟩
  refine nJ hu k06 o6 e3 (by rw [List.length_append]; omega) fun b7 M7 o7 k7 _=>?_
  rw [hidx,aG]
  refine hcell (j:=2) k7 (x:=St es[i].2.1) rfl ?_
  rw [hidx,aG]
  refine hcell (j:=3) k7 (x:=St es[i].2.2.1) rfl ?_
  rw [hidx,aG]
  refine hcell (j:=4) k7 (x:=St es[i].2.2.2) rfl ?_
  have n7:=k7.next
  refine ht (by omega) fun r8 M8 o8 k8=>?_
  have k08:=k7.trans k8
  refine hcell (j:=3) k08 (x:=St es[i].2.2.1) rfl ⟨rfl, ?_⟩
  refine hcell (j:=4) k08 (x:=St es[i].2.2.2) rfl ⟨rfl, ?_⟩
  have n8:=k8.next
  refine (o7.keep k8).app (by omega) o8.sl (by simp only [List.length_append]; omega) fun b9 M9 o9 k9 hb9=>?_
  have k09:=k08.bi k9 (fun d hd=>.inl (hb9 d hd))
  have n9:=k9.next
  refine hcell (j:=3) k09 (x:=St es[i].2.2.1) rfl ⟨rfl, ?_⟩
  refine hcell (j:=4) k09 (x:=St es[i].2.2.2) rfl ⟨rfl, ?_⟩
  refine ht (by omega) fun r10 M10 o10 k10=>?_
  have k010:=k09.trans k10
  have n10:=k10.next
  refine hcell (j:=4) k010 (x:=St es[i].2.2.2) rfl ⟨rfl, ?_⟩
  refine (o9.keep k10).app (by omega) o10.sl (by simp only [List.length_append]; omega) fun b11 M11 o11 k11 hb11=>?_
  have k011:=k010.bi k11 (fun d hd=>.inl (hb11 d hd))
  have n11:=k11.next
  refine hcell (j:=4) k011 (x:=St es[i].2.2.2) rfl ⟨rfl, ?_⟩
  refine ht (by omega) fun r12 M12 o12 k12=>?_
  have k012:=k011.trans k12
  have n12:=k12.next
  refine (o11.keep k12).app (by omega) o12.sl (by simp only [List.length_append]; omega) fun b13 M13 o13 k13 hb13=>?_
  have k013:=k012.bi k13 (fun d hd=>.inl (hb13 d hd))
  rw [add1 (by omega)]
  refine hstep b13 M13 k013 ?_
  rw [show L++iF es[i]=L++bC es[i].1.1.toNat++bC es[i].1.2++gz es[i].2.1++gz es[i].2.2.1++gz es[i].2.2.2 by simp [iF]]
  exact o13
 ·have he:i=es.length:=by
   have:¬ i<es.length:=of_decide_eq_false hge
   omega
  subst he
  rw [List.take_length] at o4
  exact hQ dv M4 o4 k4
end Go.Ab.Crw
set_option maxRecDepth 10000
set_option linter.unusedVariables false
set_option linter.unusedSimpArgs false
namespace Go.Ab.Crw
open Go Go.Ab Go.Ab.aC
theorem LW (l:List aL) (x:aL) : (AZ l x).Perm (x :: l):=by
 unfold AZ
 refine List.perm_middle.trans ?_
 rw [List.take_append_drop]
theorem Y6 {α:Type} {p:α→Bool} (l:List α) : l.take (l.takeWhile p).length=l.takeWhile p:=(List.prefix_iff_eq_take.1 (List.takeWhile_prefix p)).symm
theorem drop_tw {α:Type} {p:α→Bool} (l:List α) : l.drop (l.takeWhile p).length=l.dropWhile p:=by
 have h:=List.takeWhile_append_dropWhile (p:=p) (l:=l)
 have:l.drop (l.takeWhile p).length=(l.takeWhile p++l.dropWhile p).drop (l.takeWhile p).length:=by rw [h]
 rw [this,List.drop_left]
theorem Pj {x:aL} : ∀ {l:List aL},nP l→∀ y∈l.dropWhile (fun z=>fo z x),fo y x=false
 | [],_,y,hy=>by simp at hy
 | z :: r,h,y,hy=>by
   have h:=List.pairwise_cons.1 h
   by_cases hz:fo z x=true
   ·rw [List.dropWhile_cons_of_pos (p:=fun z=>fo z x) hz] at hy
    exact Pj h.2 y hy
   ·rw [List.dropWhile_cons_of_neg (p:=fun z=>fo z x) hz] at hy
    have hz:fo z x=false:=by simpa using hz
    rcases List.mem_cons.1 hy with rfl | hy
    ·exact hz
    ·exact fM.ntrans _ _ _ (h.1 y hy) hz
theorem Ra {α:Type} {p:α→Bool} : ∀ {l:List α},∀ y∈l.takeWhile p,p y=true
 | [],y,hy=>by simp at hy
 | z :: r,y,hy=>by
   by_cases hz:p z=true
   ·rw [List.takeWhile_cons_of_pos hz] at hy
    rcases List.mem_cons.1 hy with rfl | hy
    ·exact hz
    ·exact Ra y hy
   ·rw [List.takeWhile_cons_of_neg hz] at hy
    simp at hy
theorem YC {l:List aL} (h:nP l) (x:aL) : nP (AZ l x):=by
 unfold AZ QR nP
 have h':=h
 rw [← List.takeWhile_append_dropWhile (p:=fun y=>fo y x) (l:=l)] at h'
 unfold nP at h'
 rw [List.pairwise_append] at h'
 rw [Y6,drop_tw,List.pairwise_append]
 refine ⟨h'.1,List.pairwise_cons.2 ⟨Pj h,h'.2.1⟩,fun a ha b hb=>?_⟩
 rcases List.mem_cons.1 hb with rfl | hb
 ·have ha:=Ra a ha
  cases hx:fo b a with
  | false=>rfl
  | true =>
    have:=fM.trans _ _ _ ha hx
    rw [fM.irrefl] at this; cases this
 ·exact h'.2.2 a ha b hb
theorem DC {l:List Ev} {e:Ev} {i:Nat} : ∀ {n:Nat},uI l e i n=true↔e.1.2.1=1∧∀ k<n,∀ f,l[k]?=some f→e.1.1 ∉ f.2∧¬ (k<i∧f.1.1=e.1.1)
 | 0=>by simp [uI]
 | n + 1=>by
   rw [uI,Bool.and_eq_true,DC (n:=n)]
   constructor
   ·rintro ⟨⟨h1,h2⟩,h3⟩
    refine ⟨h1,fun k hk f hf=>?_⟩
    rcases Nat.lt_or_ge k n with h | h
    ·exact h2 k h f hf
    ·have:k=n:=by omega
     subst this
     rw [hf] at h3
     simp only [MB,Bool.and_eq_true,Bool.not_eq_true',decide_eq_false_iff_not,Bool.and_eq_false_iff] at h3
     refine ⟨h3.1,fun hh=>?_⟩
     rcases h3.2 with h4 | h4
     ·exact h4 hh.1
     ·exact h4 hh.2
   ·rintro ⟨h1,h2⟩
    refine ⟨⟨h1,fun k hk f hf=>h2 k (by omega) f hf⟩, ?_⟩
    cases hf:l[n]? with
    | none=>rfl
    | some f =>
      have:=h2 n (by omega) f hf
      simp only [MB,Bool.and_eq_true,Bool.not_eq_true',decide_eq_false_iff_not,Bool.and_eq_false_iff]
      refine ⟨this.1, ?_⟩
      by_cases hh:n<i
      ·exact .inr fun e=>this.2 ⟨hh,e⟩
      ·exact .inl hh
theorem EP (l:List Ev) : ∀ i,nP (nE l i)
 | 0=>.nil
 | i + 1=>by
   rw [nE]
   split
   ·split
    ·exact YC (EP l i) _
    ·exact EP l i
   ·exact EP l i
theorem Gr {l:List Ev} {x:aL} : ∀ {i:Nat},x∈nE l i↔∃ k,∃ h:k<l.length,k<i∧uI l l[k] k l.length=true∧x=fw l[k].1
 | 0=>by simp [nE]
 | i + 1=>by
   have ih:=Gr (l:=l) (x:=x) (i:=i)
   rw [nE]
   cases hf:l[i]? with
   | none =>
     have hi:l.length≤i:=List.getElem?_eq_none_iff.1 hf
     dsimp only
     rw [ih]
     constructor
     ·rintro ⟨k,h,h1,h2⟩; exact ⟨k,h,by omega,h2⟩
     ·rintro ⟨k,h,h1,h2⟩; exact ⟨k,h,by omega,h2⟩
   | some e =>
     obtain ⟨hi,he⟩:=List.getElem?_eq_some_iff.1 hf
     subst he
     dsimp only
     by_cases hl:uI l l[i] i l.length=true
     ·rw [if_pos hl,(LW _ _).mem_iff,List.mem_cons,ih]
      constructor
      ·rintro (h | ⟨k,h,h1,h2⟩)
       ·exact ⟨i,hi,by omega,hl,h⟩
       ·exact ⟨k,h,by omega,h2⟩
      ·rintro ⟨k,h,h1,h2,h3⟩
       rcases Nat.lt_or_ge k i with hk | hk
       ·exact .inr ⟨k,h,hk,h2,h3⟩
       ·have:k=i:=by omega
        subst this; exact .inl h3
     ·rw [if_neg hl,ih]
      constructor
      ·rintro ⟨k,h,h1,h2⟩; exact ⟨k,h,by omega,h2⟩
      ·rintro ⟨k,h,h1,h2⟩
       rcases Nat.lt_or_ge k i with hk | hk
       ·exact ⟨k,h,hk,h2⟩
       ·have:k=i:=by omega
        subst this; exact absurd h2.1 hl
theorem NS {l:List Ev} (h1:l.Pairwise fun x y=>x.1.1≠y.1.1) : ∀ i,(nE l i).Pairwise fun x y=>x.1≠y.1
 | 0=>.nil
 | i + 1=>by
   have ih:=NS h1 i
   rw [nE]
   cases hf:l[i]? with
   | none=>exact ih
   | some e =>
     obtain ⟨hi,he⟩:=List.getElem?_eq_some_iff.1 hf
     subst he
     dsimp only
     split
     ·refine (LW _ _).symm.pairwise (List.pairwise_cons.2 ⟨fun y hy=>?_,ih⟩) (fun {a b} hab e=>hab e.symm)
      obtain ⟨k,h,hk,_,rfl⟩:=Gr.1 hy
      exact fun e=>List.pairwise_iff_getElem.1 h1 k i h hi hk e.symm
     ·exact ih
theorem YQ {l:List Ev} {s:jX} (h:Ch l s) (h1:l.Pairwise fun x y=>x.1.1≠y.1.1) : nE l l.length=s.2 :=
 NZ (EP _ _) h.up (NS h1 _) h.one fun x=>by
  rw [Gr,h.mq]
  constructor
  ·rintro ⟨k,hk,_,hl,rfl⟩
   obtain ⟨g1,g2⟩:=DC.1 hl
   refine ⟨l[k],List.getElem_mem hk,g1,rfl,fun f hf=>?_⟩
   obtain ⟨j,hj,rfl⟩:=List.getElem_of_mem hf
   exact (g2 j hj _ (List.getElem?_eq_getElem hj)).1
  ·rintro ⟨e,he,g1,rfl,g3⟩
   obtain ⟨k,hk,rfl⟩:=List.getElem_of_mem he
   refine ⟨k,hk,hk,DC.2 ⟨g1,fun j hj f hf=>?_⟩,rfl⟩
   obtain ⟨hj',rfl⟩:=List.getElem?_eq_some_iff.1 hf
   exact ⟨g3 _ (List.getElem_mem hj'),fun ⟨hjk,e⟩=>List.pairwise_iff_getElem.1 h1 j k hj' hk hjk e⟩
end Go.Ab.Crw
set_option maxRecDepth 10000
set_option linter.unusedVariables false
set_option linter.unusedSimpArgs false
namespace Go.Ab.Crw
open Go Go.Ab Go.Ab.aC
section
variable {α:Type} {E:Enc α}
theorem QT {x:AV} {y:α} {j:Nat} (hj:j<E.size) : ∀ {xs:List α} {i:Nat} (hi:i<xs.length),E.cells y=(E.cells xs[i]).set j x→(E.row xs).set (i * E.size + j) x=E.row (xs.set i y)
 | [],i,hi,_=>by simp at hi
 | a :: r,0,_,h=>by
   rw [Nat.zero_mul,Nat.zero_add,Enc.iH,List.set_cons_zero,Enc.iH,List.set_append_left _ _ (by rw [E.len]; exact hj),h]; rfl
 | a :: r,i + 1,hi,h=>by
   rw [Enc.iH,List.set_cons_succ,Enc.iH,List.set_append_right _ _ (by rw [E.len,Nat.succ_mul]; omega),E.len,
    show (i + 1) * E.size + j - E.size=i * E.size + j by rw [Nat.succ_mul]; omega,QT hj (by simpa using hi) (by simpa using h)]
theorem LC {M:RM} {base T:Nat} {v:AV} {xs:List α} (ho:Ow E M base T v xs) {i j:Nat} (hi:i<xs.length) (hj:j<E.size) {x:AV} {y:α} (hc:x.cells=[x]) (h1:oneCell x=true) (hy:E.cells y=(E.cells xs[i]).set j x) :
  ∃ b o,base≤b∧b<M.next∧(∀ (kd:IntKind) (K:AV→Prop),ax v (N kd (i:Int)) E.size K=K (.ptr b o))∧∀ K:RM→Prop,(∀ M',Ow E M' base T v (xs.set i y)→ah [b] M M'→K M')→aN M (.ptr b (o + j)) x 1 K:=by
 have hl:=E.ed xs
 have hp:=QT hj hi hy
 have ho' : Own M base T E.size v (E.row xs) xs.length:=ho
 clear hy ho
 generalize hcs:E.row xs=cs at *
 generalize hn:xs.length=n at *
 cases ho' with
 | nil=>omega
 | ex0=>omega
 | op b n cs hb hlt hh hln =>
   have hlt2:i * E.size + j<cs.length:=by
    rw [hln]
    have:(i + 1) * E.size≤n * E.size:=Nat.mul_le_mul_right _ hi
    rw [Nat.succ_mul] at this; omega
   refine ⟨b,i * E.size,hb,hlt,fun kd K=>?_,fun K hK=>?_⟩
   ·rw [lQ]
    apply propext
    constructor
    ·rintro ⟨_,_,h⟩; simpa using h
    ·intro h; exact ⟨by omega,by omega,by simpa using h⟩
   ·rw [fq hh hlt2 hc h1,hp]
    refine hK _ ?_ ((ah.refl [b] M).put _ (.inr (by simp)))
    show Own _ base T E.size _ (E.row (xs.set i y)) (xs.set i y).length
    rw [List.length_set,hn]
    exact .op b n _ hb (by rw [lY]; exact hlt) (aZ _) (by rw [Enc.ed,List.length_set,hn])
end
theorem Ng {e:l7} {ks:List aC} (h:dM e ks=true) : kZ (fw e):=by
 have h0:=h
 simp only [dM,Bool.and_eq_true,names,decide_eq_true_eq] at h
 obtain ⟨⟨⟨⟨h1,⟨⟨h2,h3⟩,h4⟩,h5⟩,_⟩,_⟩,_⟩:=h
 have hd:=qD h1
 refine ⟨hd.1,hd.2.1,by show e.1.2<_; omega, ?_, ?_, ?_⟩ <;> (simp only [fw]; omega)
structure sV (l:List Ev) (ps:List Pt) (es:List aL) : Prop where
 ch:Ch l (ps,es)
 one:l.Pairwise fun x y=>x.1.1≠y.1.1
 good:∀ e∈l,dM e.1 e.2=true
 len:l.length≤60
section
variable {l:List Ev} {ps:List Pt} {es:List aL}
theorem sV.mq (h:sV l ps es) : nE l l.length=es:=YQ h.ch h.one
theorem sV.ab5 (h:sV l ps es) : (bZ l).length≤3900:=by
 have:=Hl h.good
 have:=h.len
 omega
theorem sV.si (h:sV l ps es) : SI (bZ l).length ps:=h.ch.siD (fun d hd=>hd)
theorem sV.few (h:sV l ps es) : es.length≤60:=Nat.le_trans (h.ch.len (m:=l) fun e he=>he) h.len
theorem sV.ok (h:sV l ps es) : ∀ x∈es,kZ x:=fun x hx=>by
 obtain ⟨e,he,_,rfl,_⟩:=(h.ch.mq x).1 hx
 exact Ng (h.good e he)
theorem sV.doc (h:sV l ps es) : nN ps (pG [] (bZ l)):=nN.of h.si (Rz (u:=[]) .nil) fun d=>by
 rw [QZ]
 have:=h.ch.sets d
 constructor
 ·rintro (h | h)
  ·cases h
  ·exact this.2 h
 ·exact fun h=>.inr (this.1 h)
end
def Vu (TS T:Nat) (c:av) : Prop:=∀ {M:RM} {t:Nat} {B:Nat→Prop} {v:AV} {l:List Ev} {S:Nat→Prop} {ps:List Pt} {es:List aL} {Q:ai},kI TS T B M t ps es→fT kW M v l S→(∀ d,S d→d<M.next)→sV l ps es →
 (∀ M',ah [] M M'→Q (Bo true) M')→c [.ptr t 0,v] M Q
theorem QX {TS T TN T9 TD TB:Nat} {cE cS cC cK cq cs ce cz cy cw cx cn cO:av} (hE:yL TN cE) (hS:Gj TS T TN cS) (hC:CF TS T T9 cC) (hK:xe T9 cK) (hq:ug cq) (hs:Ti TS T cs) (he:zq T TB ce) (hz:Hu TD cz) (hy:sG TB cy) (hw:xP TS T TB cw) (hx:Dh TB cx) (hn:HY TS T TN cn) (hO:N7 TN cO) :
  Vu TS T fun args M Q=>∃ a0 a1,args=[a0,a1]∧Pv cE cS cC cK cq cs ce cz cy cw cx cn cO a0 a1 M Q:=by
 intro M t B v l S ps es Q hst hv hSl hI hQ
 refine ⟨_,_,rfl, ?_⟩
 unfold Pv
 simp only [gM,fF,dY,fH,cZ]
 have hks:∀ e∈l,e.2.length≤1000000:=fun e he=>by have:=(oD (hI.good e he)).2.1; omega
 have hil:=hI.len
 have hew:=hI.few
 have hdl:=hI.ab5
 refine hE hv hSl (by omega) hks fun v1 M1 o1 k1=>?_
 rw [hI.mq] at o1
 have n1:=k1.next
 have st1:=hst.keep k1 (by simp) (by simp)
 refine hS st1 (by omega) fun v2 M2 o2 k2=>?_
 have n2:=k2.next
 have st2:=st1.keep k2 (by simp) (by simp)
 refine hC st2 (by omega) fun v3 M3 o3 k3=>?_
 have n3:=k3.next
 have k13:=k2.trans k3
 refine hK (aM.keep o1.eu k13 (by simp)) (by omega) fun v4 M4 o4 k4=>?_
 have n4:=k4.next
 have k14:=k13.trans k4
 refine hq (aM.keep o2.eu (k3.trans k4) (by simp)) (aM.keep o1.eu k14 (by simp)) (by omega) ?_
 rw [decide_eq_true rfl,bO,Bool.not_true]
 have k04:=k1.trans k14
 have o3':=o3.keep k4 (by simp)
 have hdoc:=hI.doc
 have henc:pM (fA (pG [] (bZ l)))=encS ps:=by rw [encS,hdoc.parts]
 have hul:(pG [] (bZ l)).length≤3900:=by
  have:=EQ (u:=[]) (v:=bZ l)
  simp at this; omega
 rw [dO,aM.len o3'.eu,aM.len o4.eu,gD,show ((((iQ es es.length).length:Nat) : Int) != (((iQ es es.length).length:Nat) : Int))=false by simp]
 dsimp only
 rw [bU,dO]
 dsimp only
 rw [dO]
 dsimp only
 rw [dC]
 have st4:=hst.keep k04 (by simp) (by simp)
 refine hs st4 hI.si (by omega) fun a M5 ha set5 k5=>?_
 have n5:=k5.next
 have hwf:∀ p∈ps,Bd p:=fun p hp=>(hI.si.wf p hp).bd
 refine he set5 hwf fun v6 M6 o6 hel k6=>?_
 dsimp only
 have n6:=k6.next
 have k06:=(k04.trans k5).trans k6
 rw [dO,Sl.str (Own.sl o6)]
 dsimp only
 rw [dC]
 refine hz (hv.keep k06 (by simp)) (by omega) (by omega) fun v7 M7 o7 k7=>?_
 dsimp only
 have n7:=k7.next
 have o67:=o6.keep k7 (by simp)
 rw [mV,Sl.str (Own.sl o67)]
 refine ⟨rfl, ?_⟩
 rw [dC]
 refine hy o7.eu hdoc.good (by omega) fun v8 M8 o8 k8=>?_
 dsimp only
 rw [henc] at o8
 have n8:=k8.next
 have o68:=o67.keep k8 (by simp)
 rw [mV,Sl.str (Own.sl o68)]
 refine ⟨rfl, ?_⟩
 rw [dO,Sl.str o8.sl,kK,show (encS ps != encS ps)=false by simp]
 dsimp only
 rw [bU,dO]
 dsimp only
 rw [dO]
 dsimp only
 rw [dO]
 dsimp only
 rw [dC]
 have k08:=(k06.trans k7).trans k8
 have st8:=hst.keep k08 (by simp) (by simp)
 refine hw st8 hwf hI.ok (by omega) fun v9 M9 o9 _ k9=>?_
 dsimp only
 have n9:=k9.next
 rw [dO,Sl.str (Own.sl o9)]
 dsimp only
 rw [dC]
 have k09:=k08.trans k9
 refine hz (hv.keep k09 (by simp)) (by omega) (by omega) fun v10 M10 o10 k10=>?_
 dsimp only
 have n10:=k10.next
 have o910:=o9.keep k10 (by simp)
 rw [mV,Sl.str (Own.sl o910)]
 refine ⟨rfl, ?_⟩
 rw [dC]
 have k1_10:=((((k14.trans k5).trans k6).trans k7).trans k8).trans (k9.trans k10)
 refine hx o10.eu hdoc.good (by omega) (by rw [henc]; exact hel) (aM.keep o1.eu k1_10 (by simp)) hI.ok (by omega) fun v11 M11 o11 k11=>?_
 dsimp only
 rw [henc] at o11
 have n11:=k11.next
 have o911:=o910.keep k11 (by simp)
 rw [mV,Sl.str (Own.sl o911)]
 refine ⟨rfl, ?_⟩
 rw [dO,Sl.str o11.sl,kK,show (vF ps es != gz (encS ps)++bC es.length++es.flatMap iF)=false by simp [vF]]
 dsimp only
 rw [bU,bK]
 have k2_11:ah [] M1 M11:=k13.trans (k4.trans ((k5.trans (k6.trans (k7.trans (k8.trans (k9.trans (k10.trans k11))))))))
 have kk11:ah [] M M11:=k1.trans k2_11
 have o1' : Ow ay M11 M.next TN v1 es:=o1.keep k2_11 (by simp)
 have kx:ah [] M2 M11:=k3.trans (k4.trans ((k5.trans (k6.trans (k7.trans (k8.trans (k9.trans (k10.trans k11))))))))
 have o2':=o2.keep kx (by simp)
 have ky:ah [] M3 M11:=k4.trans ((k5.trans (k6.trans (k7.trans (k8.trans (k9.trans (k10.trans k11)))))))
 have o3'':=o3.keep ky (by simp)
 have kz:ah [] M4 M11:=(k5.trans (k6.trans (k7.trans (k8.trans (k9.trans (k10.trans k11))))))
 have o4':=o4.keep kz (by simp)
 have nn:=kx.next
 have hb1:=o1.blk
 have hb2:=o2.blk
 have hb3:=o3.blk
 have hb4:=o4.blk
 have st11:=hst.keep kk11 (by simp) (by simp)
 have tlt:=hst.lt
 clear k1 k2 k3 k4 k5 k6 k7 k8 k9 k10 k11 k13 k14 k04 k06 k08 k09 k1_10 o1 o2 o3 o4 o6 o7 o8 o9 o10 o11 o67 o68 o910 o911 st1 st2 st4 st8 set5 kx ky kz o3' k2_11
 have hcl:=Bw es es.length
 generalize hcs:iQ es es.length=cs at *
 -- the Pb
 refine aJ (fun z ys M12=>∃ (i:Nat) (cur:List (List UInt8)),z=cs.length - i∧ys=[N .i64 (i:Int)]∧i≤cs.length∧cur.length=cs.length∧(∀ j,i≤j→cur[j]?=cs[j]?)∧ah (aF v3) M11 M12∧Ow sQ M12 M2.next T9 v3 cur) _
  ⟨0,cs,rfl,rfl,Nat.zero_le _,rfl,fun _ _=>rfl,ah.refl _ _,o3''⟩ ?_
 rintro next z ys M12 hnext ⟨i,cur,rfl,rfl,hi,hcur,hsame,k12,o12⟩
 dsimp only [aa]
 rw [aM.len o12.eu,hcur,dX]
 have hoff:∀ d,d<M2.next→d ∉ aF v3:=fun d hd hm=>by have:=(hb3 d hm).1; omega
 have k012:ah [] M M12:=kk11.bi k12 fun d hd=>.inl (by have:=(hb3 d hd).1; omega)
 refine aI (fun hlt=>?_) (fun hge=>?_)
 ·have hlt:i<cs.length:=of_decide_eq_true hlt
  have hci:cur[i]'(by omega)=cs[i]:=by
   have:=hsame i (Nat.le_refl _)
   rw [List.getElem?_eq_getElem (by omega),List.getElem?_eq_getElem hlt] at this
   exact Option.some.inj this
  have s12:Sl sQ M12 v3 cur:=o12.eu
  have s4:Sl sQ M12 v4 cs:=aM.keep o4'.eu k12 (fun d hd hm=>by have:=(hb4 d hd).1; have:=(hb3 d hm).2; omega)
  obtain ⟨b1,p1,_,_,hidx1,hc1⟩:=Sl.qX (E:=sQ) (i:=i) s12 (i:Int) (by omega) rfl rfl
  obtain ⟨b2,p2,_,_,hidx2,hc2⟩:=Sl.qX (E:=sQ) (i:=i) s4 (i:Int) hlt rfl rfl
  rw [hidx1,fu,hc1 (St cs[i]) (by rw [hci]; rfl)]
  refine ⟨_,rfl, ?_⟩
  rw [hidx2,fu,hc2 (St cs[i]) rfl]
  refine ⟨_,rfl, ?_⟩
  rw [kK,show (cs[i] != cs[i])=false by simp,dO]
  dsimp only
  rw [dO,hidx1,fu,hc1 (St cs[i]) (by rw [hci]; rfl)]
  refine ⟨_,rfl, ?_⟩
  dsimp only
  rw [dO]
  dsimp only
  rw [dO,hidx1]
  dsimp only
  rw [dO,fu,hc1 (St cs[i]) (by rw [hci]; rfl)]
  refine ⟨_,rfl, ?_⟩
  dsimp only
  rw [dC]
  have st12:=hst.keep k012 (by simp) (by simp)
  refine hn st12 (by omega) fun v13 M13 o13 k13=>?_
  dsimp only
  have n12:=k012.next
  have n13:=k13.next
  have o12':=o12.keep k13 (by simp)
  have s13:Sl sQ M13 v3 cur:=o12'.eu
  obtain ⟨b3,p3,_,_,hidx3,hc3⟩:=Sl.qX (E:=sQ) (i:=i) s13 (i:Int) (by omega) rfl rfl
  have hEq:AV.ptr b1 p1=AV.ptr b3 p3:=by
   have h1:=hidx1 .i64 (fun a=>a=AV.ptr b1 p1)
   have h2:=hidx3 .i64 (fun a=>a=AV.ptr b1 p1)
   have:(AV.ptr b3 p3=AV.ptr b1 p1):=by rw [← h2,h1]
   exact this.symm
  cases hEq
  rw [mV,fu,hc3 (St cs[i]) (by rw [hci]; rfl)]
  refine ⟨_,rfl,rfl, ?_⟩
  rw [dO]
  have k1113:ah (aF v3) M11 M13:=k12.trans (k13.mono (by simp))
  have s1:Sl ay M13 v1 es:=aM.keep o1'.eu k1113 (fun d hd=>hoff d (by have:=(hb1 d hd).2; omega))
  refine hO s1 (by omega) fun v14 M14 o14 k14=>?_
  have hre:es.filter (uQ cs[i] [])=es.filter fun x=>x.2.1 == cs[i]:=by
   congr 1
   funext x
   simp [uQ]
  rw [hre] at o14
  have hfl:(es.filter fun x=>x.2.1 == cs[i]).length≤es.length:=List.length_filter_le _ _
  refine hq (aM.keep o13.eu k14 (by simp)) o14.eu (by omega) ?_
  rw [decide_eq_true rfl,bO,Bool.not_true]
  dsimp only
  rw [bU,bK]
  have o14':=o12'.keep k14 (by simp)
  obtain ⟨b5,p5,hb5,_,hidx5,hst5⟩:=LC (E:=sQ) (x:=St [115,112,111,105,108,116]) (y:=[115,112,111,105,108,116]) o14' (i:=i) (j:=0) (by omega) (by decide) rfl rfl rfl
  have hidx5:∀ (kd:IntKind) (K:AV→Prop),ax v3 (N kd (i:Int)) 1 K=K (.ptr b5 p5):=hidx5
  rw [hidx5]
  refine hst5 _ fun M15 o15 k15=>?_
  rw [add1 (by omega)]
  have hb5v:b5∈aF v3:=by
   have:=hidx5 .i64 (fun a=>∃ b p,a=AV.ptr b p∧b∈aF v3)
   have h2:∃ b p,AV.ptr b5 p5=AV.ptr b p∧b∈aF v3:=by
    rw [← this]
    obtain ⟨b6,p6,_,hm6,hidx6,_⟩:=Sl.qX (E:=sQ) (i:=i) o14'.eu (i:Int) (by omega) rfl rfl
    rw [hidx6]
    exact ⟨b6,p6,rfl,hm6⟩
   obtain ⟨b,p,e,hm⟩:=h2
   cases e; exact hm
  refine hnext _ _ _ (by omega) ⟨i + 1,cur.set i [115,112,111,105,108,116],rfl,rfl,by omega,by rw [List.length_set]; exact hcur,fun j hj=>?_,(k1113.trans (k14.mono (by simp))).trans (k15.mono (by simp; exact hb5v)),o15⟩
  rw [List.getElem?_set_ne (by omega)]
  exact hsame j (by omega)
 -- the entries
 have o2'':=o2'.keep k12 (fun d hd=>hoff d (hb2 d hd).2)
 refine aJ (fun z ys M13=>∃ (i:Nat) (cur:List aL),z=es.length - i∧ys=[N .i64 (i:Int)]∧i≤es.length∧cur.length=es.length∧ah [] M M13∧Ow ay M13 M1.next TN v2 cur) _
  ⟨0,es,rfl,rfl,Nat.zero_le _,rfl,k012,o2''⟩ ?_
 rintro next2 z ys M13 hnext2 ⟨i,cur,rfl,rfl,hi,hcur,k13,o13⟩
 dsimp only [aa]
 rw [aM.len o13.eu,hcur,dX]
 refine aI (fun hlt=>?_) (fun hge=>?_)
 ·have hlt:i<es.length:=of_decide_eq_true hlt
  obtain ⟨b5,p5,hb5,_,hidx5,hst5⟩:=LC (E:=ay) (x:=St [115,112,111,105,108,116]) (y:=((cur[i]'(by omega)).1,((cur[i]'(by omega)).2.1,((cur[i]'(by omega)).2.2.1,[115,112,111,105,108,116])))) o13 (i:=i) (j:=4) (by omega) (by decide) rfl rfl rfl
  have hidx5:∀ (kd:IntKind) (K:AV→Prop),ax v2 (N kd (i:Int)) 5 K=K (.ptr b5 p5):=hidx5
  rw [hidx5,aG]
  refine hst5 _ fun M15 o15 k15=>?_
  rw [add1 (by omega)]
  exact hnext2 _ _ _ (by omega) ⟨i + 1,_,rfl,rfl,by omega,by rw [List.length_set]; exact hcur,k13.bi k15 (fun d hd=>.inl (by simp at hd; omega)),o15⟩
 ·exact hQ M13 k13
end Go.Ab.Crw
set_option maxRecDepth 10000
set_option linter.unusedVariables false
set_option linter.unusedSimpArgs false
namespace Go.Ab.Crw
open Go Go.Ab Go.Ab.aC
theorem Xw {n m i j:Nat} {back:Bool} (hi:i<n) (hj:j<n) (h:sH n m back i=sH n m back j) : i=j:=by
 have key:(i + m) % n=(j + m) % n:=by
  unfold sH at h
  split at h
  ·have:=Nat.mod_lt (i + m) (show 0<n by omega)
   have:=Nat.mod_lt (j + m) (show 0<n by omega)
   omega
  ·exact h
 have e1:=Nat.div_add_mod (i + m) n
 have e2:=Nat.div_add_mod (j + m) n
 rw [key] at e1
 rcases Nat.lt_trichotomy ((i + m) / n) ((j + m) / n) with hq | hq | hq
 ·have:n * ((i + m) / n + 1)≤n * ((j + m) / n):=Nat.mul_le_mul_left _ hq
  rw [Nat.mul_succ] at this; omega
 ·rw [hq] at e1; omega
 ·have:n * ((j + m) / n + 1)≤n * ((i + m) / n):=Nat.mul_le_mul_left _ hq
  rw [Nat.mul_succ] at this; omega
theorem Xz {n m k:Nat} {back:Bool} (hk:k<n) : ∃ i,i<n∧sH n m back i=k:=by
 have key:∀ k,k<n→∃ i,i<n∧(i + m) % n=k:=fun k hk=>by
  refine ⟨(k + (n - m % n)) % n,Nat.mod_lt _ (by omega), ?_⟩
  have hm:=Nat.mod_lt m (show 0<n by omega)
  rw [Nat.add_mod,Nat.mod_mod,← Nat.add_mod]
  have e:=Nat.div_add_mod m n
  have:k + (n - m % n) + m=k + n * (m / n + 1):=by rw [Nat.mul_succ]; omega
  rw [this,Nat.add_mul_mod_self_left,Nat.mod_eq_of_lt hk]
 unfold sH
 cases back with
 | false=>simpa using key k hk
 | true =>
   obtain ⟨i,hi,h⟩:=key (n - 1 - k) (by omega)
   exact ⟨i,hi,by simp only [if_true]; omega⟩
theorem Od {l:List Ev} {m:Nat} {back:Bool} {e:Ev} : e∈jJ l m back↔e∈l:=by
 constructor
 ·intro h
  obtain ⟨i,hi,rfl⟩:=List.getElem_of_mem h
  rw [nY] at hi
  rw [zC hi]
  exact List.getElem_mem _
 ·intro h
  obtain ⟨k,hk,rfl⟩:=List.getElem_of_mem h
  obtain ⟨i,hi,e⟩:=Xz (m:=m) (back:=back) hk
  have h2:=zC (m:=m) (back:=back) hi
  have:l[k]=(jJ l m back)[i]'(by rw [nY]; exact hi):=by
   rw [h2]; congr 1; exact e.symm
  rw [this]
  exact List.getElem_mem _
theorem Xl {l:List Ev} {m:Nat} {back:Bool} (h:l.Pairwise fun x y=>x.1.1≠y.1.1) : (jJ l m back).Pairwise fun x y=>x.1.1≠y.1.1:=by
 rw [List.pairwise_iff_getElem]
 intro i j hi hj hij
 rw [nY] at hi hj
 rw [zC hi,zC hj]
 have hne:sH l.length m back i≠sH l.length m back j:=fun e=>by have:=Xw hi hj e; omega
 rcases Nat.lt_or_gt_of_ne hne with h1 | h1
 ·exact List.pairwise_iff_getElem.1 h _ _ (qO hi) (qO hj) h1
 ·exact fun e=>List.pairwise_iff_getElem.1 h _ _ (qO hj) (qO hi) h1 e.symm
theorem Ch.Kz {l:List Ev} {m:Nat} {back:Bool} (hg:∀ x∈l,dM x.1 x.2=true) (hd:l.Pairwise fun x y=>x.1.1≠y.1.1) (hl:l.length≤60) : Ch l (ko (jJ l m back)) :=
 (Ch.run (fun x hx=>hg x (Od.1 hx)) (Xl hd) (by rw [nY]; exact hl)).mem fun e=>Od
theorem Nh {l:List Ev} : ∀ {out:List Ev},(∀ x∈l,dM x.1 x.2=true)→(∀ x∈out++l,∀ y∈out++l,x.1.1=y.1.1→x=y)→∀ x,x∈l.foldl iW out↔x∈out∨x∈l:=by
 induction l with
 | nil=>intro out _ _ x; simp
 | cons a l ih =>
   intro out hg hc x
   rw [List.foldl_cons]
   have ha:=hg a (by simp)
   have hstep:∀ y,y∈iW out a↔y∈out∨y=a:=fun y=>by
    unfold iW
    rw [ha]
    split
    ·rw [List.mem_append,List.mem_singleton]
    ·rename_i hh
     simp only [Bool.not_true,Bool.false_or,Bool.not_eq_true',Bool.not_eq_false,List.any_eq_true,decide_eq_true_eq] at hh
     obtain ⟨z,hz,hd⟩:=hh
     have:z=a:=hc z (by simp [hz]) a (by simp) hd
     subst this
     constructor
     ·exact .inl
     ·rintro (h | rfl)
      ·exact h
      ·exact hz
   rw [ih (out:=iW out a) (fun y hy=>hg y (by simp [hy])) (fun y hy z hz e=>?_),hstep,List.mem_cons]
   ·constructor
    ·rintro ((h | h) | h)
     ·exact .inl h
     ·exact .inr (.inl h)
     ·exact .inr (.inr h)
    ·rintro (h | h | h)
     ·exact .inl (.inl h)
     ·exact .inl (.inr h)
     ·exact .inr h
   ·have sub:∀ y,y∈iW out a++l→y∈out++a :: l:=fun y hy=>by
     rcases List.mem_append.1 hy with h | h
     ·rcases (hstep y).1 h with h | rfl <;> simp [h]
     ·simp [h]
    exact hc y (sub y hy) z (sub z hz) e
theorem WC {l:List Ev} (hg:∀ x∈l,dM x.1 x.2=true) (hc:yx l) (x:Ev) : x∈oG l↔x∈l:=by
 rw [oG,Nh (out:=[]) hg hc]; simp
theorem BZ (l:List Ev) : ∀ x∈oG l,dM x.1 x.2=true:=LV l [] (by simp)
theorem yj {v w:Nat} {r s:List UInt8} (_:v<2 ^ 64) (_:w<2 ^ 64) (h:bC v++r=bC w++s) : v=w∧r=s:=qV v w r s h
theorem yw {s t r r' : List UInt8} (hs:s.length<2 ^ 64) (ht:t.length<2 ^ 64) (h:gz s++r=gz t++r') : s=t∧r=r':=by
 unfold gz at h
 rw [List.append_assoc,List.append_assoc] at h
 obtain ⟨e,h⟩:=yj hs ht h
 exact List.append_inj h e
theorem Xf {x y:aL} {r r' : List UInt8} (hx:kZ x) (hy:kZ y) (h:iF x++r=iF y++r') : x=y∧r=r':=by
 obtain ⟨a1,a2,a3,a4,a5,a6⟩:=hx
 obtain ⟨b1,b2,b3,b4,b5,b6⟩:=hy
 simp only [iF,List.append_assoc] at h
 obtain ⟨e1,h⟩:=yj (by omega) (by omega) h
 obtain ⟨e2,h⟩:=yj a3 b3 h
 obtain ⟨e3,h⟩:=yw (by omega) (by omega) h
 obtain ⟨e4,h⟩:=yw (by omega) (by omega) h
 obtain ⟨e5,h⟩:=yw (by omega) (by omega) h
 refine ⟨?_,h⟩
 obtain ⟨⟨d,n⟩,c,f,v⟩:=x
 obtain ⟨⟨d',n'⟩,c',f',v'⟩:=y
 simp only at *
 subst e2 e3 e4 e5
 have:d=d':=by omega
 subst this
 rfl
theorem Ot:∀ {es fs:List aL},es.length=fs.length→(∀ x∈es,kZ x)→(∀ x∈fs,kZ x)→es.flatMap iF=fs.flatMap iF→es=fs
 | [],[],_,_,_,_=>rfl
 | x :: es,y :: fs,hl,h1,h2,h=>by
   rw [List.flatMap_cons,List.flatMap_cons] at h
   obtain ⟨rfl,h'⟩:=Xf (h1 _ (by simp)) (h2 _ (by simp)) h
   rw [Ot (by simpa using hl) (fun z hz=>h1 z (by simp [hz])) (fun z hz=>h2 z (by simp [hz])) h']
theorem Y0 {ps qs:List Pt} {es fs:List aL} (h1:(encS ps).length<2 ^ 64) (h2:(encS qs).length<2 ^ 64) (l1:es.length<2 ^ 64) (l2:fs.length<2 ^ 64) (o1:∀ x∈es,kZ x) (o2:∀ x∈fs,kZ x) (h:vF ps es=vF qs fs) : encS ps=encS qs∧es=fs:=by
 unfold vF at h
 rw [List.append_assoc,List.append_assoc] at h
 obtain ⟨e1,h⟩:=yw h1 h2 h
 obtain ⟨e2,h⟩:=yj l1 l2 h
 exact ⟨e1,Ot e2 o1 o2 h⟩
theorem nN.ex {k:Nat} {ps:List Pt} (h:SI k ps) : nN ps (jN ps 16):=nN.of h (vM h.wf 16) fun d=>xZ h.wf d
theorem P5 {k l:Nat} {ps qs:List Pt} (h1:SI k ps) (h2:SI l qs) (h:∀ d,dB ps d=true↔dB qs d=true) : encS ps=encS qs:=by
 have d1:=nN.ex h1
 have d2:nN qs (jN ps 16):=nN.of h2 (vM h1.wf 16) fun d=>(xZ h1.wf d).trans (h d)
 rw [encS,encS,d1.parts,d2.parts]
theorem RX {k l:Nat} {ps qs:List Pt} {es fs:List aL} (h1:SI k ps) (h2:SI l qs) (e1:(encS ps).length<2 ^ 64) (e2:(encS qs).length<2 ^ 64) (l1:es.length<2 ^ 64) (l2:fs.length<2 ^ 64) (o1:∀ x∈es,kZ x) (o2:∀ x∈fs,kZ x) :
  ((decide (es=fs) && iL ps qs) && iL qs ps)=(vF ps es == vF qs fs):=by
 rw [Bool.eq_iff_iff]
 simp only [Bool.and_eq_true,decide_eq_true_eq,beq_iff_eq]
 constructor
 ·rintro ⟨⟨rfl,h⟩,h'⟩
  have:=P5 h1 h2 fun d=>⟨(uy h1.wf h2.wf).1 h d,(uy h2.wf h1.wf).1 h' d⟩
  rw [vF,vF,this]
 ·intro h
  obtain ⟨he,hf⟩:=Y0 e1 e2 l1 l2 o1 o2 h
  have:=XY h1.len h2.len (fun p hp=>(h1.wf p hp).bd) (fun p hp=>(h2.wf p hp).bd) he
  subst this
  exact ⟨⟨hf,CS _⟩,CS _⟩
end Go.Ab.Crw
