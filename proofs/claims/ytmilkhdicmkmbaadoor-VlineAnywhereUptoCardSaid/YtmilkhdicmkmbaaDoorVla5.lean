/- Part 5 of the ground of the proofs of this seat (texts VlJ8 to R25). By an AI agent. -/
import Derived.Test.YtmilkhdicmkmbaaDoorVla4
set_option maxRecDepth 10000
set_option linter.unusedVariables false
set_option linter.unusedSimpArgs false
namespace Go.Ab.Vl
open Go Go.Ab Go.Ab.Sm
theorem KD {f g:Prop→Prop} {k:Prop} : KT (Bo true) true f g k=f k:=rfl
theorem PQ:((0:Int) == 0)=true:=rfl
theorem Np:((1:Int) == 1)=true:=rfl
theorem LB.mono {N K:Nat} {L:Ln} (h:LB N L) (hk:N≤K) : LB K L :=
 ⟨Nat.le_trans h.g hk,Nat.le_trans h.n hk,Nat.le_trans h.v hk,Nat.le_trans h.ps hk,fun p hp=>Nat.le_trans (h.pn p hp) hk,fun p hp=>Nat.le_trans (h.pl p hp) hk,fun p hp v hv=>Nat.le_trans (h.pv p hp v hv) hk⟩
theorem Pg {M:RM} {v:AV} {x:Ln × Int} {S:Nat→Prop} (h:bT iX M v [x] S) : ∃ cs,iX.rel M cs x S∧∀ K:AV→Prop,(bS v (N .i64 (0:Int)) 5 fun p=>dK M p 5 K)=K (.agg cs):=by
 obtain⟨b,o,cs,hb,hbm,hidx,hld,hrel⟩:=bT.at h 5 (0:Int) (i:=0) (by simp) rfl rfl
 refine⟨cs,hrel,fun K=>?_⟩
 rw[hidx,xA,hld]
 exact propext ⟨fun⟨_,e,hk⟩=>by cases e; exact hk,fun hk=>⟨_,rfl,hk⟩⟩
theorem Fx {TL T TI:Nat} {M:RM} {ca cp cu cr co cs' : ah} (ha:J9 M.base ca) (hp:Gf M.base (wP gL) cp) (hu:tT T TI cu) (hr:OM M.base gL cr) (ho:OL co) (hs:JJ cs')
  {cs:List AV} {L:Ln} {k at_:Int} {tab:Bool} {S:Nat→Prop} {Q:af} (hrel:iX.rel M cs (L,k) S) (hB:LB 1048576 L) (hQ:∀ M',Q (Bo true) M') : iQ TL ca cp cu cr co cs' (.agg cs) (N .i64 at_) (Bo tab) M Q:=by
 have JA:=hrel
 obtain⟨v,rfl,hps⟩:=hrel
 simp only at hps
 unfold iQ
 simp only[fu,Ny,gB]
 rw[lu (iX.one JA) (by simp),bJ]
 have k1:ag [] M (M.push (.row [St L.g,St L.n,v,St L.v,N .i64 k] false TL 0)):=(ag.refl _ _).push _
 have h1:(M.push (.row [St L.g,St L.n,v,St L.v,N .i64 k] false TL 0)).heap M.next=some (.row [St L.g,St L.n,v,St L.v,N .i64 k] false TL 0):=RM.bg _
 have n1:(M.push (.row [St L.g,St L.n,v,St L.v,N .i64 k] false TL 0)).next=M.next + 1:=dL _
 generalize M.push (.row [St L.g,St L.n,v,St L.v,N .i64 k] false TL 0)=M1 at *
 have Rk:bT jV M1 v L.ps S:=hps.keep k1 (by simp)
 refine ha k1.base ?_
 rw[dD,Bool.not_true,kw,bn,aB h1 rfl,dY,show(N .i64 (1000:Int))=N .i64 ((1000:Nat) : Int) from rfl,JE]
 refine Jq (p:=decide (L.ps.length > 5)) (fun _ kk hk=>?_) ?_
 ·rw[bn,aB h1 rfl,Rk.len,show(N .i64 (5:Int))=N .i64 ((5:Nat) : Int) from rfl,JE]; exact hk
 refine dI (fun _=>hQ _) (fun hc=>?_)
 rw[Bool.or_eq_false_iff] at hc
 have hvl:L.v.length≤1000:=by have:=of_decide_eq_false hc.1; omega
 have hpl:L.ps.length≤5:=by have:=of_decide_eq_false hc.2; omega
 have hll:=Mq hB hB.pl hpl
 have hB9:=hB.mono (show 1048576≤1000000000 by decide)
 have hll:(aY L).length≤140737488355328:=by omega
 rw[fV (n:=5) h1 rfl]
 refine hp k1.base (iX.keep JA k1 (by simp)) hB9 hll fun M2 k2=>?_
 have k12:=k1.trans k2
 have h2:=k2.aS h1 (by omega) (by simp)
 rw[kV,kU]
 unfold wP
 cases hg:jL gL L with
 | false =>
   rw[if_neg (by simp)]
   dsimp only
   rw[qz]
   refine dI (fun _=>hQ _) (fun hc=>?_)
   simp at hc
 | true =>
 rw[if_pos rfl]
 by_cases O3:912<(aY L).length
 ·rw[if_pos O3]
  dsimp only
  rw[qz]
  refine dI (fun _=>hQ _) (fun hc=>?_)
  simp at hc
 rw[if_neg O3]
 dsimp only
 rw[Pk,kw]
 have hfo:=MZ (aY L)
 refine hu (by simp only[List.length_append,List.length_cons,List.length_nil]; omega) fun w u M3 ow _ _ k3=>?_
 rw[zR,JY hg] at ow
 have sw:Sl fU M3 w [aY L]:=Own.Du ow
 have k13:=k12.trans k3
 have h3:=k3.aS h2 (by have:=k2.next; omega) (by simp)
 have sat:∀ {M' : RM},ag [] M3 M'→∀ K:AV→Prop,(bS w (N .i64 (0:Int)) 1 fun p=>az M' p K)=K (St (aY L)):=fun k' K=>FN (dQ.keep sw k' (by simp)) (i:=0) (by simp)
 rw[kV,kU,dQ.len sw,show(([aY L] : List (List UInt8)).length:Int)=1 from rfl,Pk]
 refine Jq (p:=decide (at_<1)) (fun _ kk hk=>by rw[nz]; exact hk) ?_
 rw[Bool.false_or]
 refine Jq (p:=decide (at_ ≥ ((aY L).length:Int))) (fun _ kk hk=>by rw[sat (ag.refl _ _),dY,gJ]; exact hk) ?_
 refine dI (fun _=>?_) (fun hc=>?_)
 ·rw[dQ.len sw,show(([aY L] : List (List UInt8)).length:Int)=1 from rfl,nk,Np]
  exact hQ _
 rw[Bool.or_eq_false_iff] at hc
 have ha1:=of_decide_eq_false hc.1
 have ha2:=of_decide_eq_false hc.2
 obtain⟨n,rfl⟩:=Int.eq_ofNat_of_zero_le (show 0≤at_ by omega)
 have hn1:1≤n:=by omega
 have hn2:n<(aY L).length:=by omega
 refine gz (fun ys M'=>ys=[St (if tab then[10,9] else[13,10,32])]∧M'=M3) ?_ ?_
 rotate_left
 ·intro J hJ
  refine dI (fun h=>?_) (fun h=>?_)
  ·subst h; exact hJ _ _ ⟨rfl,rfl⟩
  ·subst h; exact hJ _ _ ⟨rfl,rfl⟩
 rintro _ M4 ⟨rfl,rfl⟩
 dsimp only[aj]
 have hsl:(if tab=true then([10,9] : List UInt8) else[13,10,32]).length≤3:=by cases tab <;> simp
 have htl:((aY L).take n).length≤912:=by rw[List.length_take]; omega
 have hdl:((aY L).drop n).length≤912:=by rw[List.length_drop]; omega
 have e63:aN (St (aY L)) none (some (N .i64 (n:Int)))=some (St ((aY L).take n)):=iY (by omega) .i64
 have e70:aN (St (aY L)) (some (N .i64 (n:Int))) none=some (St ((aY L).drop n)):=bQ (by omega) .i64
 rw[sat (ag.refl _ _)]
 show cK (aN (St (aY L)) none (some (N .i64 (n:Int)))) _
 rw[e63,ja,gN]
 refine⟨by omega, ?_⟩
 rw[sat (ag.refl _ _)]
 show cK (aN (St (aY L)) (some (N .i64 (n:Int))) none) _
 rw[e70,ja,gN]
 refine⟨by simp only[List.length_append]; omega, ?_⟩
 rw[gN]
 refine⟨by simp only[List.length_append,List.length_cons,List.length_nil]; omega, ?_⟩
 obtain⟨k',hrd⟩:=Ox hg (by omega) hn1 hn2 tab
 refine hr k13.base (by simp only[List.length_append,List.length_cons,List.length_nil]; omega) fun z M5 k5 hw _ _=>?_
 rw[hrd] at hw ⊢
 dsimp only at hw ⊢
 have k15:=k13.trans k5
 have h5:=k5.aS h3 (by have:=k2.next; have:=k3.next; omega) (by simp)
 rw[kV,kU,Ep,nk,PQ]
 simp only[D5]
 rw[hw.len,show(([(L,k')] : List (Ln × Int)).length:Int)=1 from rfl,nk,Np,fH]
 simp only[D5,wH,KD]
 obtain⟨cs6,Pw,hix⟩:=Pg hw
 rw[hix,fV (n:=5) h5 rfl]
 refine ho Pw (by omega) fun cs7 M7 k7 Qa=>?_
 have h7:=k7.aS h5 (by have:=k2.next; have:=k3.next; have:=k5.next; omega) (by simp)
 rw[fV (n:=5) h7 rfl]
 refine⟨rfl, ?_⟩
 refine ho (iX.keep JA (k15.trans k7) (by simp)) (by omega) fun cs8 M8 k8 PG=>?_
 refine hs (iX.keep Qa k8 (by simp)) PG (by omega) (fun p hp=>by have:=hB9.pl p hp; omega) fun M9 k9=>?_
 rw[fH,decide_eq_true rfl]
 exact hQ M9
end Go.Ab.Vl
namespace Go.Ab
open Go Go.RowKit
inductive bz (B:Nat) (P:Program) (M:RM) : TypeId→List AV→Prop
 | bool (t:TypeId) (b:Bool) : P.underlying t=some .bool→bz B P M t [Bo b]
 | int (t:TypeId) (k:IntKind) (n:Int) : P.underlying t=some (.int k)→k.min≤n→n≤k.max→bz B P M t [N k n]
 | str (t:TypeId) (s:List UInt8) : P.underlying t=some .string→s.length≤B→bz B P M t [St s]
 | MC (t e:TypeId) : P.underlying t=some (.slice e)→bz B P M t [aR]
 | emp (t e:TypeId) (b:Nat) : P.underlying t=some (.slice e)→bz B P M t [.emp b]
 | slc (t e:TypeId) (b o n c:Nat) (cs:List AV) : P.underlying t=some (.slice e)→b<M.next→n≤c→n≤B→M.loads b o (n * P.cellsOf e)=some cs →
   (∀ i,i<n→bz B P M e ((cs.drop (i * P.cellsOf e)).take (P.cellsOf e)))→bz B P M t [.slc b o n (.ex c)]
 | struct (t:TypeId) (fs:Array Field) (cs:List AV) : P.underlying t=some (.struct fs)→cs.length=P.cellsOf t →
   (∀ (i:Nat) (f:Field),fs[i]?=some f→bz B P M f.type ((cs.drop f.offset).take (P.cellsOf f.type)))→bz B P M t cs
 | array (t e:TypeId) (n:Nat) (cs:List AV) : P.underlying t=some (.array n e)→cs.length=P.cellsOf t →
   (∀ i,i<n→bz B P M e ((cs.drop (i * P.cellsOf e)).take (P.cellsOf e)))→bz B P M t cs
 | other (t:TypeId) (cs:List AV) : pO (P.underlying t)=true→bz B P M t cs
 | zero (t e:TypeId) (cs:List AV) : P.underlying t=some (.slice e)→P.cellsOf e=0→bz B P M t cs
section
variable {H:Type} {enc:TypeId × Value→H} {P:Program} {base:Base} {w:World}
variable {bulk:DataW H→Nat} {B:Nat}
structure Fg (bulk:DataW H→Nat) : Prop where
 str:∀ bs:List UInt8,bs.length≤bulk (.lit (.string bs))
 len:∀ es sp:List (DataW H),es.length≤bulk (.slice es sp)
 elem:∀ (es sp:List (DataW H)) d,d∈es→bulk d≤bulk (.slice es sp)
 spare:∀ (es sp:List (DataW H)) d,d∈sp→bulk d≤bulk (.slice es sp)
 agg:∀ (ps:List (DataW H)) d,d∈ps→bulk d≤bulk (.agg ps)
theorem D9 (hB:Fg bulk) (hn:base.n=w.heap.size) {held:Bool} : ∀ (fuel:Nat) (t:TypeId) (cs:List Value) (x:DataW H × List MemPlace),DataW.trod enc P w 0 (fun _=>true) held fuel t cs=some x →
  bulk x.1≤B→bz B P (RM.old base w) t (cs.map (lq base.n)):=by
 intro fuel
 induction fuel with
 | zero=>intro t cs x h; simp[DataW.trod] at h
 | succ m ih =>
   intro t cs x h hw
   cases hu:P.underlying t with
   | none=>exact .other _ _ (by rw[hu]; rfl)
   | some d =>
     cases d with
     | bool =>
       obtain⟨b,rfl,rfl⟩:=DataW.trod_bool hu h
       exact .bool t b hu
     | int k =>
       obtain⟨n,rfl,rfl,hwf⟩:=DataW.trod_int hu h
       simp only[Lit.wf,Bool.and_eq_true,decide_eq_true_eq] at hwf
       exact .int t k n hu hwf.1 hwf.2
     | string =>
       obtain⟨s,rfl,rfl,_⟩:=DataW.trod_string hu h
       exact .str t s.data.toList hu (Nat.le_trans (hB.str _) hw)
     | slice e =>
       rcases DataW.trod_slice hu h with⟨rfl,rfl⟩ | ⟨a,len,cap,elems,rest,n,hm,rfl,rfl,_,hlc,_,hel,hget,hrest,_⟩
       ·exact .MC t e hu
       ·cases hm
        rcases Nat.eq_zero_or_pos (P.cellsOf e) with hz | hz
        ·exact .zero t e _ hu hz
        rcases Nat.eq_zero_or_pos cap with hc | hc
        ·have hl0:len=0:=by omega
         subst hc hl0
         exact .emp t e 0 hu
        ·obtain⟨hr1,hr2⟩:=hrest rfl
         have every:∀ i,i<cap→∃ es y,w.cells? 0 (a.add (i * P.cellsOf e)) (P.cellsOf e)=some es∧DataW.trod enc P w 0 (fun _=>true) held m e es=some y∧(y∈elems∨y∈rest):=by
          intro i hi
          by_cases hil:i<len
          ·have h1:=hget i hil
           have h2:elems[i]?=some (elems[i]'(by omega)):=by simp[hel,hil]
           rw[h2] at h1
           obtain⟨es,e1,e2⟩:=Option.bind_eq_some_iff.1 h1
           exact⟨es,_,e1,e2,.inl (List.getElem_mem _)⟩
          ·have h1:=hr2 (i - len) (by omega)
           rw[show len + (i - len)=i by omega] at h1
           have h2:rest[i - len]?=some (rest[i - len]'(by omega)):=by
            rw[List.getElem?_eq_getElem]
           rw[h2] at h1
           obtain⟨es,e1,e2⟩:=Option.bind_eq_some_iff.1 h1
           exact⟨es,_,e1,e2,.inr (List.getElem_mem _)⟩
         obtain⟨es0,_,k0,_,_⟩:=every 0 hc
         obtain⟨kl0,kg0⟩:=oI k0
         have hc0:=kg0 0 hz
         rw[List.getElem?_eq_getElem (by omega)] at hc0
         obtain⟨c,el,fr,hh,hsp,_,_⟩:=cell?_at hc0
         obtain⟨b,o,sp⟩:=a
         rw[Nat.zero_mul,u6,u6] at hh hsp
         simp only at hh hsp
         subst hsp
         have hblt:b<base.n:=by rw[hn]; exact(Array.getElem?_eq_some_iff.1 hh).1
         have hlast:o + cap * P.cellsOf e≤c.size:=by
          obtain⟨es1,_,k1,_,_⟩:=every (cap - 1) (by omega)
          obtain⟨kl1,kg1⟩:=oI k1
          have hc1:=kg1 (P.cellsOf e - 1) (by omega)
          rw[List.getElem?_eq_getElem (by omega)] at hc1
          obtain⟨c',el',fr',hh',_,hlt,_⟩:=cell?_at hc1
          rw[bW,bW] at hh' hlt
          simp only at hh' hlt
          rw[hh] at hh'
          cases hh'
          have:cap * P.cellsOf e=(cap - 1) * P.cellsOf e + P.cellsOf e:=by
           rw[← Nat.succ_mul]; congr 1; omega
          omega
         have QY:lq base.n (.slice (some ⟨b,o,none⟩) len cap)=.slc b o len (.ex cap):=by
          obtain⟨cap,rfl⟩ : ∃ k,cap=k + 1:=⟨cap - 1,by omega⟩
          simp only[lq,if_pos hblt]
         have hcells:=RM.Kw hblt hh
         have hle:len * P.cellsOf e≤cap * P.cellsOf e:=Nat.mul_le_mul_right _ hlc
         have hload:(RM.old base w).loads b o (len * P.cellsOf e)=some (((c.toList.map (lq base.n)).drop o).take (len * P.cellsOf e)):=by
          simp only[RM.loads,hcells]
          rw[if_pos (by simp; omega)]
         simp only[List.map_cons,List.map_nil,QY]
         refine .slc t e b o len cap _ hu hblt hlc ?_ hload fun i hi=>?_
         ·have:=hB.len (elems.map (·.1)) (rest.map (·.1))
          rw[List.length_map,hel] at this
          exact Nat.le_trans this hw
         ·obtain⟨es,y,k1,k2,k3⟩:=every i (by omega)
          have hlen:=(oI k1).1
          have hes:((((c.toList.map (lq base.n)).drop o).take (len * P.cellsOf e)).drop (i * P.cellsOf e)).take (P.cellsOf e)=es.map (lq base.n):=by
           have hii:i * P.cellsOf e + P.cellsOf e≤len * P.cellsOf e:=by rw[← Nat.succ_mul]; exact Nat.mul_le_mul_right _ hi
           apply List.ext_getElem?
           intro j
           by_cases hj:j<P.cellsOf e
           ·have hg:=(oI k1).2 j hj
            rw[List.getElem?_take,if_pos hj,List.getElem?_drop,List.getElem?_take,if_pos (by omega),List.getElem?_drop,List.getElem?_map,List.getElem?_map,← hg]
            rw[bW,bW]
            simp only[World.cell?,hh]
            rw[Array.getElem?_toList]
            simp[Nat.add_assoc]
           ·rw[List.getElem?_eq_none (by simp; omega),List.getElem?_eq_none (by simp; omega)]
          rw[hes]
          refine ih e es y k2 (Nat.le_trans ?_ hw)
          rcases k3 with k3 | k3
          ·exact hB.elem _ _ _ (List.mem_map_of_mem k3)
          ·exact hB.spare _ _ _ (List.mem_map_of_mem k3)
     | struct fs =>
       obtain⟨xs,n,hm,rfl,hl,hxl,hget⟩:=DataW.trod_struct hu h
       cases hm
       refine .struct t fs _ hu (by simpa using hl) fun i f hf=>?_
       have h1:=hget i f hf
       have hi:i<fs.size:=(Array.getElem?_eq_some_iff.1 hf).1
       rw[List.getElem?_eq_getElem (by omega)] at h1
       rw[← List.map_drop,← List.map_take]
       exact ih _ _ _ h1 (Nat.le_trans (hB.agg _ _ (List.mem_map_of_mem (List.getElem_mem _))) hw)
     | array n e =>
       obtain⟨xs,m',hm,rfl,hl,hxl,hget⟩:=DataW.trod_array hu h
       cases hm
       refine .array t e n _ hu (by simpa using hl) fun i hi=>?_
       have h1:=hget i hi
       rw[List.getElem?_eq_getElem (by omega)] at h1
       rw[← List.map_drop,← List.map_take]
       exact ih _ _ _ h1 (Nat.le_trans (hB.agg _ _ (List.mem_map_of_mem (List.getElem_mem _))) hw)
     | _=>exact .other _ _ (by rw[hu]; rfl)
end
section
variable {P:Program} {M:RM} {t:TypeId} {cs:List AV} {B:Nat}
theorem bz.MN (h:bz B P M t cs) (hu:P.underlying t=some .bool) : ∃ b,cs=[Bo b]:=by
 cases h <;> simp_all [pO]
theorem bz.Hq (h:bz B P M t cs) {k:IntKind} (hu:P.underlying t=some (.int k)) : ∃ n:Int,cs=[N k n]∧k.min≤n∧n≤k.max:=by
 cases h with
 | int _ k' n h1 h2 h3=>rw[hu] at h1; cases h1; exact⟨n,rfl,h2,h3⟩
 | _=>simp_all [pO]
theorem bz.sK (h:bz B P M t cs) (hu:P.underlying t=some .string) : ∃ s,cs=[St s]∧s.length≤B:=by
 cases h with
 | str _ s h1 h2=>exact⟨s,rfl,h2⟩
 | _=>simp_all [pO]
theorem bz.Cq (h:bz B P M t cs) {fs:Array Field} (hu:P.underlying t=some (.struct fs)) : cs.length=P.cellsOf t∧∀ (i:Nat) (f:Field),fs[i]?=some f→bz B P M f.type ((cs.drop f.offset).take (P.cellsOf f.type)):=by
 cases h with
 | struct _ fs' _ h1 h2 h3=>rw[hu] at h1; cases h1; exact⟨h2,h3⟩
 | _=>simp_all [pO]
def Q3:AV→Prop
 | .slc _ _ n (.ex c)=>n≤c
 | .slc _ _ _ (.op e)=>e=1
 | _=>True
theorem bz.DY (h:bz B P M t cs) {e:TypeId} (hu:P.underlying t=some (.slice e)) (hz:0<P.cellsOf e) :
  ∃ v n ds,cs=[v]∧dQ M (P.cellsOf e) v ds n∧n≤B∧Q3 v∧∀ i,i<n→bz B P M e ((ds.drop (i * P.cellsOf e)).take (P.cellsOf e)):=by
 cases h with
 | MC _ e' h1=>exact⟨_,0,[],rfl,.nil,Nat.zero_le _,trivial,fun i hi=>absurd hi (by omega)⟩
 | emp _ e' b h1=>exact⟨_,0,[],rfl,.emp b,Nat.zero_le _,trivial,fun i hi=>absurd hi (by omega)⟩
 | slc _ e' b o n c ds h1 h2 h3 h4 h5 h6 =>
   rw[hu] at h1; cases h1
   exact⟨_,n,ds,rfl,.slc b o n _ ds h2 h5,h4,h3,h6⟩
 | zero _ e' _ h1 h2=>rw[hu] at h1; cases h1; omega
 | _=>simp_all [pO]
end
def jZ (B:Nat) (P:Program) (M:RM) (t:TypeId) (v:AV) : Prop :=
 match ui P t with
 | true=>∃ cs,v=.agg cs∧bz B P M t cs
 | false=>bz B P M t [v]
theorem jZ.agg {B:Nat} {P:Program} {M:RM} {t:TypeId} {v:AV} (h:jZ B P M t v) (ha:ui P t=true) : ∃ cs,v=.agg cs∧bz B P M t cs:=by
 unfold jZ at h; rw[ha] at h; exact h
theorem jZ.one {B:Nat} {P:Program} {M:RM} {t:TypeId} {v:AV} (h:jZ B P M t v) (ha:ui P t=false) : bz B P M t [v]:=by
 unfold jZ at h; rw[ha] at h; exact h
section
variable {H:Type} {enc:TypeId × Value→H} {P:Program} {base:Base} {w:World} {bulk:DataW H→Nat} {B:Nat}
theorem wM (hB:Fg bulk) (hn:base.n=w.heap.size) {r:Reach} {b:Nat} {held:Bool} {t:TypeId} {v:Value} {d:DataW H} {ps:List MemPlace} (hv:Value.okWide P w r b t v) (h:DataW.Trod enc P w 0 (fun _=>true) held t v d ps)
  (hw:bulk d≤B) : jZ B P (RM.old base w) t (nV base.n v):=by
 obtain⟨fuel,hf⟩:=h
 have hfit:=D9 hB hn fuel t _ _ hf hw
 unfold jZ
 cases ha:ui P t with
 | true =>
   have:∃ cs,v=.agg cs:=by
    unfold Value.okWide at hv
    unfold ui at ha
    split at hv
    ·obtain⟨cs,h,_⟩:=hv; exact⟨cs,h⟩
    ·obtain⟨cs,h,_⟩:=hv; exact⟨cs,h⟩
    ·split at ha <;> simp_all
   obtain⟨cs,rfl⟩:=this
   exact⟨_,rfl,hfit⟩
 | false =>
   have hc:Cell.okWide P w r b t v:=by
    unfold Value.okWide at hv
    unfold ui at ha
    split at hv
    ·simp_all
    ·simp_all
    ·exact hv
   have:v.cells.toList=[v]∧nV base.n v=lq base.n v:=by
    cases v with
    | agg cs=>exact(Fp hc).elim
    | _=>exact⟨rfl,rfl⟩
   rw[this.1] at hfit
   rw[this.2]
   exact hfit
end
end Go.Ab
