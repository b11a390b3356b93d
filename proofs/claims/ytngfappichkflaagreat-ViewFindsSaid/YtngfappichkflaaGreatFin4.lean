/- Part 4 of the ground of the proofs of this seat (texts R13 to Q5). By an AI agent. -/
import Derived.Test.YtngfappichkflaaGreatFin3
import Derived.ChangeShapes
import Derived.OpenShut
import Derived.WideKeyArgs
import GoSem.ClaimJoined
import Derived.Sort.AssemblyPlain
import Derived.KernelRfl
set_option linter.unusedVariables false
set_option linter.unusedSimpArgs false
namespace Go.Ab
open Go Go.RowKit
def RM.old (base:Base) (w:World) : RM where
 next:=base.n
 heap:=fun b=>if b<base.n then(match w.heap[b]? with | some (.cells c _ _)=>some (.ro c) | _=>none) else none
 base:=base
def RA (n:Nat) : Ren:=fun b=>if b<n then some ⟨b,0,0,0⟩ else none
theorem ZQ {P:Program} {base:Base} {w:World} (hn:base.n=w.heap.size) (hi:base.inv w) : dw P (RA base.n) (RM.old base w) w:=by
 refine⟨{ next:=base.n,heap:=.leaf },rfl,⟨fun b i h=>?_,fun b i x _ h=>by simp[Tree.get] at h,fun b _ i _ x _ _ _ h=>by simp[Tree.get] at h,fun b x h=>by simp[Tree.get] at h,fun b i x _ h=>by simp[Tree.get] at h,hi⟩,by simp[RM.old,RM.lo,hn],fun b x h=>.inr ?_,fun c hc=>by have hc' : c<base.n:=hc; simp only[RA]; rw[if_pos hc']⟩
 ·simp only[RA] at h
  split at h <;> first | (cases h; done) | skip
  cases h
  exact⟨by assumption,by rw[← hn]; assumption⟩
 ·simp only[RM.old] at h
  split at h <;> first | (cases h; done) | skip
  rename_i hlt
  split at h <;> first | (cases h; done) | skip
  rename_i c el fr hh
  cases h
  exact⟨c,rfl,hlt,el,fr,hh⟩
theorem RM.YU {base:Base} {w:World} {b:Nat} {c:Array Value} {el:TypeId} {fr:_} (hb:b<base.n) (h:w.heap[b]?=some (.cells c el fr)) : (RM.old base w).cells b=some (c.toList.map (qV base.n)):=by
 simp only[RM.cells,RM.old,if_pos hb,h]
def vk (lo:Nat) : Value→AV
 | .agg cs=>.agg (cs.toList.map (qV lo))
 | v=>qV lo v
theorem TG {ρ:Ren} {lo:Nat} (h:∀ c,c<lo→ρ c=some ⟨c,0,0,0⟩) : ∀ (vs:List Value),aW ρ (vs.map (qV lo)) vs
 | []=>.nil
 | v :: vs=>.cons _ _ _ _ (Iu h v) (TG h vs)
theorem acz {ρ:Ren} {lo:Nat} (h:∀ c,c<lo→ρ c=some ⟨c,0,0,0⟩) (v:Value) : ak ρ (vk lo v) v:=by
 unfold vk
 split
 ·exact .agg _ _ (TG h _)
 ·exact Iu h v
theorem OD {ρ:Ren} {lo:Nat} (h:∀ c,c<lo→ρ c=some ⟨c,0,0,0⟩) : ∀ (vs:List Value),aW ρ (vs.map (vk lo)) vs
 | []=>.nil
 | v :: vs=>.cons _ _ _ _ (acz h v) (OD h vs)
theorem fQ.close {P:Program} {f:FuncId} {base:Base} {w:World} {us:Array Value} (hn:base.n=w.heap.size) (hi:base.inv w)
  (h:fQ P f (us.toList.map (vk base.n)) (RM.old base w) fun v _=>v=Bo true) :
  Calls P f us w fun e w'=>e=.returned (.bool true)∧Below w.heap.size w w':=by
 have hr:=ZQ (P:=P) hn hi
 refine((h.2 (RA base.n) w us.toList (OD (fun c hc=>by simp only[RA]; rw[if_pos hc]) _) hr)).mono fun e w' hR=>?_
 obtain⟨v',v,M',ρ',rfl,k1,k2,rfl⟩:=hR
 obtain⟨rfl,_⟩:=aQ k2
 refine⟨rfl,k1.step.os,k1.step.tape,k1.step.output,k1.step.size,fun k hk=>k1.step.low k ?_⟩
 show k<base.n
 rw[hn]; exact hk
def FO:Option TypeDesc→Bool
 | some .bool | some (.int _) | some .string | some (.slice _) | some (.struct _) | some (.array _ _)=>false
 | _=>true
inductive Fits (P:Program) (M:RM) : TypeId→List AV→Prop
 | bool (t:TypeId) (b:Bool) : P.underlying t=some .bool→Fits P M t [Bo b]
 | int (t:TypeId) (k:IntKind) (n:Int) : P.underlying t=some (.int k)→k.min≤n→n≤k.max→Fits P M t [N k n]
 | str (t:TypeId) (s:List UInt8) : P.underlying t=some .string→s.length≤reachBytes→Fits P M t [St s]
 | af6 (t e:TypeId) : P.underlying t=some (.slice e)→Fits P M t [bO]
 | emp (t e:TypeId) (b:Nat) : P.underlying t=some (.slice e)→Fits P M t [.emp b]
 | slc (t e:TypeId) (b o n c:Nat) (cs:List AV) : P.underlying t=some (.slice e)→b<M.next→n≤c→c * P.bytesOf e≤reachBytes→M.loads b o (n * P.cellsOf e)=some cs →
   (∀ i,i<n→Fits P M e ((cs.drop (i * P.cellsOf e)).take (P.cellsOf e)))→Fits P M t [.slc b o n (.ex c)]
 | struct (t:TypeId) (fs:Array Field) (cs:List AV) : P.underlying t=some (.struct fs)→cs.length=P.cellsOf t →
   (∀ (i:Nat) (f:Field),fs[i]?=some f→Fits P M f.type ((cs.drop f.offset).take (P.cellsOf f.type)))→Fits P M t cs
 | array (t e:TypeId) (n:Nat) (cs:List AV) : P.underlying t=some (.array n e)→cs.length=P.cellsOf t →
   (∀ i,i<n→Fits P M e ((cs.drop (i * P.cellsOf e)).take (P.cellsOf e)))→Fits P M t cs
 | other (t:TypeId) (cs:List AV) : FO (P.underlying t)=true→Fits P M t cs
 | zero (t e:TypeId) (cs:List AV) : P.underlying t=some (.slice e)→P.cellsOf e=0→Fits P M t cs
theorem Eo (a:Addr) : a.add 0=a:=by simp[Addr.add]
theorem xz {w:World} {base:Nat} {a:Addr} {n:Nat} {cs:List Value} (h:w.cells? base a n=some cs) : cs.length=n∧∀ i,i<n→w.cell? (a.add i)=cs[i]?:=by
 unfold World.cells? at h
 split at h
 ·exact⟨by simpa using mapM_some_length h,fun i hi=>mapM_some_get h i i (by simp[hi])⟩
 ·cases h
theorem cell?_at {w:World} {a:Addr} {v:Value} (h:w.cell? a=some v) : ∃ c el fr,w.heap[a.block]?=some (.cells c el fr)∧a.spot=none∧a.off<c.size∧c[a.off]?=some v:=by
 unfold World.cell? at h
 split at h
 ·rename_i c el fr hh
  split at h
  ·cases h
  ·rename_i hs
   exact⟨c,el,fr,hh,by simpa using hs,(Array.getElem?_eq_some_iff.1 h).1,h⟩
 ·cases h
section
variable {H:Type} {enc:TypeId × Value→H} {P:Program} {base:Base} {w:World}
theorem vg {e:TypeId} {ds:List (DataW H)} {d:DataW H} (hd:d∈ds) {x:Nat} (hx:x∈d.weights P e) : x∈DataW.weightsAll P e ds:=by
 induction ds with
 | nil=>cases hd
 | cons y ys ih =>
   simp only[DataW.weightsAll,List.mem_append]
   rcases List.mem_cons.1 hd with rfl | hd
   ·exact .inl hx
   ·exact .inr (ih hd)
theorem zq {x:Nat} : ∀ (ts:List TypeId) (ds:List (DataW H)) (i:Nat) (t:TypeId) (d:DataW H),ts[i]?=some t→ds[i]?=some d→x∈d.weights P t→x∈DataW.weightsEach P ts ds
 | [],_,_,_,_,h,_,_=>by simp at h
 | _ :: _,[],_,_,_,_,h,_=>by simp at h
 | t :: ts,d :: ds,0,t',d',h,h',hx=>by
   simp at h h'; subst h h'
   simp only[DataW.weightsEach,List.mem_append]; exact .inl hx
 | t :: ts,d :: ds,i + 1,t',d',h,h',hx=>by
   simp only[DataW.weightsEach,List.mem_append]
   exact .inr (zq ts ds i t' d' (by simpa using h) (by simpa using h') hx)
theorem P5 (hn:base.n=w.heap.size) {held:Bool} : ∀ (fuel:Nat) (t:TypeId) (cs:List Value) (x:DataW H × List MemPlace),DataW.trod enc P w 0 (fun _=>true) held fuel t cs=some x →
  (∀ y∈x.1.weights P t,y≤reachBytes)→Fits P (RM.old base w) t (cs.map (qV base.n)):=by
 intro fuel
 induction fuel with
 | zero=>intro t cs x h; simp[DataW.trod] at h
 | succ m ih =>
   intro t cs x h hw
   cases hu:P.underlying t with
   | none=>exact .other _ _ (by rw[hu]; rfl)
   | some d =>
     cases d with
     | bool =>
       obtain⟨b,rfl,rfl⟩:=DataW.trod_bool hu h
       exact .bool t b hu
     | int k =>
       obtain⟨n,rfl,rfl,hwf⟩:=DataW.trod_int hu h
       simp only[Lit.wf,Bool.and_eq_true,decide_eq_true_eq] at hwf
       exact .int t k n hu hwf.1 hwf.2
     | string =>
       obtain⟨s,rfl,rfl,_⟩:=DataW.trod_string hu h
       exact .str t s.data.toList hu (hw _ (by simp[DataW.weights]))
     | slice e =>
       rcases DataW.trod_slice hu h with⟨rfl,rfl⟩ | ⟨a,len,cap,elems,rest,n,hm,rfl,rfl,_,hlc,_,hel,hget,hrest,_⟩
       ·exact .af6 t e hu
       ·cases hm
        rcases Nat.eq_zero_or_pos (P.cellsOf e) with hz | hz
        ·exact .zero t e _ hu hz
        rcases Nat.eq_zero_or_pos cap with hc | hc
        ·have hl0:len=0:=by omega
         subst hc hl0
         exact .emp t e 0 hu
        ·obtain⟨hr1,hr2⟩:=hrest rfl
         have every:∀ i,i<cap→∃ es y,w.cells? 0 (a.add (i * P.cellsOf e)) (P.cellsOf e)=some es∧DataW.trod enc P w 0 (fun _=>true) held m e es=some y∧(y∈elems∨y∈rest):=by
          intro i hi
          by_cases hil:i<len
          ·have h1:=hget i hil
           have h2:elems[i]?=some (elems[i]'(by omega)):=by simp[hel,hil]
           rw[h2] at h1
           obtain⟨es,e1,e2⟩:=Option.bind_eq_some_iff.1 h1
           exact⟨es,_,e1,e2,.inl (List.getElem_mem _)⟩
          ·have h1:=hr2 (i - len) (by omega)
           rw[show len + (i - len)=i by omega] at h1
           have h2:rest[i - len]?=some (rest[i - len]'(by omega)):=by
            rw[List.getElem?_eq_getElem]
           rw[h2] at h1
           obtain⟨es,e1,e2⟩:=Option.bind_eq_some_iff.1 h1
           exact⟨es,_,e1,e2,.inr (List.getElem_mem _)⟩
         obtain⟨es0,_,k0,_,_⟩:=every 0 hc
         obtain⟨kl0,kg0⟩:=xz k0
         have hc0:=kg0 0 hz
         rw[List.getElem?_eq_getElem (by omega)] at hc0
         obtain⟨c,el,fr,hh,hsp,_,_⟩:=cell?_at hc0
         obtain⟨b,o,sp⟩:=a
         rw[Nat.zero_mul,Eo,Eo] at hh hsp
         simp only at hh hsp
         subst hsp
         have hblt:b<base.n:=by rw[hn]; exact(Array.getElem?_eq_some_iff.1 hh).1
         have hlast:o + cap * P.cellsOf e≤c.size:=by
          obtain⟨es1,_,k1,_,_⟩:=every (cap - 1) (by omega)
          obtain⟨kl1,kg1⟩:=xz k1
          have hc1:=kg1 (P.cellsOf e - 1) (by omega)
          rw[List.getElem?_eq_getElem (by omega)] at hc1
          obtain⟨c',el',fr',hh',_,hlt,_⟩:=cell?_at hc1
          rw[eD,eD] at hh' hlt
          simp only at hh' hlt
          rw[hh] at hh'
          cases hh'
          have:cap * P.cellsOf e=(cap - 1) * P.cellsOf e + P.cellsOf e:=by
           rw[← Nat.succ_mul]; congr 1; omega
          omega
         have an1:qV base.n (.slice (some ⟨b,o,none⟩) len cap)=.slc b o len (.ex cap):=by
          obtain⟨cap,rfl⟩ : ∃ k,cap=k + 1:=⟨cap - 1,by omega⟩
          simp only[qV,if_pos hblt]
         have hcells:=RM.YU hblt hh
         have hle:len * P.cellsOf e≤cap * P.cellsOf e:=Nat.mul_le_mul_right _ hlc
         have hload:(RM.old base w).loads b o (len * P.cellsOf e)=some (((c.toList.map (qV base.n)).drop o).take (len * P.cellsOf e)):=by
          simp only[RM.loads,hcells]
          rw[if_pos (by simp; omega)]
         simp only[List.map_cons,List.map_nil,an1]
         refine .slc t e b o len cap _ hu hblt hlc ?_ hload fun i hi=>?_
         ·have:=hw ((elems.length + rest.length) * P.bytesOf e) (by simp[DataW.weights,hu])
          rwa [hel,hr1,show len + (cap - len)=cap by omega] at this
         ·obtain⟨es,y,k1,k2,k3⟩:=every i (by omega)
          have hlen:=(xz k1).1
          have hes:((((c.toList.map (qV base.n)).drop o).take (len * P.cellsOf e)).drop (i * P.cellsOf e)).take (P.cellsOf e)=es.map (qV base.n):=by
           have hii:i * P.cellsOf e + P.cellsOf e≤len * P.cellsOf e:=by rw[← Nat.succ_mul]; exact Nat.mul_le_mul_right _ hi
           apply List.ext_getElem?
           intro j
           by_cases hj:j<P.cellsOf e
           ·have hg:=(xz k1).2 j hj
            rw[List.getElem?_take,if_pos hj,List.getElem?_drop,List.getElem?_take,if_pos (by omega),List.getElem?_drop,List.getElem?_map,List.getElem?_map,← hg]
            rw[eD,eD]
            simp only[World.cell?,hh]
            rw[Array.getElem?_toList]
            simp[Nat.add_assoc]
           ·rw[List.getElem?_eq_none (by simp; omega),List.getElem?_eq_none (by simp; omega)]
          rw[hes]
          refine ih e es y k2 fun z hz=>hw z ?_
          simp only[DataW.weights,hu,List.mem_cons,List.mem_append]
          rcases k3 with k3 | k3
          ·exact .inr (.inl (vg (List.mem_map_of_mem k3) hz))
          ·exact .inr (.inr (vg (List.mem_map_of_mem k3) hz))
     | struct fs =>
       obtain⟨xs,n,hm,rfl,hl,hxl,hget⟩:=DataW.trod_struct hu h
       cases hm
       refine .struct t fs _ hu (by simpa using hl) fun i f hf=>?_
       have h1:=hget i f hf
       have hi:i<fs.size:=(Array.getElem?_eq_some_iff.1 hf).1
       rw[List.getElem?_eq_getElem (by omega)] at h1
       rw[← List.map_drop,← List.map_take]
       refine ih _ _ _ h1 fun z hz=>hw z ?_
       simp only[DataW.weights,hu]
       refine zq _ _ i f.type _ (by simp[hf]) (by rw[List.getElem?_map,List.getElem?_eq_getElem (by omega)]; rfl) hz
     | array n e =>
       obtain⟨xs,m',hm,rfl,hl,hxl,hget⟩:=DataW.trod_array hu h
       cases hm
       refine .array t e n _ hu (by simpa using hl) fun i hi=>?_
       have h1:=hget i hi
       rw[List.getElem?_eq_getElem (by omega)] at h1
       rw[← List.map_drop,← List.map_take]
       refine ih _ _ _ h1 fun z hz=>hw z ?_
       simp only[DataW.weights,hu]
       exact vg (List.mem_map_of_mem (List.getElem_mem _)) hz
     | _=>exact .other _ _ (by rw[hu]; rfl)
end
section
variable {P:Program} {M:RM} {t:TypeId} {cs:List AV}
theorem Fits.GH (h:Fits P M t cs) {k:IntKind} (hu:P.underlying t=some (.int k)) : ∃ n:Int,cs=[N k n]∧k.min≤n∧n≤k.max:=by
 cases h with
 | int _ k' n h1 h2 h3=>rw[hu] at h1; cases h1; exact⟨n,rfl,h2,h3⟩
 | _=>simp_all [FO]
theorem Fits.Gj (h:Fits P M t cs) (hu:P.underlying t=some .string) : ∃ s,cs=[St s]∧s.length≤reachBytes:=by
 cases h with
 | str _ s h1 h2=>exact⟨s,rfl,h2⟩
 | _=>simp_all [FO]
theorem Fits.Ka (h:Fits P M t cs) {fs:Array Field} (hu:P.underlying t=some (.struct fs)) : cs.length=P.cellsOf t∧∀ (i:Nat) (f:Field),fs[i]?=some f→Fits P M f.type ((cs.drop f.offset).take (P.cellsOf f.type)):=by
 cases h with
 | struct _ fs' _ h1 h2 h3=>rw[hu] at h1; cases h1; exact⟨h2,h3⟩
 | _=>simp_all [FO]
theorem Fits.Oi (h:Fits P M t cs) {e:TypeId} (hu:P.underlying t=some (.slice e)) (hz:0<P.cellsOf e) :
  ∃ v n ds,cs=[v]∧aL M (P.cellsOf e) v ds n∧n * P.bytesOf e≤reachBytes∧∀ i,i<n→Fits P M e ((ds.drop (i * P.cellsOf e)).take (P.cellsOf e)):=by
 cases h with
 | af6 _ e' h1=>exact⟨_,0,[],rfl,.nil,by simp,fun i hi=>absurd hi (by omega)⟩
 | emp _ e' b h1=>exact⟨_,0,[],rfl,.emp b,by simp,fun i hi=>absurd hi (by omega)⟩
 | slc _ e' b o n c ds h1 h2 h3 h4 h5 h6 =>
   rw[hu] at h1; cases h1
   exact⟨_,n,ds,rfl,.slc b o n _ ds h2 h5,Nat.le_trans (Nat.mul_le_mul_right _ h3) h4,h6⟩
 | zero _ e' _ h1 h2=>rw[hu] at h1; cases h1; omega
 | _=>simp_all [FO]
theorem N9 {α:Type} {size:Nat} (enc:α→List AV) (p:α→Prop) (hs:∀ a,(enc a).length=size) : ∀ (n:Nat) (ds:List AV),ds.length=n * size→(∀ i,i<n→∃ a,p a∧(ds.drop (i * size)).take size=enc a) →
  ∃ xs:List α,xs.length=n∧ds=xs.flatMap enc∧∀ x∈xs,p x
 | 0,ds,hl,_=>⟨[],rfl,by simpa using hl,by simp⟩
 | n + 1,ds,hl,h=>by
   obtain⟨a,pa,ha⟩:=h 0 (by omega)
   simp only[Nat.zero_mul,List.drop_zero] at ha
   have hl' : (ds.drop size).length=n * size:=by rw[List.length_drop,hl,Nat.succ_mul]; omega
   obtain⟨xs,h1,h2,h3⟩:=N9 enc p hs n (ds.drop size) hl' fun i hi=>by
    obtain⟨b,pb,hb⟩:=h (i + 1) (by omega)
    refine⟨b,pb, ?_⟩
    rw[List.drop_drop,← hb,Nat.succ_mul,Nat.add_comm]
   refine⟨a :: xs,by simp[h1], ?_,fun x hx=>?_⟩
   ·rw[List.flatMap_cons,← h2,← ha,List.take_append_drop]
   ·rcases List.mem_cons.1 hx with rfl | hx
    ·exact pa
    ·exact h3 x hx
end
def Mw (P:Program) (t:TypeId) : Bool :=
 match P.underlying t with
 | some (.struct _) | some (.array _ _)=>true
 | _=>false
def qN (P:Program) (M:RM) (t:TypeId) (v:AV) : Prop :=
 match Mw P t with
 | true=>∃ cs,v=.agg cs∧Fits P M t cs
 | false=>Fits P M t [v]
theorem qN.agg {P:Program} {M:RM} {t:TypeId} {v:AV} (h:qN P M t v) (ha:Mw P t=true) : ∃ cs,v=.agg cs∧Fits P M t cs:=by
 unfold qN at h; rw[ha] at h; exact h
theorem qN.one {P:Program} {M:RM} {t:TypeId} {v:AV} (h:qN P M t v) (ha:Mw P t=false) : Fits P M t [v]:=by
 unfold qN at h; rw[ha] at h; exact h
section
variable {H:Type} {enc:TypeId × Value→H} {P:Program} {base:Base} {w:World}
theorem Ry {r:Reach} {b:Nat} {t:TypeId} {cs:Array Value} (h:Cell.okWide P w r b t (.agg cs)) : False:=by
 unfold Cell.okWide at h
 split at h <;> first | (rename_i e _; cases e; done) | skip
 all_goals first | (rename_i e; cases e; done) | skip
 unfold Cell.ok at h
 split at h <;> first | exact h | simp_all
theorem abB (hn:base.n=w.heap.size) {r:Reach} {b:Nat} {held:Bool} {t:TypeId} {v:Value} {d:DataW H} {ps:List MemPlace} (hv:Value.okWide P w r b t v) (h:DataW.Trod enc P w 0 (fun _=>true) held t v d ps)
  (hw:∀ y∈d.weights P t,y≤reachBytes) : qN P (RM.old base w) t (vk base.n v):=by
 obtain⟨fuel,hf⟩:=h
 have hfit:=P5 hn fuel t _ _ hf hw
 unfold qN
 cases ha:Mw P t with
 | true =>
   have:∃ cs,v=.agg cs:=by
    unfold Value.okWide at hv
    unfold Mw at ha
    split at hv
    ·obtain⟨cs,h,_⟩:=hv; exact⟨cs,h⟩
    ·obtain⟨cs,h,_⟩:=hv; exact⟨cs,h⟩
    ·split at ha <;> simp_all
   obtain⟨cs,rfl⟩:=this
   exact⟨_,rfl,hfit⟩
 | false =>
   have hc:Cell.okWide P w r b t v:=by
    unfold Value.okWide at hv
    unfold Mw at ha
    split at hv
    ·simp_all
    ·simp_all
    ·exact hv
   have:v.cells.toList=[v]∧vk base.n v=qV base.n v:=by
    cases v with
    | agg cs=>exact(Ry hc).elim
    | _=>exact⟨rfl,rfl⟩
   rw[this.1] at hfit
   rw[this.2]
   exact hfit
theorem Tx (hn:base.n=w.heap.size) {r:Reach} {b:Nat} {held:Bool} : ∀ {ts:List TypeId} {vs:List Value} {ds:List (DataW H)} {ps:List MemPlace},DataW.TrodAll enc P w 0 (fun _=>true) held ts vs ds ps →
  (∀ (j:Nat) t v,ts[j]?=some t→vs[j]?=some v→Value.okWide P w r b t v)→(∀ y∈DataW.weightsEach P ts ds,y≤reachBytes) →
  ∀ (j:Nat) t v,ts[j]?=some t→vs[j]?=some v→qN P (RM.old base w) t (vk base.n v)
 | [],_,_,_,_,_,_,j,t,v,h,_=>by simp at h
 | t0 :: ts,vs,ds,ps,h,hv,hw,j,t,v,hj,hvj=>by
   cases vs with
   | nil=>simp at hvj
   | cons v0 vs =>
   cases ds with
   | nil=>exact h.elim
   | cons d ds =>
   obtain⟨p,q,h1,h2,_⟩:=h
   cases j with
   | zero =>
     simp at hj hvj; subst hj hvj
     exact abB hn (hv 0 _ _ rfl rfl) h1 fun y hy=>hw y (by simp[DataW.weightsEach,hy])
   | succ j =>
     exact Tx hn h2 (fun j t v a b=>hv (j + 1) t v (by simpa using a) (by simpa using b)) (fun y hy=>hw y (by simp[DataW.weightsEach,hy])) j t v (by simpa using hj) (by simpa using hvj)
theorem Et (hl:laidOutB P=true) {W W' : World} {sp:Nat→Bool} (hb:Below W.heap.size W W') : ∀ {ts:List TypeId} {vs:List Value} {ds:List (DataW H)} {ps:List MemPlace},
  (∀ t∈ts,P.readableRec t=true∧t<P.types.size)→DataW.TrodAll enc P W 0 (fun _=>true) true ts vs ds ps→(∀ p∈ps,p.block<W.heap.size)→(∀ p∈ps,sp p.block=true)→DataW.TrodAll enc P W' 0 sp true ts vs ds ps
 | [],vs,ds,ps,_,h,_,_=>by
   cases vs <;> cases ds <;> first | exact h | exact h.elim
 | t :: ts,vs,ds,ps,hr,h,hlt,hsp=>by
   cases vs with
   | nil=>cases ds <;> exact h.elim
   | cons v vs =>
   cases ds with
   | nil=>exact h.elim
   | cons d ds =>
   obtain⟨p,q,h1,h2,rfl⟩:=h
   have hrt:=hr t (List.mem_cons_self ..)
   exact⟨p,q,WideElems.Trod_stays hl hrt.1 hrt.2 h1 (fun x hx=>hb.same (hlt x (List.mem_append_left _ hx))) (fun x hx=>hsp x (List.mem_append_left _ hx)),
    Et hl hb (fun t ht=>hr t (List.mem_cons_of_mem _ ht)) h2 (fun x hx=>hlt x (List.mem_append_right _ hx)) (fun x hx=>hsp x (List.mem_append_right _ hx)),rfl⟩
end
def RB.cells (lo:Nat) : RB→Option (List AV)
 | .row l _ _ _=>some l
 | .ro c=>some (c.toList.map (qV lo))
 | _=>none
@[go_sem] theorem RB.z8 (lo:Nat) (l:List AV) (p:Bool) (e f:Nat) : RB.cells lo (.row l p e f)=some l:=rfl
theorem RM.Ik (M:RM) (b:Nat) : M.cells b=(M.heap b).bind (RB.cells M.lo):=by
 unfold RM.cells RB.cells
 cases M.heap b with
 | none=>rfl
 | some x=>cases x <;> rfl
def wu (l:Option (List AV)) (o k:Nat) : Option (List AV) :=
 match l with
 | some l=>if o + k≤l.length then some ((l.drop o).take k) else none
 | none=>none
@[go_sem] theorem akA (l:List AV) (o k:Nat) : wu (some l) o k=if o + k≤l.length then some ((l.drop o).take k) else none:=rfl
theorem RM.Jz (M:RM) (b o k:Nat) : M.loads b o k=wu (M.cells b) o k:=rfl
section
variable {M M' : RM}
@[go_sem] theorem RM.YQ (x:RB) (c:Nat) : (M.push x).heap c=if c=M.next then some x else M.heap c:=rfl
@[go_sem] theorem RM.heap_put (b:Nat) (x:RB) (c:Nat) : (M.put b x).heap c=if c=b then some x else M.heap c:=rfl
@[go_sem] theorem RM.anF (b:Nat) (c:Nat) : (M.del b).heap c=if c=b then none else M.heap c:=rfl
@[go_sem] theorem RM.amP (x:RB) : (M.push x).base=M.base:=rfl
@[go_sem] theorem RM.anW (b:Nat) (x:RB) : (M.put b x).base=M.base:=rfl
@[go_sem] theorem RM.aoX (b:Nat) : (M.del b).base=M.base:=rfl
theorem RM.J9 (x:RB) (c:Nat) : (M.push x).cells c=if c=M.next then x.cells M.lo else M.cells c:=by
 simp only[RM.Ik,RM.YQ]
 split <;> rfl
theorem RM.OE (b:Nat) (x:RB) (c:Nat) : (M.put b x).cells c=if c=b then x.cells M.lo else M.cells c:=by
 simp only[RM.Ik,RM.heap_put]
 split <;> rfl
@[go_sem] theorem RM.amT (x:RB) (c o:Nat) : (M.push x).cell c o=if c=M.next then(x.cells M.lo).bind (·[o]?) else M.cell c o:=by
 simp only[RM.cell,RM.J9]
 split <;> rfl
@[go_sem] theorem RM.aoA (b:Nat) (x:RB) (c o:Nat) : (M.put b x).cell c o=if c=b then(x.cells M.lo).bind (·[o]?) else M.cell c o:=by
 simp only[RM.cell,RM.OE]
 split <;> rfl
@[go_sem] theorem RM.akQ (x:RB) (c o k:Nat) : (M.push x).loads c o k=if c=M.next then wu (x.cells M.lo) o k else M.loads c o k:=by
 simp only[RM.Jz,RM.J9]
 split <;> rfl
@[go_sem] theorem RM.amF (b:Nat) (x:RB) (c o k:Nat) : (M.put b x).loads c o k=if c=b then wu (x.cells M.lo) o k else M.loads c o k:=by
 simp only[RM.Jz,RM.OE]
 split <;> rfl
def pR (l:List AV) (fz o:Nat) (vs:List AV) : Option (List AV) :=
 if o + vs.length≤l.length∧fz≤o∧vs.all oneCell=true then some (l.take o++vs++l.drop (o + vs.length)) else none
theorem oP {l vs:List AV} {fz o:Nat} (h1:o + vs.length≤l.length) (h2:fz≤o) (h3:vs.all oneCell=true) : pR l fz o vs=some (l.take o++vs++l.drop (o + vs.length)):=if_pos ⟨h1,h2,h3⟩
@[go_sem] theorem OM {l vs:List AV} (h:vs.length=l.length) (h3:vs.all oneCell=true) : pR l 0 0 vs=some vs:=by
 rw[oP (by omega) (Nat.le_refl _) h3]
 simp[h]
theorem RM.zK {b o:Nat} {vs l:List AV} {p:Bool} {e f:Nat} (h:M.heap b=some (.row l p e f)) : M.stores b o vs=(pR l f o vs).map fun l'=>M.put b (.row l' p e f):=by
 simp only[RM.stores,h,pR]
 split <;> rfl
theorem RM.ab1 {x y:RB} : (M.push x).put M.next y=M.push y:=by
 simp only[RM.put,RM.push]
 congr 1
 funext c
 split <;> rfl
theorem RM.Su {x y:RB} {b:Nat} (hb:b≠M.next) : (M.push x).put b y=(M.put b y).push x:=by
 simp only[RM.put,RM.push]
 congr 1
 funext c
 by_cases h1:c=b
 ·subst h1; simp[hb]
 ·simp[h1]
theorem RM.LP {l vs:List AV} {p:Bool} {e f o:Nat} : (M.push (.row l p e f)).stores M.next o vs=(pR l f o vs).map fun l'=>M.push (.row l' p e f):=by
 rw[RM.zK (RM.aT _)]
 congr 1
 funext l'
 exact RM.ab1
theorem RM.KY {M:RM} {b o:Nat} {vs:List AV} : M.stores b o vs=match M.heap b with
  | some (.row l p e f)=>(pR l f o vs).map fun l'=>M.put b (.row l' p e f)
  | _=>none:=by
 cases h:M.heap b with
 | none=>simp[RM.stores,h]
 | some x =>
   cases x with
   | row l p e f=>rw[RM.zK h]
   | _=>simp[RM.stores,h]
@[go_sem] theorem RM.K6 {x:RB} {vs:List AV} {c o:Nat} (hc:c≠M.next) : (M.push x).stores c o vs=(M.stores c o vs).map (·.push x):=by
 rw[RM.KY,RM.KY,RM.acd hc]
 split
 ·simp only[Option.map_map]
  congr 1
  funext l'
  exact RM.Su hc
 ·rfl
@[go_sem] theorem RM.akC {l vs:List AV} {p:Bool} {e f c o:Nat} : (M.push (.row l p e f)).stores c o vs =
  if c=M.next then(pR l f o vs).map fun l'=>M.push (.row l' p e f) else(M.stores c o vs).map (·.push (.row l p e f)):=by
 split
 ·rename_i h; subst h; exact RM.LP
 ·rename_i h; exact RM.K6 h
@[go_sem] theorem RM.adv {b o:Nat} {l vs:List AV} {p:Bool} {e f:Nat} : (M.put b (.row l p e f)).stores b o vs=(pR l f o vs).map fun l'=>M.put b (.row l' p e f):=by
 rw[RM.zK (RM.qY _ _)]
 congr 1
 funext l'
 simp only[RM.put]
 congr 1
 funext c
 split <;> rfl
@[go_sem] theorem apj {α:Type} (a:α) (K:α→Prop) : (∃ x,some a=some x∧K x)=K a:=by simp
@[go_sem] theorem akE {α β:Type} (f:α→β) (x:α) : (some x).map f=some (f x):=rfl
attribute [go_sem] Int.natCast_nonneg Int.toNat_natCast Nat.mul_one true_implies false_implies Bool.false_eq_true Bool.true_eq_false Bool.not_true Bool.not_false Bool.and_self Bool.and_true Bool.true_and Nat.le_refl List.append_nil List.nil_append if_true if_false Nat.lt_irrefl Nat.add_one_ne_zero true_and and_true Nat.zero_add Nat.add_zero List.drop_zero List.getElem?_cons_zero List.getElem?_cons_succ Option.bind_some List.take_succ_cons List.take_zero List.drop_succ_cons List.drop_nil List.take_nil
attribute [go_sem] ji List.all_cons List.all_nil List.length_cons List.length_nil
@[go_sem] theorem am8 (cs:List AV) : (AV.agg cs).cells=cs:=rfl
@[go_sem] theorem aoi (v:Value) : (AV.sc v).cells=[.sc v]:=rfl
@[go_sem] theorem amH (b o:Nat) : (AV.ptr b o).cells=[.ptr b o]:=rfl
@[go_sem] theorem amI (b o n:Nat) (c:Cap) : (AV.slc b o n c).cells=[.slc b o n c]:=rfl
@[go_sem] theorem am2 (b:Nat) : (AV.emp b).cells=[.emp b]:=rfl
@[go_sem] theorem amL (b:Nat) : (AV.map b).cells=[.map b]:=rfl
@[go_sem] theorem aoH (f:Fn) (xs ys:List AV) : (AV.fn f xs ys).cells=[.fn f xs ys]:=rfl
@[go_sem] theorem Ps (v:Value) : oneCell (.sc v)=true:=rfl
@[go_sem] theorem api (b o:Nat) : oneCell (.ptr b o)=true:=rfl
@[go_sem] theorem apm (b o n:Nat) (c:Cap) : oneCell (.slc b o n c)=true:=rfl
@[go_sem] theorem apk (b:Nat) : oneCell (.emp b)=true:=rfl
@[go_sem] theorem apg (b:Nat) : oneCell (.map b)=true:=rfl
@[go_sem] theorem apq (f:Fn) (xs ys:List AV) : oneCell (.fn f xs ys)=true:=rfl
end
theorem RM.QF {M:RM} {b:Nat} {l:List AV} {p:Bool} {e f:Nat} (h:M.heap b=some (.row l p e f)) (o k:Nat) : M.loads b o k=wu (some l) o k:=by rw[RM.Jz,RM.z8 h]
theorem RM.cell_of {M:RM} {b:Nat} {l:List AV} {p:Bool} {e f:Nat} (h:M.heap b=some (.row l p e f)) (o:Nat) : M.cell b o=l[o]?:=RM.aa5 h
theorem RM.vW {M:RM} {b:Nat} {l:List AV} {p:Bool} {e f:Nat} (h:M.heap b=some (.row l p e f)) (o:Nat) (vs:List AV) : M.stores b o vs=(pR l f o vs).map fun l'=>M.put b (.row l' p e f):=RM.zK h
theorem ag.aR {bs:List Nat} {M M' : RM} (h:ag bs M M') {b:Nat} {x:RB} (hh:M.heap b=some x) (hlt:b<M.next) (hb:b ∉ bs) : M'.heap b=some x:=by rw[h.heap b hlt hb,hh]
def VY (tab run:fJ) : fJ:=fun f args A=>match tab f args A with
 | some r=>some r
 | none=>run f args A
def Gu (P:Program) (X:Ext) (tab:fJ) (L:Nat) : Nat→fJ
 | 0,_,_,_=>none
 | n + 1,f,args,A=>match has X.split f with
   | true=>Tm (O1 P X L (VY tab (Gu P X tab L n))) f args A
   | false=>O1 P X L (VY tab (Gu P X tab L n)) f args A
inductive Ans where
 | val (v:AV)
 | rows (n:Nat) (v:AV) (bs:List (Nat × bX)) (n' : Nat)
structure aC where
 args:List AV
 fp:List (Nat × bX):=[]
 dead:List Nat:=[]
 nx:Nat:=0
 ans:Ans
def wy:Tree bX→List (Nat × bX)→Tree bX
 | t,[]=>t
 | t,(b,x) :: r=>wy (t.set b x) r
def FY:Tree bX→List Nat→Tree bX
 | t,[]=>t
 | t,b :: r=>FY (t.del b) r
def BF (A:AW) : List (Nat × bX)→Bool
 | []=>true
 | (b,x) :: r=>match A.heap.get b with
   | some y=>CR x y && BF A r
   | none=>false
def VM (A:AW) (e:aC) : Option (AV × AW) :=
 match BF A e.fp with
 | false=>none
 | true=>match e.ans with
   | .val v=>some (v,A)
   | .rows n v bs n'=>match Nat.beq n A.next with
     | true=>some (v,{ next:=n',heap:=wy (FY A.heap e.dead) bs })
     | false=>none
def Ga:List aC→List AV→AW→Option (AV × AW)
 | [],_,_=>none
 | e :: es,args,A=>match qL e.args args with
   | true=>match VM A e with
     | some r=>some r
     | none=>Ga es args A
   | false=>Ga es args A
abbrev Table:=List (Nat × List aC)
def CV:Table→fJ
 | [],_,_,_=>none
 | (g,es) :: T,f,args,A=>match Nat.beq g f with
   | true=>match Ga es args A with
     | some r=>some r
     | none=>CV T f args A
   | false=>CV T f args A
def KD:List Nat→Nat→Bool
 | [],_=>false
 | k :: ks,b=>match Nat.beq k b with
   | true=>true
   | false=>KD ks b
mutual
def within (ks:List Nat) : AV→Bool
 | .sc _ | .top | .atl _=>true
 | .ptr b _ | .slc b _ _ _ | .emp b | .map b=>KD ks b
 | .fn _ xs ys=>nM ks xs && nM ks ys
 | .ifc _ x=>within ks x
 | .agg xs | .tup xs=>nM ks xs
def nM (ks:List Nat) : List AV→Bool
 | []=>true
 | x :: xs=>within ks x && nM ks xs
end
theorem pW {b:Nat} : ∀ {ks:List Nat},KD ks b=true↔b∈ks
 | []=>by simp[KD]
 | k :: ks=>by
   simp only[KD]
   split
   ·rename_i h
    simp[bu h]
   ·rename_i h
    rw[pW,List.mem_cons]
    constructor
    ·exact .inr
    ·rintro(e | e)
     ·exact absurd e.symm (zC h)
     ·exact e
mutual
theorem pK {ρ ρ' : Ren} {ks:List Nat} (hk:∀ b∈ks,∀ i,ρ b=some i→ρ' b=some i) : ∀ (x:AV) {v:Value},within ks x=true→ak ρ x v→ak ρ' x v
 | .top,v,_,_=>.top v
 | .atl k,v,_,hr=>by cases hr; exact .atl _ _ (by assumption)
 | .sc u,v,_,hr=>by cases hr; exact .sc _ (by assumption)
 | .ptr b o,v,h,hr=>by
   simp only[within] at h
   cases hr with
   | ptr _ _ i e=>exact .ptr _ _ i (hk b (pW.1 h) i e)
 | .slc b o l c,v,h,hr=>by
   simp only[within] at h
   cases hr with
   | gY _ _ _ c i e=>exact .gY _ _ _ c i (hk b (pW.1 h) i e)
   | jU _ k _ i e q=>exact .jU _ k _ i (hk b (pW.1 h) i e) q
 | .emp b,v,h,hr=>by
   simp only[within] at h
   cases hr with
   | emp _ a c=>exact .emp _ a c
 | .map b,v,h,hr=>by
   simp only[within] at h
   cases hr with
   | map _ i e=>exact .map _ i (hk b (pW.1 h) i e)
 | .fn f xs ys,v,h,hr=>by
   simp only[within,Bool.and_eq_true] at h
   cases hr with
   | fn _ _ _ us vs p a b=>exact .fn f xs ys us vs p (nL hk xs h.1 a) (nL hk ys h.2 b)
 | .ifc t x,v,h,hr=>by
   simp only[within] at h
   cases hr with
   | ifc _ _ v a=>exact .ifc t x v (pK hk x h a)
 | .agg xs,v,h,hr=>by
   simp only[within] at h
   cases hr with
   | agg _ vs a=>exact .agg xs vs (nL hk xs h a)
 | .tup xs,v,h,hr=>by
   simp only[within] at h
   cases hr with
   | tup _ vs a=>exact .tup xs vs (nL hk xs h a)
theorem nL {ρ ρ' : Ren} {ks:List Nat} (hk:∀ b∈ks,∀ i,ρ b=some i→ρ' b=some i) : ∀ (xs:List AV) {vs:List Value},nM ks xs=true→aW ρ xs vs→aW ρ' xs vs
 | [],vs,_,hr=>by cases hr; exact .nil
 | x :: xs,vs,h,hr=>by
   simp only[nM,Bool.and_eq_true] at h
   cases hr with
   | cons _ v _ vs a b=>exact .cons x v xs vs (pK hk x h.1 a) (nL hk xs h.2 b)
end
def BN (p:AV→Bool) : Tree AV→Bool
 | .leaf=>true
 | .node l v r=>(match v with
   | some x=>p x
   | none=>true) && BN p l && BN p r
theorem Ah {p:AV→Bool} : ∀ {t:Tree AV} {k:Nat} {x:AV},BN p t=true→t.get k=some x→p x=true
 | .leaf,k,x,_,h=>by simp[Tree.get] at h
 | .node l v r,k,x,ha,h=>by
   simp only[BN,Bool.and_eq_true] at ha
   simp only[Tree.get] at h
   split at h
   ·rw[h] at ha; exact ha.1.1
   ·split at h
    ·exact Ah ha.1.2 h
    ·exact Ah ha.2 h
def LM (ks:List Nat) : List (AV × AV × Nat)→Bool
 | []=>true
 | (k,v,_) :: es=>within ks k && within ks v && LM ks es
def Po (ks:List Nat) : bX→Bool
 | .row _ t zs _ _ _=>BN (within ks) t && nM ks zs
 | .map es _=>LM ks es
 | .iter m _ _ _=>match m with
   | some b=>KD ks b
   | none=>true
 | .kP _ _=>true
theorem Ia {ks:List Nat} : ∀ {xs:List AV},nM ks xs=true→∀ x∈xs,within ks x=true
 | [],_,x,h=>by cases h
 | y :: ys,h,x,hx=>by
   simp only[nM,Bool.and_eq_true] at h
   rcases List.mem_cons.1 hx with e | hx
   ·rw[e]; exact h.1
   ·exact Ia h.2 x hx
theorem Vo {β:Type} : ∀ {l:List β} {n:Nat} {x:β},nth l n=some x→x∈l
 | [],_,_,h=>by simp[nth] at h
 | y :: ys,0,x,h=>by simp[nth] at h; simp[h]
 | y :: ys,n + 1,x,h=>by
   simp only[nth] at h
   exact List.mem_cons_of_mem _ (Vo h)
theorem ZE {tree:Tree AV} {zs:List AV} {n k:Nat} {x:AV} (h:cellAt tree zs n k=some x) : tree.get k=some x∨x∈zs:=by
 unfold cellAt at h
 split at h
 ·cases h
 ·split at h
  ·rename_i v hv
   cases h
   exact .inl hv
  ·split at h
   ·cases h
   ·cases h
    exact .inr (List.mem_cons_self ..)
   ·exact .inr (Vo h)
theorem bT.restrict {ρ ρ' : Ren} {ks:List Nat} (hk:∀ b∈ks,∀ i,ρ b=some i→ρ' b=some i) : ∀ {es:List (AV × AV × Nat)} {fs:List MapEntry},LM ks es=true→bT ρ es fs→bT ρ' es fs
 | [],[],_,_=>trivial
 | [],_ :: _,_,h=>h.elim
 | _ :: _,[],_,h=>h.elim
 | (a,b,n) :: es,f :: fs,h,⟨h1,h2,h3,h4⟩=>by
   simp only[LM,Bool.and_eq_true] at h
   exact⟨pK hk a h.1.1 h1,pK hk b h.1.2 h2,h3,bT.restrict hk h.2 h4⟩
theorem iR.restrict {P:Program} {ρ ρ' : Ren} {ks:List Nat} (hk:∀ b∈ks,∀ i,ρ b=some i→ρ' b=some i) {i:gz} : ∀ {x:bX} {o:Obj},Po ks x=true→iR P ρ i x o→iR P ρ' i x o
 | .row n t zs opn el fz,o,h,⟨c,fr,e,k⟩=>by
   simp only[Po,Bool.and_eq_true] at h
   refine⟨c,fr,e,k.size,fun j x hx=>?_,k.free,k.mark,k.opn,k.sh0⟩
   obtain⟨v,h1,h2⟩:=k.val j x hx
   refine⟨v,h1,pK hk x ?_ h2⟩
   rcases ZE hx with hx | hx
   ·exact Ah h.1 hx
   ·exact Ia h.2 x hx
 | .map es clock,o,h,⟨fs,e,k⟩=>⟨fs,e,bT.restrict hk h k⟩
 | .iter m since seen st,o,h,⟨m',e,k⟩=>by
   refine⟨m',e, ?_⟩
   cases m with
   | none=>exact k
   | some b =>
     obtain⟨j,h1,h2⟩:=k
     exact⟨j,hk b (pW.1 h) j h1,h2⟩
 | .kP s pos,o,h,k=>k
section
variable {P:Program} {X:Ext}
theorem JV {base:Base} {tab run:fJ} (ht:jO P base tab) (hr:jO P base run) : jO P base (VY tab run):=by
 intro f args A v A' h
 unfold VY at h
 split at h
 ·rename_i r hr'
  cases h
  exact ht f args A v A' hr'
 ·exact hr f args A v A' h
theorem AZ {base:Base} (hng:Er P X) (hm:P.follows .mixedOrders=true) {tab:fJ} (ht:jO P base tab) (L:Nat) : ∀ n,jO P base (Gu P X tab L n)
 | 0=>by intro f args A v A' h; simp[Gu] at h
 | n + 1=>by
   intro f args A v A' h
   simp only[Gu] at h
   split at h
   ·exact PE (Ib hng hm L (JV ht (AZ hng hm ht L n))) f args A v A' h
   ·exact Ib hng hm L (JV ht (AZ hng hm ht L n)) f args A v A' h
def vK (P:Program) (I:World→Prop) (f:Nat) (e:aC) : Prop :=
 ∀ (base:Base),(∀ w,base.inv w→I w)→∀ A v A',VM A e=some (v,A')→∀ (ρ:Ren) (w:World) (us:List Value),aW ρ e.args us→bC P base ρ A w→base≤w.heap.size →
   Calls P f ⟨us⟩ w fun r w'=>∃ ρ' v',r=.returned v'∧Step base A.next ρ w ρ' w'∧bC P base ρ' A' w'∧A.next≤A'.next∧ak ρ' v v'
def jC (P:Program) (I:World→Prop) (T:Table) : Prop:=∀ g∈T,∀ e∈g.2,vK P I g.1 e
theorem Bj {base:Base} {I:World→Prop} (hI:∀ w,base.inv w→I w) {f:Nat} : ∀ (es:List aC),(∀ e∈es,vK P I f e)→∀ {args A v A'},Ga es args A=some (v,A')→∀ (ρ:Ren) (w:World) (us:List Value),aW ρ args us→bC P base ρ A w→base≤w.heap.size →
  Calls P f ⟨us⟩ w fun r w'=>∃ ρ' v',r=.returned v'∧Step base A.next ρ w ρ' w'∧bC P base ρ' A' w'∧A.next≤A'.next∧ak ρ' v v'
 | [],_,args,A,v,A',h=>by simp[Ga] at h
 | e :: es,hes,args,A,v,A',h=>by
   simp only[Ga] at h
   split at h
   ·rename_i hq
    have hq:=oG _ _ hq
    subst hq
    split at h
    ·rename_i r hr
     cases h
     exact hes e (List.mem_cons_self ..) base hI A v A' hr
    ·exact Bj hI es (fun e he=>hes e (List.mem_cons_of_mem _ he)) h
   ·exact Bj hI es (fun e he=>hes e (List.mem_cons_of_mem _ he)) h
theorem AP {base:Base} {I:World→Prop} (hI:∀ w,base.inv w→I w) : ∀ (T:Table),jC P I T→jO P base (CV T)
 | [],_=>by intro f args A v A' h; simp[CV] at h
 | (g,es) :: T,hT=>by
   intro f args A v A' h
   have hrest:=AP hI T (fun g hg=>hT g (List.mem_cons_of_mem _ hg))
   simp only[CV] at h
   split at h
   ·rename_i hq
    have hq:=bu hq
    subst hq
    split at h
    ·rename_i r hr
     cases h
     exact Bj hI es (hT (g,es) (List.mem_cons_self ..)) hr
    ·exact hrest g args A v A' h
   ·exact hrest f args A v A' h
theorem xB:∀ (bs:List (Nat × bX)) (t:Tree bX) {k:Nat} {x:bX},(wy t bs).get k=some x→(k,x)∈bs∨(t.get k=some x∧∀ y,(k,y) ∉ bs)
 | [],t,k,x,h=>.inr ⟨h,fun y hy=>by cases hy⟩
 | (b,y) :: r,t,k,x,h=>by
   simp only[wy] at h
   rcases xB r _ h with h | ⟨h,hn⟩
   ·exact .inl (List.mem_cons_of_mem _ h)
   ·rw[Tree.bn] at h
    split at h
    ·rename_i e
     cases h
     subst e
     exact .inl (List.mem_cons_self ..)
    ·rename_i hne
     refine .inr ⟨h,fun z hz=>?_⟩
     rcases List.mem_cons.1 hz with e | hz
     ·cases e; exact hne rfl
     ·exact hn z hz
theorem CZ:∀ (ds:List Nat) (t:Tree bX) {k:Nat} {x:bX},(FY t ds).get k=some x→t.get k=some x∧k ∉ ds
 | [],t,k,x,h=>⟨h,by simp⟩
 | d :: r,t,k,x,h=>by
   simp only[FY] at h
   obtain⟨h1,h2⟩:=CZ r _ h
   rw[Tree.vz] at h1
   split at h1
   ·cases h1
   ·rename_i hne
    exact⟨h1,by simp only[List.mem_cons,not_or]; exact⟨hne,h2⟩⟩
theorem EW {A:AW} : ∀ (l:List (Nat × bX)),BF A l=true→∀ b x,(b,x)∈l→A.heap.get b=some x
 | [],_,b,x,hm=>by cases hm
 | (c,y) :: r,h,b,x,hm=>by
   simp only[BF] at h
   split at h <;> first | (cases h; done) | skip
   rename_i z hz
   rw[Bool.and_eq_true] at h
   rcases List.mem_cons.1 hm with e | hm
   ·cases e
    rw[hz,yT h.1]
   ·exact EW r h.2 b x hm
def keysOf:List (Nat × bX)→List Nat
 | []=>[]
 | (b,_) :: r=>b :: keysOf r
theorem Cx {b:Nat} : ∀ {l:List (Nat × bX)},b∈keysOf l↔∃ x,(b,x)∈l
 | []=>by simp[keysOf]
 | (c,y) :: r=>by
   simp only[keysOf,List.mem_cons,Cx (l:=r)]
   constructor
   ·rintro(e | ⟨x,h⟩)
    ·subst e; exact⟨y,.inl rfl⟩
    ·exact⟨x,.inr h⟩
   ·rintro⟨x,h | h⟩
    ·cases h; exact .inl rfl
    ·exact .inr ⟨x,h⟩
def Yk (ks:List Nat) (n:Nat) : List (Nat × bX)→List Nat→Bool
 | [],_=>true
 | (b,x) :: r,seen=>Po ks x && Nat.ble (b + 1) n && !KD seen b && Yk ks n r (b :: seen)
theorem NZ {ks:List Nat} {n:Nat} : ∀ (l:List (Nat × bX)) (seen:List Nat),Yk ks n l seen=true→(∀ b x,(b,x)∈l→Po ks x=true∧b<n∧b ∉ seen)∧∀ b x y,(b,x)∈l→(b,y)∈l→x=y
 | [],_,_=>⟨fun b x h=>(by cases h),fun b x y h=>(by cases h)⟩
 | (c,z) :: r,seen,h=>by
   simp only[Yk,Bool.and_eq_true,Bool.not_eq_true'] at h
   obtain⟨⟨⟨h1,h2⟩,h3⟩,h4⟩:=h
   obtain⟨i1,i2⟩:=NZ r (c :: seen) h4
   have hc:c ∉ seen:=fun hm=>by rw[pW.2 hm] at h3; cases h3
   refine⟨fun b x hm=>?_,fun b x y hx hy=>?_⟩
   ·rcases List.mem_cons.1 hm with e | hm
    ·cases e; exact⟨h1,aZ h2,hc⟩
    ·obtain⟨a1,a2,a3⟩:=i1 b x hm
     exact⟨a1,a2,fun h=>a3 (List.mem_cons_of_mem _ h)⟩
   ·rcases List.mem_cons.1 hx with e | hx <;> rcases List.mem_cons.1 hy with f | hy
    ·cases e; cases f; rfl
    ·cases e
     exact absurd (List.mem_cons_self ..) (i1 _ _ hy).2.2
    ·cases f
     exact absurd (List.mem_cons_self ..) (i1 _ _ hx).2.2
    ·exact i2 b x y hx hy
def Lv (ks:List Nat) (n:Nat) (A:AW) : List (Nat × bX)→Bool
 | []=>true
 | (b,x) :: r=>(Nat.ble n b || KD ks b) && (match A.heap.get b with
   | some y=>CR x y
   | none=>false) && Lv ks n A r
def FZ (A:AW) (gone:List Nat) : List (Nat × bX)→Bool
 | []=>true
 | (b,x) :: r=>(KD gone b || (match A.heap.get b with
   | some y=>CR x y
   | none=>false)) && FZ A gone r
def BB (e:aC) : Nat:=match e.ans with
 | .val _=>e.nx
 | .rows m _ _ _=>m
def JC (P:Program) (X:Ext) (tab:fJ) (L n:Nat) (f:Nat) (e:aC) : Bool :=
 match nM (keysOf e.fp) e.args && Yk (keysOf e.fp) (BB e) e.fp [] with
 | false=>false
 | true=>match Gu P X tab L n f e.args { next:=BB e,heap:=wy .leaf e.fp } with
   | none=>false
   | some (v',A')=>match e.ans with
     | .val v=>within [] v && nz v' v && FZ A' [] e.fp
     | .rows _ v bs m'=>nz v' v && Nat.beq A'.next m' && Lv (keysOf e.fp) (BB e) A' bs && FZ A' (keysOf bs++e.dead) e.fp
theorem Hl {ks:List Nat} {n:Nat} {A:AW} : ∀ (bs:List (Nat × bX)),Lv ks n A bs=true→∀ b x,(b,x)∈bs→(n≤b∨b∈ks)∧A.heap.get b=some x
 | [],_,b,x,hm=>by cases hm
 | (c,y) :: r,h,b,x,hm=>by
   simp only[Lv,Bool.and_eq_true] at h
   obtain⟨⟨h1,h2⟩,h3⟩:=h
   rcases List.mem_cons.1 hm with e | hm
   ·cases e
    split at h2
    ·rename_i z hz
     rw[Bool.or_eq_true] at h1
     refine⟨?_, ?_⟩
     ·rcases h1 with h1 | h1
      ·exact .inl (aZ h1)
      ·exact .inr (pW.1 h1)
     ·rw[hz,yT h2]
    ·cases h2
   ·exact Hl r h3 b x hm
theorem AO {gone:List Nat} {A:AW} : ∀ (l:List (Nat × bX)),FZ A gone l=true→∀ b x,(b,x)∈l→b∈gone∨A.heap.get b=some x
 | [],_,b,x,hm=>by cases hm
 | (c,y) :: r,h,b,x,hm=>by
   simp only[FZ,Bool.and_eq_true] at h
   obtain⟨h1,h3⟩:=h
   rcases List.mem_cons.1 hm with e | hm
   ·cases e
    rw[Bool.or_eq_true] at h1
    rcases h1 with h1 | h1
    ·exact .inl (pW.1 h1)
    ·split at h1
     ·rename_i z hz
      rw[hz,yT h1]
      exact .inr rfl
     ·cases h1
   ·exact AO r h3 b x hm
theorem bC.none {P:Program} {base:Base} {n:Nat} {w:World} (hi:base.inv w) : bC P base (fun _=>none) { next:=n,heap:=.leaf } w :=
 ⟨fun _ _ h=>(by cases h),fun _ _ _ h=>(by cases h),fun _ _ _ _ _ _ h=>(by cases h),fun _ _ h=>(by simp[Tree.get] at h),fun _ _ _ h=>(by cases h),hi⟩
def only(ρ:Ren) (ks:List Nat) : Ren:=fun b=>if b∈ks then ρ b else none
theorem nK {ρ:Ren} {ks:List Nat} {b:Nat} {i:gz} (h:only ρ ks b=some i) : b∈ks∧ρ b=some i:=by
 unfold only at h
 split at h
 ·exact⟨‹_›,h⟩
 ·cases h
theorem Bv {ρ:Ren} {ks:List Nat} {b:Nat} (h:b∈ks) : only ρ ks b=ρ b:=by simp[only,h]
theorem MR (hng:Er P X) (hm:P.follows .mixedOrders=true) {I:World→Prop} {tab:fJ} (ht:∀ base:Base,(∀ w,base.inv w→I w)→jO P base tab) {L n f:Nat} {e:aC} (h:JC P X tab L n f e=true) : vK P I f e:=by
 unfold JC at h
 split at h <;> first | (cases h; done) | skip
 rename_i hfl
 rw[Bool.and_eq_true] at hfl
 obtain⟨hwi,hfp⟩:=hfl
 obtain⟨hf1,hf2⟩:=NZ _ _ hfp
 split at h <;> first | (cases h; done) | skip
 rename_i v1 A1 hc
 intro base hI A v A' ha ρ w us hargs hw hb
 unfold VM at ha
 split at ha <;> first | (cases ha; done) | skip
 rename_i hhas
 have hrow:=EW _ hhas
 -- the blocks alone
 let ks:=keysOf e.fp
 have hks:∀ {b},b∈ks↔∃ x,(b,x)∈e.fp:=Cx
 have hto:∀ b∈ks,∀ i,ρ b=some i→only ρ ks b=some i:=fun b hb i h=>by rw[Bv hb]; exact h
 have agJ:aW (only ρ ks) e.args us:=nL hto _ hwi hargs
 have J7:∀ b x,(wy .leaf e.fp).get b=some x→(b,x)∈e.fp:=fun b x h=>by
  rcases xB _ _ h with h | ⟨h,_⟩
  ·exact h
  ·simp[Tree.get] at h
 have hw0:bC P base (only ρ ks) { next:=BB e,heap:=wy .leaf e.fp } w:=by
  refine⟨fun b i h=>?_,fun b i x h hx=>?_,fun b b' i i' x x' h h' hx hx' he=>?_,fun b x hx=>?_,fun b i x h hx=>?_,hw.inv⟩
  ·obtain⟨hbk,hbi⟩:=nK h
   obtain⟨x,hx⟩:=hks.1 hbk
   exact⟨(hf1 b x hx).2.1,(hw.dom b i hbi).2⟩
  ·obtain⟨hbk,hbi⟩:=nK h
   have hm:=J7 b x hx
   obtain⟨o,ho,hrel⟩:=hw.blk b i x hbi (hrow b x hm)
   exact⟨o,ho,hrel.restrict hto (hf1 b x hm).1⟩
  ·exact hw.sep _ _ _ _ _ _ (nK h).2 (nK h').2 (hrow _ _ (J7 _ _ hx)) (hrow _ _ (J7 _ _ hx')) he
  ·exact(hf1 b x (J7 b x hx)).2.1
  ·exact hw.lo b i x (nK h).2 (hrow _ _ (J7 _ _ hx))
 have Xl:∀ b i,b ∉ ks→ρ b=some i→∀ x,A.heap.get b=some x→∀ b0 i0,only ρ ks b0=some i0→i0.cb≠i.cb:=by
  intro b i hbk hbi x hx b0 i0 h0 he
  obtain⟨h0k,h0i⟩:=nK h0
  obtain⟨x0,hx0⟩:=hks.1 h0k
  exact hbk (hw.sep _ _ _ _ _ _ h0i hbi (hrow _ _ hx0) hx he▸h0k)
 have main:=AZ hng hm (ht base hI) L n f _ _ _ _ hc (only ρ ks) w us agJ hw0 hb
 split at ha
 ·
  rename_i v0 Xc
  cases ha
  rw[Xc] at h
  dsimp only at h
  simp only[Bool.and_eq_true] at h
  obtain⟨⟨h1,h2⟩,h3⟩:=h
  have hv1:=vw _ _ h2
  subst hv1
  have hkept:=AO _ h3
  refine main.mono fun r w' hR=>?_
  obtain⟨ρ',v',rfl,hst,hwr,hnx,hv⟩:=hR
  have hback:∀ b∈ks,∀ i,ρ' b=some i→ρ b=some i:=fun b hbk i h=>by
   obtain⟨x,hx⟩:=hks.1 hbk
   rw[hst.ext b (hf1 b x hx).2.1,Bv hbk] at h
   exact h
  refine⟨ρ,v',rfl,⟨hst.os,hst.tape,hst.output,hst.size,fun c hc hun=>hst.frame c hc fun b i hbi=>hun b i (nK hbi).2,fun _ _=>rfl,fun b i h=>.inl ⟨b,i,h,rfl⟩,hst.low⟩,⟨fun b i h=>?_,fun b i x hbi hx=>?_,hw.sep,hw.top,hw.lo,hwr.inv⟩,Nat.le_refl _,pK (ks:=[]) (fun b hb=>by cases hb) _ h1 hv⟩
  ·exact⟨(hw.dom b i h).1,Nat.lt_of_lt_of_le (hw.dom b i h).2 hst.size⟩
  ·by_cases hbk:b∈ks
   ·obtain⟨y,hy⟩:=hks.1 hbk
    have hxy:x=y:=by have:=hrow b y hy; rw[hx] at this; exact Option.some.inj this
    subst hxy
    rcases hkept b x hy with hg | hg
    ·cases hg
    ·have hρ' : ρ' b=some i:=by rw[hst.ext b (hf1 b x hy).2.1,Bv hbk]; exact hbi
     obtain⟨o,ho,hrel⟩:=hwr.blk b i x hρ' hg
     exact⟨o,ho,hrel.restrict hback (hf1 b x hy).1⟩
   ·obtain⟨o,ho,hrel⟩:=hw.blk b i x hbi hx
    exact⟨o,by rw[hst.frame _ (hw.dom b i hbi).2 (Xl b i hbk hbi x hx)]; exact ho,hrel⟩
 ·
  rename_i m v0 bs m' Xc
  have hnext:BB e=m:=by unfold BB; rw[Xc]
  rw[Xc] at h
  dsimp only at h
  simp only[Bool.and_eq_true] at h
  obtain⟨⟨⟨h1,h2⟩,h3⟩,h4⟩:=h
  have hv1:=vw _ _ h1
  have h2:=bu h2
  subst hv1
  subst h2
  split at ha <;> first | (cases ha; done) | skip
  rename_i hn
  have hn:=bu hn
  rw[hnext,hn] at main hw0 hf1 h3
  cases ha
  have hrows:=Hl bs h3
  have hkept:=AO _ h4
  refine main.mono fun r w' hR=>?_
  obtain⟨ρ',v',rfl,hst,hwr,hnx,hv⟩:=hR
  dsimp only at hst hnx
  let ρ2:Ren:=fun b=>if b<A.next then ρ b else ρ' b
  have hlo:∀ b,b<A.next→ρ2 b=ρ b:=fun b h=>by simp[ρ2,h]
  have hhi:∀ b,A.next≤b→ρ2 b=ρ' b:=fun b h=>by simp only[ρ2]; rw[if_neg (by omega)]
  have hold:∀ b i,b<A.next→ρ' b=some i→b∈ks∧ρ b=some i:=fun b i h hbi=>by
   rw[hst.ext b h] at hbi
   exact nK hbi
  have hle1:ρ.le ρ2:=fun b i h=>by rw[hlo b (hw.dom b i h).1]; exact h
  have hle2:ρ'.le ρ2:=fun b i h=>by
   rcases Nat.lt_or_ge b A.next with h' | h'
   ·rw[hlo b h']; exact(hold b i h' h).2
   ·rw[hhi b h']; exact h
  -- a row of the outcome: changed or new; or as it was
  have hget:∀ b i x,ρ2 b=some i→(wy (FY A.heap e.dead) bs).get b=some x→(ρ' b=some i∧A1.heap.get b=some x)∨(b ∉ ks∧b<A.next∧ρ b=some i∧A.heap.get b=some x):=by
   intro b i x hbi hx
   rcases xB bs _ hx with hx | ⟨hx,hnb⟩
   ·obtain⟨hwh,hx⟩:=hrows b x hx
    refine .inl ⟨?_,hx⟩
    rcases Nat.lt_or_ge b A.next with h' | h'
    ·rcases hwh with hwh | hwh
     ·omega
     ·rw[hst.ext b h',Bv hwh,← hlo b h']; exact hbi
    ·rw[← hhi b h']; exact hbi
   ·obtain⟨hx,hnd⟩:=CZ _ _ hx
    have hbn:=hw.top b x hx
    rw[hlo b hbn] at hbi
    by_cases hbk:b∈ks
    ·obtain⟨y,hy⟩:=hks.1 hbk
     have hxy:x=y:=by have:=hrow b y hy; rw[hx] at this; exact Option.some.inj this
     subst hxy
     rcases hkept b x hy with hg | hg
     ·rcases List.mem_append.1 hg with hg | hg
      ·obtain⟨z,hz⟩:=Cx.1 hg
       exact absurd hz (hnb z)
      ·exact absurd hg hnd
     ·exact .inl ⟨by rw[hst.ext b hbn,Bv hbk]; exact hbi,hg⟩
    ·exact .inr ⟨hbk,hbn,hbi,hx⟩
  have Kg:∀ b i x b' i' x',b ∉ ks→ρ b=some i→A.heap.get b=some x→ρ' b'=some i'→A1.heap.get b'=some x'→i.cb≠i'.cb:=by
   intro b i x b' i' x' hbk hbi hx hb' hx' he
   rcases hst.fresh b' i' hb' with⟨b0,i0,h0,e0⟩ | hge
   ·exact Xl b i hbk hbi x hx b0 i0 h0 (by rw[e0,he])
   ·have:=(hw.dom b i hbi).2; omega
  refine⟨ρ2,v',rfl,⟨hst.os,hst.tape,hst.output,hst.size,fun c hc hun=>hst.frame c hc fun b i hbi=>hun b i (nK hbi).2,fun b h=>hlo b h,fun b i h=>?_,hst.low⟩,⟨fun b i h=>?_,fun b i x h1 h2=>?_,fun b b' i i' x x' hb hb' hx hx' he=>?_,fun b x h=>?_,fun b i x h1 h2=>?_,hwr.inv⟩,hnx,hv.mono hle2⟩
  ·rcases Nat.lt_or_ge b A.next with h' | h'
   ·rw[hlo b h'] at h; exact .inl ⟨b,i,h,rfl⟩
   ·rw[hhi b h'] at h
    rcases hst.fresh b i h with⟨b0,i0,h0,e0⟩ | hge
    ·exact .inl ⟨b0,i0,(nK h0).2,e0⟩
    ·exact .inr hge
  ·rcases Nat.lt_or_ge b A.next with h' | h'
   ·rw[hlo b h'] at h
    exact⟨Nat.lt_of_lt_of_le (hw.dom b i h).1 hnx,Nat.lt_of_lt_of_le (hw.dom b i h).2 hst.size⟩
   ·rw[hhi b h'] at h
    exact hwr.dom b i h
  ·rcases hget b i x h1 h2 with⟨g1,g2⟩ | ⟨g1,g2,g3,g4⟩
   ·obtain⟨o,ho,hrel⟩:=hwr.blk b i x g1 g2
    exact⟨o,ho,hrel.mono hle2⟩
   ·obtain⟨o,ho,hrel⟩:=hw.blk b i x g3 g4
    exact⟨o,by rw[hst.frame _ (hw.dom b i g3).2 (Xl b i g1 g3 x g4)]; exact ho,hrel.mono hle1⟩
  ·rcases hget b i x hb hx with⟨g1,g2⟩ | ⟨g1,g2,g3,g4⟩ <;> rcases hget b' i' x' hb' hx' with⟨k1,k2⟩ | ⟨k1,k2,k3,k4⟩
   ·exact hwr.sep _ _ _ _ _ _ g1 k1 g2 k2 he
   ·exact absurd he.symm (Kg b' i' x' b i x k1 k3 k4 g1 g2)
   ·exact absurd he (Kg b i x b' i' x' g1 g3 g4 k1 k2)
   ·exact hw.sep _ _ _ _ _ _ g3 k3 g4 k4 he
  ·rcases xB bs _ h with h | ⟨h,_⟩
   ·exact hwr.top b x (hrows b x h).2
   ·exact Nat.lt_of_lt_of_le (hw.top b x (CZ _ _ h).1) hnx
  ·rcases hget b i x h1 h2 with⟨g1,g2⟩ | ⟨g1,g2,g3,g4⟩
   ·exact hwr.lo b i x g1 g2
   ·exact hw.lo b i x g3 g4
def lc (P:Program) (X:Ext) (T:Table) (L n:Nat) (B:Table) : Bool:=B.all fun g=>g.2.all (JC P X (CV T) L n g.1)
theorem jC.nil {I:World→Prop} : jC P I []:=fun g hg=>by cases hg
theorem jC.add (hng:Er P X) (hm:P.follows .mixedOrders=true) {I:World→Prop} {T B:Table} (hT:jC P I T) {L n:Nat} (h:lc P X T L n B=true) : jC P I (B++T):=by
 intro g hg e he
 rcases List.mem_append.1 hg with hg | hg
 ·exact MR hng hm (fun base hI=>AP hI T hT) (List.all_eq_true.1 (List.all_eq_true.1 h g hg) e he)
 ·exact hT g hg e he
open Go.WideShapes Go.ChangeShapes in
open Go.WideShapes Go.ChangeShapes in
theorem vK.val {P:Program} {I:World→Prop} {f:Nat} {args:List AV} {v:AV} (hv:within [] v=true)
  (h:∀ w,I w→∀ (ρ:Ren) us,aW ρ args us→Calls P f ⟨us⟩ w fun e w'=>(∃ u,e=.returned u∧∀ ρ:Ren,ak ρ v u)∧w'=w) : vK P I f { args,ans:=.val v } := by
 intro base hI A v0 A' ha ρ w us hargs hw hb
 simp only[VM,BF] at ha
 cases ha
 refine(h w (hI w hw.inv) ρ us hargs).mono fun e w' hR=>?_
 obtain⟨⟨u,rfl,hu⟩,rfl⟩:=hR
 exact⟨ρ,u,rfl,Step.refl _ _ _,hw,Nat.le_refl _,hu ρ⟩
end
structure Enc (α:Type) where
 size:Nat
 cells:α→List AV
 len:∀ a,(cells a).length=size
 one:∀ a,(cells a).all oneCell=true
section
variable {α:Type} (E:Enc α)
def Enc.row (xs:List α) : List AV:=xs.flatMap E.cells
theorem Enc.jE (x:α) (xs:List α) : E.row (x :: xs)=E.cells x++E.row xs:=rfl
theorem Enc.pU (xs ys:List α) : E.row (xs++ys)=E.row xs++E.row ys:=by simp[Enc.row]
theorem Enc.row_one (x:α) : E.row [x]=E.cells x:=by simp[Enc.row]
theorem Enc.dX:∀ (xs:List α),(E.row xs).length=xs.length * E.size
 | []=>by simp[Enc.row]
 | x :: xs=>by rw[Enc.jE,List.length_append,E.len,Enc.dX xs,List.length_cons,Nat.succ_mul,Nat.add_comm]
theorem Enc.rY:∀ (xs:List α),(E.row xs).all oneCell=true
 | []=>by simp[Enc.row]
 | x :: xs=>by rw[Enc.jE,List.all_append,E.one,Enc.rY xs]; rfl
theorem Enc.rO:∀ (xs:List α) (i:Nat),(E.row xs).drop (i * E.size)=E.row (xs.drop i)
 | [],i=>by simp[Enc.row]
 | x :: xs,0=>by simp
 | x :: xs,i + 1=>by
   rw[Enc.jE,Nat.succ_mul,Nat.add_comm,← List.drop_drop,List.drop_left' (E.len x),Enc.rO xs i]
   rfl
theorem Enc.qX:∀ (xs:List α) (i:Nat),(E.row xs).take (i * E.size)=E.row (xs.take i)
 | [],i=>by simp[Enc.row]
 | x :: xs,0=>by simp[Enc.row]
 | x :: xs,i + 1=>by
   rw[Enc.jE,Nat.succ_mul,Nat.add_comm,List.take_append,List.take_of_length_le (by rw[E.len]; omega),E.len,Nat.add_sub_cancel_left,Enc.qX xs i]
   rfl
theorem Enc.Mm {xs:List α} {i:Nat} (hi:i<xs.length) : ((E.row xs).drop (i * E.size)).take E.size=E.cells xs[i]:=by
 rw[Enc.rO,List.drop_eq_getElem_cons hi,Enc.jE]
 rw[List.take_append_of_le_length (by rw[E.len]; exact Nat.le_refl _),List.take_of_length_le (by rw[E.len]; exact Nat.le_refl _)]
abbrev Sl (M:RM) (v:AV) (xs:List α) : Prop:=aL M E.size v (E.row xs) xs.length
abbrev Ow (M:RM) (base el:Nat) (v:AV) (xs:List α) : Prop:=Own M base el E.size v (E.row xs) xs.length
variable {E} {M M' : RM} {v:AV} {xs:List α}
theorem Sl.elem (h:Sl E M v xs) {i:Nat} (hi:i<xs.length) : ∃ b o,b<M.next∧b∈aD v∧(∀ (kd:IntKind) (K:AV→Prop),ax v (N kd (i:Int)) E.size K=K (.ptr b o))∧M.loads b o E.size=some (E.cells xs[i]):=by
 obtain⟨b,o,cap,rfl,hb,hl⟩:=h.pos (by omega)
 have hsum:i * E.size + E.size≤xs.length * E.size:=by rw[← Nat.succ_mul]; exact Nat.mul_le_mul_right _ hi
 refine⟨b,o + i * E.size,hb,by simp[aD],fun kd K=>?_, ?_⟩
 ·rw[lS]
  simp only[Int.toNat_natCast]
  exact propext ⟨fun h=>h.2.2,fun h=>⟨by omega,by omega,h⟩⟩
 ·rw[wC hl (i * E.size) E.size hsum,E.Mm hi]
theorem Sl.at (h:Sl E M v xs) {i:Nat} (sz:Nat) (j:Int) (hi:i<xs.length) (hsz:E.size=sz:=by rfl) (hj:j=(i:Int):=by rfl) : ∃ b o,b<M.next∧b∈aD v∧(∀ (kd:IntKind) (K:AV→Prop),ax v (N kd j) sz K=K (.ptr b o))∧M.loads b o sz=some (E.cells xs[i]):=by
 subst hsz hj; exact h.elem hi
theorem En {b o k:Nat} {cs:List AV} (h:M.loads b o k=some cs) {j:Nat} {x:AV} (hj:cs[j]?=some x) : M.cell b (o + j)=some x:=by
 have hlt:j<k:=by rw[← ET h]; exact(List.getElem?_eq_some_iff.1 hj).1
 rw[Y1 h j hlt,hj]
theorem uJ {b o k:Nat} {cs:List AV} (h:M.loads b o k=some cs) {x:AV} (hj:cs[0]?=some x) : M.cell b o=some x:=En h hj
theorem Nc {base T bytes:Nat} {zs:List AV} {u:AV} {ys:List α} {K:ai} (ho:Ow E M base T v xs) (hb:base≤M.next) (hs:1≤E.size) (hu:Sl E M u ys)
  (hn:(xs.length + ys.length) * bytes≤140737488355328) (hn2:xs.length + ys.length≤140737488355328)
  (hK:∀ v' M',Ow E M' base T v' (xs++ys)→ag (aD v) M M'→M.next≤M'.next→(v'=v∨∀ b∈aD v',M.next≤b)→K v' M') :
  appW T E.size bytes zs false v u M K:=by
 refine xM ho hb hs (aL.mJ hu _) (E.dX ys) (E.rY ys) hn hn2 ?_
 intro v' M' h1 h2 h3 h4
 refine hK v' M' ?_ h2 h3 h4
 rw[← E.pU] at h1
 simpa [Ow] using h1
theorem Yd {b o k:Nat} {cs:List AV} (h:M.loads b o k=some cs) (m:Nat) (hm:m≤k) : M.loads b o m=some (cs.take m):=wC h 0 m (by omega)
theorem Sl.new {T c:Nat} {p:Bool} (ys:List α) : Sl E (M.push (.row (E.row ys) p T 0)) (.slc M.next 0 ys.length (.ex c)) ys :=
 .slc _ _ _ _ _ (by simp[RM.push]) (by rw[RM.bW (RM.aT _) (by rw[E.dX]; omega),List.drop_zero,← E.dX,List.take_length])
theorem uP {base T bytes:Nat} {zs:List AV} {a:α} {K:ai} (ho:Ow E M base T v xs) (hb:base≤M.next) (hs:1≤E.size)
  (hn:(xs.length + 1) * bytes≤140737488355328) (hn2:xs.length + 1≤140737488355328)
  (hK:∀ v' M',Ow E M' base T v' (xs++[a])→ag (aD v) M M'→M.next≤M'.next→(v'=v∨∀ b∈aD v',M.next≤b)→K v' M') :
  appW T E.size bytes zs false v (.slc M.next 0 1 (.ex 1)) (M.push (.row (E.cells a) false T 0)) K:=by
 have hk:ag [] M (M.push (.row (E.cells a) false T 0)):=(ag.refl _ _).push _
 refine Nc (ys:=[a]) (Own.keep ho hk (by simp)) (Nat.le_trans hb hk.next) hs (by rw[← E.row_one]; exact Sl.new [a]) hn hn2 ?_
 intro v' M' h1 h2 h3 h4
 exact hK v' M' h1 ((hk.mono (by simp)).trans h2) (Nat.le_trans hk.next h3) (h4.imp id fun h b hb=>Nat.le_trans hk.next (h b hb))
@[go_sem] theorem apz {T:Nat} {zs:List AV} {K:RB→(Nat→AV)→Prop} : fw T 0 zs [] K=K (.row [] false T 0) (fun b=>.slc b 0 0 (.ex 0)):=by
 apply propext; unfold fw
 constructor
 ·rintro⟨l,h,hk⟩; cases h; exact hk
 ·intro hk; exact⟨_,rfl,hk⟩
theorem pM {T size:Nat} {zs:List AV} {x:AV} {K:RB→(Nat→AV)→Prop} (h:x.cells.length=size) (h1:x.cells.all oneCell=true) (hz:zs.length=size) :
  fw T 1 zs [(0,size,x)] K=K (.row x.cells false T 0) (fun b=>.slc b 0 1 (.ex 1)):=by
 have:zo (bE zs 1) [(0,size,x)]=some x.cells:=by
  simp only[zo,bE,List.append_nil,h1,h,Nat.zero_add,hz,Nat.le_refl,and_self,if_true,List.take_zero,List.nil_append]
  rw[List.drop_of_length_le (by omega),List.append_nil]
 apply propext; unfold fw
 constructor
 ·rintro⟨l,h,hk⟩; rw[this] at h; cases h; exact hk
 ·intro hk; exact⟨_,this,hk⟩
theorem Ow.lit (E:Enc α) {T:Nat} (M:RM) : Ow E (M.push (.row [] false T 0)) M.next T (.slc M.next 0 0 (.ex 0)) []:=Own.lit M (Nat.le_refl _)
theorem gD {i:Nat} (h:i<9223372036854775807) : IntKind.wrap .i64 ((i:Int) + 1)=((i + 1:Nat) : Int):=by
 rw[bi (by omega) (by omega)]; rfl
end
@[go_sem] theorem Dy:df [] [] []=some true:=rfl
@[go_sem] theorem LH (ks:List Nat) (k:IntKind) (a b:Int) (xs ys:List AV) : df (1 :: ks) (N k a :: xs) (N k b :: ys)=if a=b then df ks xs ys else some false:=by
 simp only[df,tO,if_true]
 by_cases h:a=b
 ·simp[h]
 ·have:(a == b)=false:=by simp[h]
  simp[this,h]
@[go_sem] theorem Lu (ks:List Nat) (a b:List UInt8) (xs ys:List AV) : df (2 :: ks) (St a :: xs) (St b :: ys)=if a=b then df ks xs ys else some false:=by
 simp only[df,tO]
 by_cases h:a=b
 ·simp[h]
 ·have:(a == b)=false:=by simp[h]
  simp[this,h]
@[go_sem] theorem akD (ks:List Nat) (a b:Bool) (xs ys:List AV) : df (3 :: ks) (Bo a :: xs) (Bo b :: ys)=if a=b then df ks xs ys else some false:=by
 simp only[df,tO]
 by_cases h:a=b
 ·simp[h]
 ·have:(a == b)=false:=by simp[h]
  simp[this,h]
theorem vY {neg:Bool} {ks:List Nat} {cs ds:List AV} {r:Bool} {K:AV→Prop} (h1:cs.length=ks.length) (h2:ds.length=ks.length) (h:df ks cs ds=some r) : nI neg ks (.agg cs) (.agg ds) K=K (Bo (r != neg)):=by
 rw[Wl]
 apply propext
 constructor
 ·rintro⟨_,_,r',h',hk⟩; rw[h] at h'; cases h'; exact hk
 ·intro hk; exact⟨h1,h2,r,h,hk⟩
theorem jd (x:AV) (w:Bool) (f g:ai→Prop) (F G:AV→RM→ai→Prop) (k:ai) :
  ah x w f g (fun v M=>ah x w (F v M) (G v M) k)=ah x w (fun k'=>f fun v M=>F v M k') (fun k'=>g fun v M=>G v M k') k:=by
 unfold ah mO
 split
 ·split <;> simp_all
 ·rfl
 ·rfl
theorem gQ (x:AV) (w:Bool) (f g:KR→Prop) (F G:AV→RM→Option Nat→KR→Prop) (k:KR) :
  af x w f g (fun v M b=>af x w (F v M b) (G v M b) k)=af x w (fun k'=>f fun v M b=>F v M b k') (fun k'=>g fun v M b=>G v M b k') k:=by
 unfold af mO
 split
 ·split <;> simp_all
 ·rfl
 ·rfl
theorem fC (x:AV) (w:Bool) (f g:KR→Prop) (F G:AV→RM→Option Nat→ai→Prop) (k:ai) :
  af x w f g (fun v M b=>ah x w (F v M b) (G v M b) k)=ah x w (fun k'=>f fun v M b=>F v M b k') (fun k'=>g fun v M b=>G v M b k') k:=by
 unfold af ah mO
 split
 ·split <;> simp_all
 ·rfl
 ·rfl
theorem gp (x:AV) (w:Bool) (f g:ai→Prop) (F G:AV→RM→KR→Prop) (k:KR) :
  ah x w f g (fun v M=>af x w (F v M) (G v M) k)=af x w (fun k'=>f fun v M=>F v M k') (fun k'=>g fun v M=>G v M k') k:=by
 unfold af ah mO
 split
 ·split <;> simp_all
 ·rfl
 ·rfl
theorem aJ {body:(List AV→RM→Prop)→List AV→RM→Prop} {xs:List AV} {M:RM} (I:Nat→List AV→RM→Prop) (n:Nat) (h0:I n xs M)
  (hb:∀ (next:List AV→RM→Prop) m ys M',(∀ m' zs M'',m'<m→I m' zs M''→next zs M'')→I m ys M'→body next ys M') : aV body xs M :=
 ⟨I,n,h0,fun m ys M' hI=>hb _ m ys M' (fun m' zs M'' hlt h=>⟨m',hlt,h⟩) hI⟩
theorem X0 {P:Program} {I:World→Prop} {T:Table} (hT:jC P I T) {f:FuncId} {args:List AV} {v:AV} {M:RM} {Q:ai} (hP:Bu P f) (hl:∀ A,CV T f args A=some (v,A))
  (hI:∀ w,M.base.inv w→I w) (hQ:Q v M) : fQ P f args M Q:=by
 refine⟨hP,fun ρ w us hargs hw=>?_⟩
 obtain⟨A,hA⟩:=hw
 refine(AP (base:=M.base) hI T hT f args A v A (hl A) ρ w us hargs hA.rel hA.size).mono fun e w' hR=>?_
 obtain⟨ρ',v',rfl,hst,hw',_,hv⟩:=hR
 refine⟨v',v,M,ρ',rfl,lU hA hst hw' rfl hA.next (Nat.le_refl _) (fun b x hx=>?_),hv,hQ⟩
 rcases hA.blk b x hx with h | ⟨c,rfl,_⟩
 ·exact .inl h
 ·exact .inr ⟨c,rfl,hx⟩
abbrev By (b:UInt8) : AV:=N .u8 (b.toNat:Int)
def BY:Enc UInt8:=⟨1,fun b=>[By b],fun _=>rfl,fun _=>rfl⟩
theorem Rf (s:List UInt8) : BY.row s=s.map By:=by
 induction s with
 | nil=>rfl
 | cons b s ih=>rw[Enc.jE,ih]; rfl
def zU:Enc (List UInt8):=⟨1,fun s=>[St s],fun _=>rfl,fun _=>rfl⟩
def INT:Enc Int:=⟨1,fun n=>[N .i64 n],fun _=>rfl,fun _=>rfl⟩
def aS:Enc Nat:=⟨1,fun n=>[N .u64 (n:Int)],fun _=>rfl,fun _=>rfl⟩
theorem MI (s:List Nat) : aS.row s=s.map (fun(s:Nat)=>N .u64 (s:Int)):=by
 induction s with
 | nil=>rfl
 | cons b s ih=>rw[Enc.jE,ih]; rfl
theorem Kc:∀ (s:List UInt8),dB byteOf (s.map By)=some s
 | []=>rfl
 | b :: s=>by
   simp only[List.map_cons,dB,byteOf,Kc s]
   simp
section
variable {α:Type} {E:Enc α} {M M' : RM} {v:AV} {xs:List α}
theorem Sl.str {s:List UInt8} (h:Sl BY M v s) {K:AV→Prop} : BV M v K=K (St s) :=
 TJ (aL.DJ h (by rw[Rf]; exact Kc s))
theorem Sl.Ef (h:Sl E M v xs) {i:Nat} (j:Int) (hi:i<xs.length) (hsz:E.size=1:=by rfl) (hj:j=(i:Int):=by rfl) :
  ∃ b o,b<M.next∧b∈aD v∧(∀ (kd:IntKind) (K:AV→Prop),ax v (N kd j) 1 K=K (.ptr b o))∧∀ x,E.cells xs[i]=[x]→M.cell b o=some x:=by
 obtain⟨b,o,h1,h2,h3,h4⟩:=Sl.at h 1 j hi hsz hj
 exact⟨b,o,h1,h2,h3,fun x hx=>uJ h4 (by rw[hx]; rfl)⟩
structure Rw (E:Enc α) (M:RM) (b:Nat) (opn:Bool) (el:Nat) (xs:List α) : Prop where
 heap:M.heap b=some (.row (E.row xs) opn el 0)
 lt:b<M.next
theorem Rw.sl {b el:Nat} {p:Bool} {cap:Cap} (h:Rw E M b p el xs) : Sl E M (.slc b 0 xs.length cap) xs:=by
 refine .slc _ _ _ _ _ h.lt ?_
 rw[RM.bW h.heap (by rw[E.dX]; omega),List.drop_zero,← E.dX,List.take_length]
theorem Rw.keep {b el:Nat} {p:Bool} {bs:List Nat} (h:Rw E M b p el xs) (hk:ag bs M M') (hb:b ∉ bs) : Rw E M' b p el xs :=
 ⟨hk.aR h.heap h.lt hb,Nat.lt_of_lt_of_le h.lt hk.next⟩
theorem Rw.new {el:Nat} {p:Bool} (M:RM) (xs:List α) : Rw E (M.push (.row (E.row xs) p el 0)) M.next p el xs :=
 ⟨RM.aT _,by simp[RM.push]⟩
theorem Rw.load {b el:Nat} {p:Bool} (h:Rw E M b p el xs) {i:Nat} (hi:i<xs.length) : M.loads b (i * E.size) E.size=some (E.cells xs[i]):=by
 have hsum:i * E.size + E.size≤xs.length * E.size:=by rw[← Nat.succ_mul]; exact Nat.mul_le_mul_right _ hi
 rw[RM.bW h.heap (by rw[E.dX]; exact hsum),E.Mm hi]
theorem Enc.Mo (E:Enc α) {xs:List α} {i:Nat} (hi:i<xs.length) (x:α) : E.row (xs.set i x)=(E.row xs).take (i * E.size)++E.cells x++(E.row xs).drop (i * E.size + E.size):=by
 rw[E.qX,← Nat.succ_mul,E.rO,List.set_eq_take_append_cons_drop,if_pos hi,E.pU,E.jE,List.append_assoc]
theorem Rw.store {b el:Nat} {p:Bool} (h:Rw E M b p el xs) {i:Nat} (hi:i<xs.length) (x:α) :
  M.stores b (i * E.size) (E.cells x)=some (M.put b (.row (E.row (xs.set i x)) p el 0))∧Rw E (M.put b (.row (E.row (xs.set i x)) p el 0)) b p el (xs.set i x):=by
 have hsum:i * E.size + E.size≤xs.length * E.size:=by rw[← Nat.succ_mul]; exact Nat.mul_le_mul_right _ hi
 refine⟨?_,RM.qY _ _,h.lt⟩
 rw[RM.xc h.heap (by rw[E.len,E.dX]; exact hsum) (Nat.zero_le _) (E.one x),E.Mo hi,E.len]
theorem Rw.aj {b el:Nat} {p:Bool} (h:Rw E M b p el xs) {i:Nat} (hi:i<xs.length) (hsz:E.size=1:=by rfl) {x:AV} (hx:E.cells xs[i]=[x]:=by rfl) : M.cell b i=some x:=by
 have:=h.load hi
 rw[hsz,Nat.mul_one] at this
 exact uJ this (by rw[hx]; rfl)
theorem Rw.ZG {b el:Nat} {p:Bool} (h:Rw E M b p el xs) {i:Nat} (hi:i<xs.length) (x:α) (hsz:E.size=1:=by rfl) {u:AV} (hx:E.cells x=[u]:=by rfl) :
  M.stores b i [u]=some (M.put b (.row (E.row (xs.set i x)) p el 0))∧Rw E (M.put b (.row (E.row (xs.set i x)) p el 0)) b p el (xs.set i x):=by
 have:=h.store hi x
 rw[hsz,Nat.mul_one,hx] at this
 exact this
end
@[go_sem] theorem Ol (el:Nat) (s:List UInt8) (K:RB→(Nat→AV)→Prop) : FW el (St s) K=K (.row (BY.row s) true el 0) (fun b=>.slc b 0 s.length (.op 1)):=by
 rw[Rf]
 apply propext; unfold FW
 constructor
 ·rintro⟨s',h,hk⟩; cases h; exact hk
 ·intro hk; exact⟨s,rfl,hk⟩
def an2 (b:UInt8) : UInt8:=if 65≤b.toNat∧b.toNat≤90 then b + 32 else b
def low (s:List UInt8) : List UInt8:=s.map an2
def upTo (f:UInt8→UInt8) (i:Nat) (s:List UInt8) : List UInt8:=(s.take i).map f++s.drop i
theorem Zr (f:UInt8→UInt8) (s:List UInt8) : upTo f 0 s=s:=by simp[upTo]
theorem abH (f:UInt8→UInt8) (s:List UInt8) : upTo f s.length s=s.map f:=by simp[upTo]
theorem JB (f:UInt8→UInt8) (i:Nat) (s:List UInt8) : (upTo f i s).length=s.length:=by
 simp[upTo]; omega
theorem Qp (f:UInt8→UInt8) {i:Nat} {s:List UInt8} (hi:i<s.length) : (upTo f i s)[i]?=some s[i]:=by
 simp only[upTo]
 rw[List.getElem?_append_right (by simp; omega)]
 simp
 rw[Nat.min_eq_left (by omega),Nat.sub_self,Nat.add_zero,List.getElem?_eq_getElem hi]
theorem QM (f:UInt8→UInt8) {i:Nat} {s:List UInt8} (hi:i<s.length) : (upTo f i s).set i (f s[i])=upTo f (i + 1) s:=by
 simp only[upTo]
 have hl:((s.take i).map f).length=i:=by simp; omega
 rw[List.set_append_right _ _ (by omega),hl,Nat.sub_self,List.drop_eq_getElem_cons hi,List.set_cons_zero,List.take_succ_eq_append_getElem hi,List.map_append,List.append_assoc]
 rfl
theorem Y2 (f:UInt8→UInt8) {i:Nat} {s:List UInt8} (hi:i<s.length) (h:f s[i]=s[i]) : upTo f (i + 1) s=upTo f i s:=by
 rw[← QM f hi,h]
 apply List.ext_getElem?
 intro j
 rw[List.getElem?_set]
 split
 ·rename_i e; subst e
  rw[Qp f hi]; simp[JB,hi]
 ·rfl
theorem Xx (b:UInt8) : b.toNat<256:=b.toNat_lt
structure nJ (n:Nat) (bs:List Nat) (M M' : RM) : Prop where
 base:M'.base=M.base
 next:M.next≤M'.next
 heap:∀ c,c<n→c ∉ bs→M'.heap c=M.heap c
theorem nJ.refl (n:Nat) (bs:List Nat) (M:RM) : nJ n bs M M:=⟨rfl,Nat.le_refl _,fun _ _ _=>rfl⟩
theorem nJ.trans {n:Nat} {bs:List Nat} {M M1 M2:RM} (h:nJ n bs M M1) (k:nJ n bs M1 M2) : nJ n bs M M2 :=
 ⟨k.base.trans h.base,Nat.le_trans h.next k.next,fun c h1 h2=>(k.heap c h1 h2).trans (h.heap c h1 h2)⟩
theorem ag.to {bs cs:List Nat} {n:Nat} {M M' : RM} (h:ag bs M M') (hn:n≤M.next) (hb:∀ b∈bs,n≤b∨b∈cs) : nJ n cs M M' :=
 ⟨h.base,h.next,fun c h1 h2=>h.heap c (Nat.lt_of_lt_of_le h1 hn) (fun hm=>by rcases hb c hm with h3 | h3; omega; exact h2 h3)⟩
theorem ag.aeK {bs cs:List Nat} {n:Nat} {M0 M M' : RM} (h:ag bs M0 M) (k:nJ n cs M M') (hn:M0.next≤n) (hc:∀ c∈cs,M0.next≤c∨c∈bs) : ag bs M0 M' :=
 ⟨k.base.trans h.base,Nat.le_trans h.next k.next,fun c h1 h2=>by
  rw[k.heap c (Nat.lt_of_lt_of_le h1 hn) (fun hm=>by rcases hc c hm with h3 | h3; omega; exact h2 h3),h.heap c h1 h2]⟩
theorem nJ.aR {n:Nat} {bs:List Nat} {M M' : RM} (h:nJ n bs M M') {b:Nat} {x:RB} (hh:M.heap b=some x) (hlt:b<n) (hb:b ∉ bs) : M'.heap b=some x:=by rw[h.heap b hlt hb,hh]
theorem Own.same {M M' : RM} {n el size n0:Nat} {v:AV} {cs:List AV} (h:Own M n0 el size v cs n) (hn:M'.next=M.next) (hb:∀ c∈aD v,M'.heap c=M.heap c) (hbase:M'.base=M.base) : Own M' n0 el size v cs n:=by
 cases h with
 | nil=>exact .nil
 | ex0 b o h1 h2 h3=>exact .ex0 b o h1 (by omega) (by simpa [RM.Ik,hb b (by simp[aD]),RM.lo,hbase] using h3)
 | op b n cs h1 h2 h3 h4=>exact .op b n cs h1 (by omega) (by rw[hb b (by simp[aD]),h3]) h4
theorem Own.one {M:RM} {n el size n0:Nat} {v:AV} {cs:List AV} (h:Own M n0 el size v cs n) : oneCell v=true:=by
 cases h <;> rfl
def YT (B:Base) (c:au) : Prop:=∀ {M:RM} {Q:ai},M.base=B→Q (Bo true) M→c [] M Q
theorem Own.cells {M:RM} {n el size n0:Nat} {v:AV} {cs:List AV} (h:Own M n0 el size v cs n) : v.cells=[v]:=by
 cases h <;> rfl
section
variable {P:Program} {ρ:Ren} {M:RM} {w w' : World}
theorem bC.below {base:Base} {A:AW} (h:bC P base ρ A w) (hb:Below w.heap.size w w') (hn:base.n≤w.heap.size) : bC P base ρ A w' where
 dom b i hbi:=⟨(h.dom b i hbi).1,Nat.lt_of_lt_of_le (h.dom b i hbi).2 hb.size⟩
 blk b i x hbi hx:=let ⟨o,ho,hr⟩:=h.blk b i x hbi hx; ⟨o,by rw[hb.block _ (h.dom b i hbi).2]; exact ho,hr⟩
 sep:=h.sep
 top:=h.top
 lo:=h.lo
 inv:=base.low w w' (fun c hc=>hb.block c (Nat.lt_of_lt_of_le hc hn)) h.inv
theorem Step.of_below {base n:Nat} (hb:Below w.heap.size w w') (hn:base≤w.heap.size) : Step base n ρ w ρ w' where
 os:=hb.os
 tape:=hb.tape
 output:=hb.output
 size:=hb.size
 frame c hc _:=hb.block c hc
 ext _ _:=rfl
 fresh b i h:=.inl ⟨b,i,h,rfl⟩
 low c hc:=hb.block c (Nat.lt_of_lt_of_le hc hn)
theorem After.below (h:dw P ρ M w) (hb:Below w.heap.size w w') : After P M ρ w M ρ w':=by
 obtain⟨A,hA⟩:=h
 refine lU hA (Step.of_below hb hA.size) (hA.rel.below hb hA.size) rfl hA.next (Nat.le_refl _) fun b x hx=>?_
 rcases hA.blk b x hx with h | ⟨c,rfl,_⟩
 ·exact .inl h
 ·exact .inr ⟨c,rfl,hx⟩
theorem dw.inv (h:dw P ρ M w) : M.base.inv w:=by
 obtain⟨A,hA⟩:=h
 exact hA.rel.inv
theorem fQ.abf {f:FuncId} {args:List AV} {v:AV} {Q:ai} (hP:Bu P f)
  (h:∀ (ρ:Ren) (w:World) (us:List Value),aW ρ args us→dw P ρ M w→Calls P f ⟨us⟩ w fun e w'=>∃ v',e=.returned v'∧Below w.heap.size w w'∧ak ρ v v') (hQ:Q v M) : fQ P f args M Q:=by
 refine⟨hP,fun ρ w us hargs hw=>(h ρ w us hargs hw).mono fun e w' hR=>?_⟩
 obtain⟨v',rfl,hb,hv⟩:=hR
 exact⟨v',v,M,ρ,rfl,After.below hw hb,hv,hQ⟩
end
structure qa (α:Type) where
 size:Nat
 rel:RM→List AV→α→(Nat→Prop)→Prop
 len:∀ {M cs a S},rel M cs a S→cs.length=size
 one:∀ {M cs a S},rel M cs a S→cs.all oneCell=true
 mono:∀ {M cs a S S'},rel M cs a S→(∀ b,S b→S' b)→rel M cs a S'
 lt:∀ {M cs a S},rel M cs a S→rel M cs a (fun b=>S b∧b<M.next)
 keep:∀ {M M' cs a S bs},rel M cs a S→ag bs M M'→(∀ b∈bs,¬ S b)→rel M' cs a S
def Enc.zJ {α:Type} (E:Enc α) : qa α where
 size:=E.size
 rel _ cs a _:=cs=E.cells a
 len h:=by subst h; exact E.len _
 one h:=by subst h; exact E.one _
 mono h _:=h
 lt h:=h
 keep h _ _:=h
inductive dJ {α:Type} (R:qa α) (M:RM) (S:Nat→Prop) : List AV→List α→Prop
 | nil:dJ R M S [] []
 | cons {cs ds:List AV} {a:α} {xs:List α} : R.rel M cs a S→dJ R M S ds xs→dJ R M S (cs++ds) (a :: xs)
section
variable {α:Type} {R:qa α} {M M' : RM} {S S' : Nat→Prop} {cs ds:List AV} {xs ys:List α} {a:α}
theorem dJ.len (h:dJ R M S cs xs) : cs.length=xs.length * R.size:=by
 induction h with
 | nil=>simp
 | cons h1 _ ih=>rw[List.length_append,R.len h1,ih,List.length_cons,Nat.succ_mul,Nat.add_comm]
theorem dJ.one (h:dJ R M S cs xs) : cs.all oneCell=true:=by
 induction h with
 | nil=>rfl
 | cons h1 _ ih=>rw[List.all_append,R.one h1,ih]; rfl
theorem dJ.mono (h:dJ R M S cs xs) (hs:∀ b,S b→S' b) : dJ R M S' cs xs:=by
 induction h with
 | nil=>exact .nil
 | cons h1 _ ih=>exact .cons (R.mono h1 hs) ih
theorem dJ.lt (h:dJ R M S cs xs) : dJ R M (fun b=>S b∧b<M.next) cs xs:=by
 induction h with
 | nil=>exact .nil
 | cons h1 _ ih=>exact .cons (R.lt h1) ih
theorem dJ.keep {bs:List Nat} (h:dJ R M S cs xs) (hk:ag bs M M') (hb:∀ b∈bs,¬ S b) : dJ R M' S cs xs:=by
 induction h with
 | nil=>exact .nil
 | cons h1 _ ih=>exact .cons (R.keep h1 hk hb) ih
theorem dJ.append (h:dJ R M S cs xs) (k:dJ R M S ds ys) : dJ R M S (cs++ds) (xs++ys):=by
 induction h with
 | nil=>exact k
 | cons h1 _ ih=>rw[List.append_assoc]; exact .cons h1 ih
theorem dJ.single (h:R.rel M cs a S) : dJ R M S cs [a]:=by
 have:=dJ.cons h .nil
 simpa using this
theorem dJ.get (h:dJ R M S cs xs) : ∀ {i:Nat} (hi:i<xs.length),R.rel M ((cs.drop (i * R.size)).take R.size) xs[i] S:=by
 induction h with
 | nil=>intro i hi; simp at hi
 | cons h1 h2 ih =>
   rename_i c1 d1 a1 x1
   intro i hi
   cases i with
   | zero =>
     rw[Nat.zero_mul,List.drop_zero,List.take_append_of_le_length (by rw[R.len h1]; exact Nat.le_refl _),List.take_of_length_le (by rw[R.len h1]; exact Nat.le_refl _)]
     exact h1
   | succ i =>
     rw[Nat.succ_mul,Nat.add_comm,← List.drop_drop,List.drop_left' (R.len h1)]
     exact ih (by simpa using hi)
theorem dJ.take (h:dJ R M S cs xs) : ∀ (k:Nat),dJ R M S (cs.take (k * R.size)) (xs.take k):=by
 induction h with
 | nil=>intro k; simp; exact .nil
 | cons h1 h2 ih =>
   intro k
   cases k with
   | zero=>simp; exact .nil
   | succ k =>
     rw[Nat.succ_mul,Nat.add_comm,List.take_append,List.take_of_length_le (by rw[R.len h1]; omega),R.len h1,Nat.add_sub_cancel_left]
     exact .cons h1 (ih k)
theorem dJ.drop (h:dJ R M S cs xs) : ∀ (k:Nat),dJ R M S (cs.drop (k * R.size)) (xs.drop k):=by
 induction h with
 | nil=>intro k; simp; exact .nil
 | cons h1 h2 ih =>
   intro k
   cases k with
   | zero=>simp; exact .cons h1 h2
   | succ k =>
     rw[Nat.succ_mul,Nat.add_comm,← List.drop_drop,List.drop_left' (R.len h1)]
     exact ih k
theorem dJ.cells {E:Enc α} : ∀ {cs:List AV} {xs:List α},dJ E.zJ M S cs xs→cs=E.row xs
 | _,_,.nil=>rfl
 | _,_,.cons h1 h2=>by rw[Enc.jE,dJ.cells h2]; rw[show _=_ from h1]
theorem dJ.of_cells {E:Enc α} : ∀ (xs:List α),dJ E.zJ M S (E.row xs) xs
 | []=>.nil
 | x :: xs=>by rw[Enc.jE]; exact .cons rfl (dJ.of_cells xs)
def gV (R:qa α) (M:RM) (v:AV) (xs:List α) (S:Nat→Prop) : Prop :=
 ∃ cs,aL M R.size v cs xs.length∧(∀ b∈aD v,S b)∧dJ R M S cs xs
theorem aL.lt {size n:Nat} {v:AV} (h:aL M size v cs n) : ∀ b∈aD v,b<M.next:=by
 cases h with
 | nil=>intro b hb; simp[aD] at hb
 | emp=>intro b hb; simp[aD] at hb
 | slc b o n cap cs hb _=>intro c hc; simp[aD] at hc; omega
theorem aL.one {size n:Nat} {v:AV} (h:aL M size v cs n) : oneCell v=true:=by
 cases h <;> rfl
theorem aL.cells {size n:Nat} {v:AV} (h:aL M size v cs n) : v.cells=[v]:=by
 cases h <;> rfl
variable {v:AV}
theorem gV.mono (h:gV R M v xs S) (hs:∀ b,S b→S' b) : gV R M v xs S':=let ⟨cs,h1,h2,h3⟩:=h; ⟨cs,h1,fun b hb=>hs b (h2 b hb),h3.mono hs⟩
theorem gV.lt (h:gV R M v xs S) : gV R M v xs (fun b=>S b∧b<M.next):=let ⟨cs,h1,h2,h3⟩:=h; ⟨cs,h1,fun b hb=>⟨h2 b hb,h1.lt b hb⟩,h3.lt⟩
theorem gV.keep {bs:List Nat} (h:gV R M v xs S) (hk:ag bs M M') (hb:∀ b∈bs,¬ S b) : gV R M' v xs S :=
 let ⟨cs,h1,h2,h3⟩:=h; ⟨cs,h1.keep hk (fun b hv hbs=>hb b hbs (h2 b hv)),h2,h3.keep hk hb⟩
theorem gV.len (h:gV R M v xs S) {K:AV→Prop} : bH v K=K (N .i64 xs.length):=let ⟨cs,h1,_,_⟩:=h; h1.len
theorem gV.one (h:gV R M v xs S) : oneCell v=true:=let ⟨cs,h1,_,_⟩:=h; h1.one
theorem gV.cells (h:gV R M v xs S) : v.cells=[v]:=let ⟨cs,h1,_,_⟩:=h; h1.cells
theorem gV.nil:gV R M bO [] S:=⟨[],.nil,by simp[aD],.nil⟩
theorem gV.sl {E:Enc α} (h:gV E.zJ M v xs S) : Sl E M v xs:=by
 obtain⟨cs,h1,h2,h3⟩:=h
 rw[h3.cells] at h1
 exact h1
theorem gV.Xr {E:Enc α} (h:Sl E M v xs) (hs:∀ b∈aD v,S b) : gV E.zJ M v xs S:=⟨_,h,hs,dJ.of_cells xs⟩
theorem gV.at (h:gV R M v xs S) {i:Nat} (sz:Nat) (j:Int) (hi:i<xs.length) (hsz:R.size=sz:=by rfl) (hj:j=(i:Int):=by rfl) :
  ∃ b o cs,b<M.next∧b∈aD v∧(∀ (kd:IntKind) (K:AV→Prop),ax v (N kd j) sz K=K (.ptr b o))∧M.loads b o sz=some cs∧R.rel M cs xs[i] S:=by
 subst hsz hj
 obtain⟨cs,h1,h2,h3⟩:=h
 obtain⟨b,o,cap,rfl,hb,hl⟩:=h1.pos (by omega)
 have hsum:i * R.size + R.size≤xs.length * R.size:=by rw[← Nat.succ_mul]; exact Nat.mul_le_mul_right _ hi
 refine⟨b,o + i * R.size,(cs.drop (i * R.size)).take R.size,hb,by simp[aD],fun kd K=>?_, ?_,h3.get hi⟩
 ·rw[lS]
  simp only[Int.toNat_natCast]
  exact propext ⟨fun h=>h.2.2,fun h=>⟨by omega,by omega,h⟩⟩
 ·rw[wC hl (i * R.size) R.size hsum]
def qa.slice (R:qa α) : qa (List α) where
 size:=1
 rel M cs xs S:=∃ v,cs=[v]∧gV R M v xs S
 len h:=by obtain⟨v,rfl,_⟩:=h; rfl
 one h:=by obtain⟨v,rfl,h⟩:=h; simp[h.one]
 mono h hs:=by obtain⟨v,rfl,h⟩:=h; exact⟨v,rfl,h.mono hs⟩
 lt h:=by obtain⟨v,rfl,h⟩:=h; exact⟨v,rfl,h.lt⟩
 keep h hk hb:=by obtain⟨v,rfl,h⟩:=h; exact⟨v,rfl,h.keep hk hb⟩
def l6 (R:qa α) (M:RM) (base el:Nat) (v:AV) (xs:List α) (S:Nat→Prop) : Prop :=
 ∃ cs,Own M base el R.size v cs xs.length∧dJ R M S cs xs
theorem l6.nil {base el:Nat} : l6 R M base el bO [] S:=⟨[],.nil,.nil⟩
theorem l6.mono {base el:Nat} (h:l6 R M base el v xs S) (hs:∀ b,S b→S' b) : l6 R M base el v xs S':=let ⟨cs,h1,h2⟩:=h; ⟨cs,h1,h2.mono hs⟩
theorem l6.lt {base el:Nat} (h:l6 R M base el v xs S) : l6 R M base el v xs (fun b=>S b∧b<M.next):=let ⟨cs,h1,h2⟩:=h; ⟨cs,h1,h2.lt⟩
theorem l6.keep {base el:Nat} {bs:List Nat} (h:l6 R M base el v xs S) (hk:ag bs M M') (hb:∀ b∈bs,¬ S b) (hv:∀ b∈aD v,b ∉ bs) : l6 R M' base el v xs S :=
 let ⟨cs,h1,h2⟩:=h; ⟨cs,h1.keep hk hv,h2.keep hk hb⟩
theorem l6.len {base el:Nat} (h:l6 R M base el v xs S) {K:AV→Prop} : bH v K=K (N .i64 xs.length):=let ⟨cs,h1,_⟩:=h; h1.kU.len
theorem l6.blk {base el:Nat} (h:l6 R M base el v xs S) : ∀ b∈aD v,base≤b∧b<M.next:=let ⟨cs,h1,_⟩:=h; h1.blk
theorem l6.slD {base el:Nat} (h:l6 R M base el v xs S) (hs:∀ b,base≤b→b<M.next→S b) : gV R M v xs S :=
 let ⟨cs,h1,h2⟩:=h; ⟨cs,h1.kU,fun b hb=>hs b (h1.blk b hb).1 (h1.blk b hb).2,h2⟩
theorem l6.cells {base el:Nat} (h:l6 R M base el v xs S) : v.cells=[v]:=let ⟨cs,h1,_⟩:=h; h1.cells
theorem l6.one {base el:Nat} (h:l6 R M base el v xs S) : oneCell v=true:=let ⟨cs,h1,_⟩:=h; h1.one
theorem l6.app {base T bytes:Nat} {zs:List AV} {K:ai} (ho:l6 R M base T v xs S) (ha:R.rel M cs a S) (hb:base≤M.next) (hs:1≤R.size)
  (hd:∀ b∈aD v,¬ S b) (hS:∀ b,S b→b<M.next)
  (hn:(xs.length + 1) * bytes≤140737488355328) (hn2:xs.length + 1≤140737488355328)
  (hK:∀ v' M',l6 R M' base T v' (xs++[a]) S→ag (aD v) M M'→M.next≤M'.next→(v'=v∨∀ b∈aD v',M.next≤b)→(∀ b∈aD v',¬ S b)→K v' M') :
  appW T R.size bytes zs false v (.slc M.next 0 1 (.ex 1)) (M.push (.row cs false T 0)) K:=by
 obtain⟨ds,h1,h2⟩:=ho
 have hk:ag [] M (M.push (.row cs false T 0)):=(ag.refl _ _).push _
 have hl:=R.len ha
 have hnl:mJ (M.push (.row cs false T 0)) R.size zs false (.slc M.next 0 1 (.ex 1))=some (1,cs):=by
  simp only[mJ,Nat.one_mul]
  rw[RM.bW (RM.aT _) (by omega),List.drop_zero,← hl,List.take_length]
 refine xM (h1.keep hk (by simp)) (Nat.le_trans hb hk.next) hs hnl (by rw[hl,Nat.one_mul]) (R.one ha) hn hn2 ?_
 intro v' M' q1 q2 q3 q4
 have kk:ag (aD v) M M':=(hk.mono (by simp)).trans q2
 refine hK v' M' ⟨_,by simpa using q1, ?_⟩ kk (Nat.le_trans hk.next q3) (q4.imp id fun h b hb=>Nat.le_trans hk.next (h b hb)) ?_
 ·exact(h2.keep kk hd).append (dJ.single (R.keep ha kk hd))
 ·rcases q4 with rfl | q4
  ·exact hd
  ·intro b hb hSb
   have:=q4 b hb
   have:=hS b hSb
   simp only[RM.push] at *
   omega
end
section
variable {M M' : RM} {b i n e f:Nat} {l:List AV} {p:Bool} {x:AV}
theorem av {K:AV→Prop} (h:M.heap b=some (.row l p e f)) (hx:l[i]?=some x) : aj M (.ptr b i) K=K x:=by
 rw[iy,RM.cell_of h,hx]; simp
theorem eX {K:AV→Prop} (h:M.heap b=some (.row l p e f)) (hn:l.length=n) : aF M (.ptr b 0) n K=K (.agg l):=by
 rw[fK,RM.QF h]
 have:wu (some l) 0 n=some l:=by simp[wu,← hn]
 rw[this]; simp
theorem fT {K:RM→Prop} (h:M.heap b=some (.row l p e 0)) (hi:i<l.length) (hc:x.cells=[x]) (h1:oneCell x=true) : aG M (.ptr b i) x 1 K=K (M.put b (.row (l.set i x) p e 0)):=by
 rw[tY,hc,RM.vW h,oP (by simp only[List.length_cons,List.length_nil]; omega) (Nat.zero_le _) (by simp[h1])]
 have:l.take i++[x]++l.drop (i + 1)=l.set i x:=by
  rw[List.set_eq_take_append_cons_drop,if_pos hi]; simp
 simp[this]
theorem F6 {K:RM→Prop} (l' : List AV) (h:M.heap b=some (.row l p e 0)) (hi:i<l.length) (hc:x.cells=[x]) (h1:oneCell x=true) (hl:l.set i x=l') : aG M (.ptr b i) x 1 K=K (M.put b (.row l' p e 0)):=by
 rw[fT h hi hc h1,hl]
theorem bB {K:AV→Prop} : aI (.ptr b 0) n K=K (.ptr b n):=by rw[aX,Nat.zero_add]
theorem fD {K:RM→Prop} (h:M.heap b=some (.row l p e 0)) (hn:x.cells.length=n) (hl:l.length=n) (h1:x.cells.all oneCell=true) : aG M (.ptr b 0) x n K=K (M.put b (.row x.cells p e 0)):=by
 rw[tY,RM.vW h,OM (by rw[hn,hl]) h1]
 simp[hn]
theorem qy {c:Nat} {y z:RB} (h:M.heap b=some y) (hb:b≠c) : (M.put c z).heap b=some y:=by
 simp only[RM.put]; rw[if_neg hb]; exact h
theorem aU (y:RB) : (M.put b y).heap b=some y:=RM.qY _ _
theorem mo {y z:RB} (h:M.heap b=some y) (hb:b<M.next) : (M.push z).heap b=some y:=by
 simp only[RM.push]; rw[if_neg (by omega)]; exact h
theorem sI (y:RB) : (M.push y).next=M.next + 1:=rfl
theorem nC (c:Nat) (y:RB) : (M.put c y).next=M.next:=rfl
theorem ag.new {bs:List Nat} (h:ag bs M M') {b:Nat} (y:RB) (hb:M.next≤b) : ag bs M (M'.put b y):=h.put y (.inl hb)
end
variable {M:RM}
theorem oW {a:AV} {l:List AV} {K:AV→Prop} : gu (.tup (a :: l)) 0 K=K a:=by rw[Rl]; simp
theorem o8 {a b:AV} {l:List AV} {K:AV→Prop} : gu (.tup (a :: b :: l)) 1 K=K b:=by rw[Rl]; simp
theorem dH {p q:Prop} : ay (Bo true) p q=p:=by simp[Qz]
theorem bG {p q:Prop} : ay (Bo false) p q=q:=by simp[Qz]
theorem aH {b:Bool} {p q:Prop} (h1:b=true→p) (h2:b=false→q) : ay (Bo b) p q:=⟨h1,h2⟩
theorem dG {f g:ai→Prop} {k:ai} : ah (Bo true) true f g k=f k:=rfl
theorem fM {f g:ai→Prop} {k:ai} : ah (Bo false) false f g k=f k:=rfl
theorem lv {f g:ai→Prop} {k:ai} : ah (Bo true) false f g k=g k:=rfl
theorem bN {f g:ai→Prop} {k:ai} : ah (Bo false) true f g k=g k:=rfl
theorem r9 {f g:KR→Prop} {k:KR} : af (Bo true) true f g k=f k:=rfl
theorem zV {f g:KR→Prop} {k:KR} : af (Bo false) false f g k=f k:=rfl
theorem EM {f g:KR→Prop} {k:KR} : af (Bo true) false f g k=g k:=rfl
theorem rQ {f g:KR→Prop} {k:KR} : af (Bo false) true f g k=g k:=rfl
theorem Di {w:Bool} {f g:ai→Prop} {k:ai} : ah .undef w f g k=g k:=rfl
theorem aaS {w:Bool} {f g:KR→Prop} {k:KR} : af .undef w f g k=g k:=rfl
theorem eT {a b:AV} {K:AV→Prop} : aK (Bo true) a b K=K a:=by rw[Rk]; rfl
theorem dh {a b:AV} {K:AV→Prop} : aK (Bo false) a b K=K b:=by rw[Rk]; rfl
theorem aL.known {size:Nat} {v:AV} {cs:List AV} {n:Nat} (h:aL M size v cs n) : known v=true:=by
 cases h <;> rfl
theorem dL {t:TypeId} {cs:List AV} {K:RB→(Nat→AV)→Prop} (h1:cs.all oneCell=true) (h2:1≤cs.length) : ji t (.agg cs) K=K (.row cs false t 0) (fun b=>.ptr b 0):=by
 unfold ji
 exact propext ⟨fun h=>h.2.2,fun h=>⟨h1,h2,h⟩⟩
theorem ahI {x y a b:AV} (h1:known x=true) (h2:x.cells=[x]) (h3:known y=true) (h4:y.cells=[y]) : zP [a,b] [(0,1,x),(1,1,y)]=some [x,y]:=by
 simp[zP,h1,h2,h3,h4]
def qa.pre {α β:Type} (E:Enc α) (R:qa β) : qa (α × β) where
 size:=E.size + R.size
 rel M cs a S:=∃ ds,cs=E.cells a.1++ds∧R.rel M ds a.2 S
 len h:=by obtain⟨ds,rfl,h⟩:=h; rw[List.length_append,E.len,R.len h]
 one h:=by obtain⟨ds,rfl,h⟩:=h; rw[List.all_append,E.one,R.one h]; rfl
 mono h hs:=by obtain⟨ds,rfl,h⟩:=h; exact⟨ds,rfl,R.mono h hs⟩
 lt h:=by obtain⟨ds,rfl,h⟩:=h; exact⟨ds,rfl,R.lt h⟩
 keep h hk hb:=by obtain⟨ds,rfl,h⟩:=h; exact⟨ds,rfl,R.keep h hk hb⟩
def qa.post {α β:Type} (R:qa α) (E:Enc β) : qa (α × β) where
 size:=R.size + E.size
 rel M cs a S:=∃ ds,cs=ds++E.cells a.2∧R.rel M ds a.1 S
 len h:=by obtain⟨ds,rfl,h⟩:=h; rw[List.length_append,E.len,R.len h]
 one h:=by obtain⟨ds,rfl,h⟩:=h; rw[List.all_append,E.one,R.one h]; rfl
 mono h hs:=by obtain⟨ds,rfl,h⟩:=h; exact⟨ds,rfl,R.mono h hs⟩
 lt h:=by obtain⟨ds,rfl,h⟩:=h; exact⟨ds,rfl,R.lt h⟩
 keep h hk hb:=by obtain⟨ds,rfl,h⟩:=h; exact⟨ds,rfl,R.keep h hk hb⟩
def qa.map {α β:Type} (R:qa α) (g:β→α) : qa β where
 size:=R.size
 rel M cs a S:=R.rel M cs (g a) S
 len h:=R.len h
 one h:=R.one h
 mono h hs:=R.mono h hs
 lt h:=R.lt h
 keep h hk hb:=R.keep h hk hb
end Go.Ab
set_option maxRecDepth 10000
namespace Go.Ab.aB
open Go Go.Ab
def vJ (c:au) : Prop:=∀ {M:RM} {x y:Nat} {Q:ai},Q (Bo (decide (x<y))) M→c [N .u64 (x:Int),N .u64 (y:Int)] M Q
theorem Ky {M:RM} {x:Nat} {Q:ai} (h:Q (Bo false) M) : pF (N .u64 (x:Int)) M Q:=by
 unfold pF
 rw[jH,bne_self_eq_false]; exact h
theorem Ua {M:RM} {x:Nat} {Q:ai} (h:Q (Bo false) M) : rq (N .u64 (x:Int)) M Q:=by
 unfold rq
 rw[jH,bne_self_eq_false]; exact h
def XU (c:au) : Prop:=∀ {M:RM} {x:Nat} {Q:ai},Q (Bo false) M→c [N .u64 (x:Int)] M Q
theorem ZA {cn:au} (hn:XU cn) : vJ fun args M Q=>∃ a0 a1,args=[a0,a1]∧wS cn a0 a1 M Q:=by
 intro M x y Q hQ
 refine⟨_,_,rfl, ?_⟩
 unfold wS
 simp only[jd]
 refine hn ?_
 rw[bN]
 dsimp only
 rw[dh,fM,cK]
 dsimp only
 rw[dh,show decide ((x:Int)<(y:Int))=decide (x<y) by simp]
 exact hQ
def Asc (xs:List Nat) : Prop:=xs.Pairwise (· < ·)
def below (n:Nat) (xs:List Nat) : Nat:=(xs.takeWhile (fun x=>decide (x<n))).length
theorem below_le (n:Nat) (xs:List Nat) : below n xs≤xs.length:=by
 unfold below
 induction xs with
 | nil=>simp
 | cons x xs ih =>
   rw[List.takeWhile_cons]
   split <;> simp <;> omega
theorem Asc.lt {xs:List Nat} (h:Asc xs) {i j:Nat} (hij:i<j) (hj:j<xs.length) : xs[i]'(by omega)<xs[j]:=List.pairwise_iff_getElem.1 h i j (by omega) hj hij
theorem Cs {n:Nat} : ∀ {xs:List Nat} {i:Nat},i≤xs.length→(∀ k (hk:k<xs.length),k<i→xs[k]<n)→(∀ (hi:i<xs.length),n≤xs[i])→below n xs=i
 | [],i,h,_,_=>by simp at h; subst h; rfl
 | x :: xs,0,_,_,h2=>by
   have:=h2 (by simp)
   simp at this
   unfold below
   rw[List.takeWhile_cons,if_neg (by simp; omega)]; rfl
 | x :: xs,i + 1,h,h1,h2=>by
   have hx:=h1 0 (by simp) (by omega)
   have:=Cs (n:=n) (xs:=xs) (i:=i) (by simpa using h) (fun k hk hki=>by have:=h1 (k + 1) (by simp; omega) (by omega); simpa using this) (fun hi=>by have:=h2 (by simp; omega); simpa using this)
   unfold below at *
   rw[List.takeWhile_cons,if_pos (by simpa using hx),List.length_cons,this]
theorem NL {n:Nat} {xs:List Nat} (ha:Asc xs) : (n∈xs↔∃ h:below n xs<xs.length,xs[below n xs]=n):=by
 constructor
 ·intro hm
  obtain⟨i,hi,he⟩:=List.getElem_of_mem hm
  have hb:below n xs=i:=Cs (by omega) (fun k hk hki=>by have:=ha.lt hki hi; omega) (fun _=>by omega)
  exact⟨by omega,by simp only[hb]; exact he⟩
 ·rintro⟨h,he⟩
  rw[← he]; exact List.getElem_mem h
theorem PU {n:Nat} : ∀ {xs:List Nat} {k:Nat} (hk:k<xs.length),k<below n xs→xs[k]<n
 | x :: xs,k,hk,h=>by
   unfold below at h
   rw[List.takeWhile_cons] at h
   split at h
   ·rename_i hx
    cases k with
    | zero=>simpa using hx
    | succ k=>exact PU (xs:=xs) (k:=k) (by simpa using hk) (by unfold below; simpa using h)
   ·simp at h
theorem Sg {n:Nat} : ∀ {xs:List Nat} (h:below n xs<xs.length),n≤xs[below n xs]
 | x :: xs,h=>by
   unfold below at *
   rw[List.takeWhile_cons] at h
   simp only[List.takeWhile_cons]
   by_cases hx:x<n
   ·simp only[hx,decide_true,if_true,List.length_cons] at h ⊢
    exact Sg (xs:=xs) (by unfold below; omega)
   ·simp only[hx,decide_false,Bool.false_eq_true,if_false,List.length_nil,List.getElem_cons_zero]
    omega
def Gr (c:au) : Prop:=∀ {M:RM} {v:AV} {xs:List Nat} {n:Nat} {Q:ai},Sl aS M v xs→xs.length≤1000000→Asc xs→Q (.tup [N .i64 ((below n xs:Nat) : Int),Bo (decide (n∈xs))]) M→c [v,N .u64 (n:Int)] M Q
theorem half (i j:Nat) (h:i + j<9223372036854775808) : N .i64 (IntKind.i64.wrap (Qw .u64 (IntKind.u64.wrap (IntKind.i64.wrap ((i:Int) + (j:Int)))) 1))=N .i64 (((i + j) / 2:Nat) : Int):=by
 rw[show IntKind.i64.wrap ((i:Int) + (j:Int))=((i + j:Nat) : Int) by rw[bi (by omega) (by omega)]; rfl]
 rw[show IntKind.u64.wrap (((i + j:Nat) : Int))=((i + j:Nat) : Int) by unfold IntKind.wrap; simp[IntKind.bits,IntKind.signed]; omega]
 rw[show(1:Int)=((1:Nat) : Int) from rfl,JA _ _ _ (by decide)]
 rw[show((i + j:Nat) / 2 ^ 1)=(i + j) / 2 by simp]
 rw[bi (by omega) (by omega)]
theorem Ud {cl cn:au} (hl:vJ cl) (hn:XU cn) : Gr fun args M Q=>∃ a0 a1,args=[a0,a1]∧mr cl cn a0 a1 M Q:=by
 intro M v xs n Q hv hxl ha hQ
 refine⟨_,_,rfl, ?_⟩
 unfold mr
 simp only[jd]
 rw[aL.len hv]
 refine aJ (fun m ys M3=>M3=M∧∃ i j:Nat,m=j - i∧ys=[N .i64 (i:Int),N .i64 (j:Int)]∧i≤j∧j≤xs.length∧(∀ k (hk:k<xs.length),k<i→xs[k]<n)∧(∀ k (hk:k<xs.length),j≤k→n≤xs[k])) _
  ⟨rfl,0,xs.length,rfl,rfl,Nat.zero_le _,Nat.le_refl _,by omega,by omega⟩ ?_
 rintro next m ys M3 hnext ⟨rfl,i,j,rfl,rfl,hij,hj,h1,h2⟩
 dsimp only[aa]
 rw[cK]
 refine aH (fun hlt=>?_) (fun hge=>?_)
 ·have hlt:i<j:=by simpa using hlt
  have hh:(i + j) / 2<j:=by omega
  have hh2:i≤(i + j) / 2:=by omega
  rw[bY,nU,GK]
  refine⟨by omega, ?_⟩
  rw[nU,half i j (by omega)]
  have hm:(i + j) / 2<xs.length:=by omega
  obtain⟨b,o,_,_,hidx,hc⟩:=Sl.Ef (E:=aS) hv (((i + j) / 2:Nat) : Int) hm
  have hc:=hc _ rfl
  rw[hidx,iy]
  refine⟨_,hc, ?_⟩
  refine hl ?_
  refine aH (fun h=>?_) (fun h=>?_)
  ·have h:xs[(i + j) / 2]<n:=by simpa using h
   rw[bY,gD (by omega)]
   refine hnext _ _ _ (by omega) ⟨rfl,(i + j) / 2 + 1,j,rfl,rfl,by omega,hj,fun k hk hki=>?_,h2⟩
   rcases Nat.lt_or_ge k ((i + j) / 2) with h3 | h3
   ·have:=ha.lt h3 hm; omega
   ·have:k=(i + j) / 2:=by omega
    subst this; exact h
  ·have h:n≤xs[(i + j) / 2]:=by simp at h; omega
   refine hnext _ _ _ (by omega) ⟨rfl,i,(i + j) / 2,rfl,rfl,by omega,by omega,h1,fun k hk hki=>?_⟩
   rcases Nat.lt_or_ge ((i + j) / 2) k with h3 | h3
   ·have:=ha.lt h3 hk; omega
   ·have:k=(i + j) / 2:=by omega
    subst this; exact h
 ·have hij:i=j:=by simp at hge; omega
  subst hij
  have hb:below n xs=i:=Cs hj h1 (fun hi=>h2 i hi (Nat.le_refl _))
  rw[hb] at hQ
  rw[cK]
  by_cases hi:i<xs.length
  ·obtain⟨b,o,_,_,hidx,hc⟩:=Sl.Ef (E:=aS) hv (i:Int) hi
   have hc:=hc _ rfl
   have hm:decide (n∈xs)=(xs[i] == n):=by
    have:=NL (n:=n) ha
    simp only[hb] at this
    by_cases h:xs[i]=n
    ·rw[decide_eq_true (this.2 ⟨hi,h⟩)]; simp[h]
    ·rw[decide_eq_false (fun hm=>h (this.1 hm).2)]; simp[h]
   rw[hm] at hQ
   rw[show decide ((i:Int)<(xs.length:Int))=true by simpa using hi,dG,hidx,iy]
   refine⟨_,hc, ?_⟩
   rw[cO,show(((xs[i] : Nat) : Int) == (n:Int))=(xs[i] == n) by
    by_cases h:xs[i]=n
    ·simp[h]
    ·have:((xs[i] : Int) == (n:Int))=false:=by simp; omega
     rw[this]; simp[h]]
   dsimp only
   cases he:xs[i] == n with
   | true =>
     rw[he] at hQ
     simp only[Di,dG,lv,bN,fM,eT,dh]
     exact hQ
   | false =>
     rw[he] at hQ
     rw[fM,hidx,iy]
     refine⟨_,hc, ?_⟩
     refine hn ?_
     simp only[Di,dG,lv,bN,fM,eT,dh]
     exact hQ
  ·have hm:decide (n∈xs)=false:=by
    refine decide_eq_false fun h=>?_
    have:=(NL (n:=n) ha).1 h
    simp only[hb] at this
    exact hi this.1
   rw[hm] at hQ
   rw[show decide ((i:Int)<(xs.length:Int))=false by simp; omega]
   simp only[Di,dG,lv,bN,fM,eT,dh]
   exact hQ
theorem xD {M:RM} {b bx o ox dn sn k e:Nat} {l vs:List AV} {p:Bool} {cap agC:Cap} {K:ai} (hd:M.heap b=some (.row l p e 0)) (hk:Nat.min sn dn=k) (hk0:k≠0) (hl:M.loads bx ox k=some vs) (ho:o + k≤l.length) (hall:vs.all oneCell=true) :
  zG 1 (.slc b o dn cap) (.slc bx ox sn agC) M K=K (N .i64 (k:Int)) (M.put b (.row (l.take o++vs++l.drop (o + k)) p e 0)):=by
 have hvs:=ET hl
 have hst:M.stores b o vs=some (M.put b (.row (l.take o++vs++l.drop (o + k)) p e 0)):=by
  rw[RM.vW hd,oP (by omega) (Nat.zero_le _) hall,hvs]; rfl
 have:Li 1 (.slc b o dn cap) (.slc bx ox sn agC) M=some (N .i64 (k:Int),M.put b (.row (l.take o++vs++l.drop (o + k)) p e 0)):=by
  unfold Li
  simp only[Al,hk,if_neg hk0,firstM,Nat.mul_one,hl,hst]
 unfold zG
 rw[this]
 apply propext
 constructor
 ·rintro⟨v,M',h,hK⟩; cases h; exact hK
 ·intro hK; exact⟨_,_,rfl,hK⟩
theorem ul {size b o n c at' : Nat} (h:at'≤n) (hc:n≤c) (hne:at'≠c) : bR size (.slc b o n (.ex c)) (some (N .i64 (at' : Int))) none none=some (.slc b (o + at' * size) (n - at') (.ex (c - at'))):=by
 simp only[bR,bnd]
 simp[h,hc,Ne.symm hne]
theorem K9 {size b o n c at' : Nat} (h:at'≤c) (hc:c≠0) : bR size (.slc b o n (.ex c)) none (some (N .i64 (at' : Int))) none=some (.slc b o at' (.ex c)):=by
 simp only[bR,bnd]
 simp[h,hc]
theorem oL {size b o n at' : Nat} (h:at'<n) : bR size (.slc b o n (.op size)) (some (N .i64 (at' : Int))) none none=some (.slc b (o + at' * size) (n - at') (.op size)):=by
 simp only[bR,bnd]
 simp[Nat.le_of_lt h]
 omega
theorem ak0 {A B D:List AV} {X:AV} {k m:Nat} (hA:A.length=k) (hB:B.length=m) : (A++X :: B).take (k + 1)++D++(A++X :: B).drop (k + 1 + m)=A++X :: D:=by
 subst hA; subst hB
 have e:A++X :: B=(A++[X])++B:=by simp
 rw[e,List.take_left' (by simp),List.drop_of_length_le (by simp; omega)]
 simp
def kN:AV→Prop
 | .slc _ _ n (.ex c)=>n≤c
 | .slc _ _ _ (.op e)=>e=1
 | _=>True
def fH (k x:Nat) (xs:List Nat) : List Nat:=xs.take k++x :: xs.drop k
theorem CU {k x:Nat} {xs:List Nat} (h:k≤xs.length) : (fH k x xs).length=xs.length + 1:=by
 simp[fH]; omega
def acV (c:au) : Prop:=∀ {M:RM} {ba oa na bb ob nb ea eb:Nat} {ca cb:Cap} {la lb:List AV} {opb:Bool} {Q:ai},ba≠bb→M.heap ba=some (.row la false ea 0)→M.heap bb=some (.row lb opb eb 0)→oa + 1≤la.length→1≤lb.length→Q (Bo false) M→c [.slc ba oa na ca,.slc bb ob nb cb] M Q
theorem rZ {i:Nat} (h:i<9223372036854775807) : IntKind.wrap .i64 ((i:Int) + ((1:Nat) : Int))=((i + 1:Nat) : Int):=gD h
theorem oh (k:Nat) : (bE [N .u64 0] k).length=k∧(bE [N .u64 0] k).all oneCell=true:=by
 induction k with
 | zero=>exact⟨rfl,rfl⟩
 | succ k ih=>exact⟨by simp[bE,ih.1],by simp[bE,ih.2,Ps]⟩
theorem YC {M:RM} {b bx T n c k x ex:Nat} {xs:List Nat} {co cr:au} {Q:ai} (hov:acV co) (hn:n=xs.length) (hnl:n≤1000000) (hc:n≤c) (hk:k<n)
  (hb:M.heap b=some (.row (aS.row xs++List.replicate (c - n) .top) true T 0)) (hbl:b<M.next) (hx:M.heap bx=some (.row [N .u64 (x:Int)] false ex 0)) (hxl:bx<M.next) (hne:bx≠b)
  (hQ:∀ v' M',Sl aS M' v' (fH k x xs)→kN v'→(∀ c∈aD v',c=b∨M.next≤c)→ag [b] M M'→Q v' M') : lI T co cr (.slc b 0 n (.ex c)) (N .i64 (k:Int)) (.slc bx 0 1 (.ex 1)) M Q:=by
 have hrow:(aS.row xs).length=n:=by rw[Enc.dX,hn]; simp[aS]
 have acQ:(aS.row xs++List.replicate (c - n) AV.top).length=c:=by simp[hrow]; omega
 unfold lI
 rw[ul (by omega) hc (by omega),dF,jJ,cO,show((((1:Nat) : Int)) == 0)=false from rfl,bG,jJ,cO,
  show(((k:Int)) == (n:Int))=false by simp; omega,bG,bY,rZ (by omega),ad6,ic]
 have hxo:M.loads bx 0 1=some [N .u64 (x:Int)]:=by rw[RM.bW hx (by simp)]; rfl
 have hold:M.loads b k (n - k)=some ((aS.row xs).drop k):=by
  rw[RM.bW hb (by omega),List.drop_append_of_le_length (by omega),List.take_append_of_le_length (by simp[hrow]),List.take_of_length_le (by simp[hrow])]
 have hall:=aS.rY xs
 have hins:aS.row (fH k x xs)=(aS.row xs).take k++N .u64 (x:Int) :: (aS.row xs).drop k:=by
  have h1:=aS.qX xs k
  have h2:=aS.rO xs k
  simp only[show aS.size=1 from rfl,Nat.mul_one] at h1 h2
  rw[h1,h2,fH,Enc.pU,Enc.jE]; rfl
 have hinl:(fH k x xs).length=n + 1:=by rw[CU (by omega),hn]
 have htl:((aS.row xs).take k).length=k:=by simp[hrow]; omega
 have hdl:((aS.row xs).drop k).length=n - k:=by simp[hrow]
 refine aH (fun hg=>?_) (fun hg=>?_)
 ·have hcn:c=n:=by simp at hg; omega
  subst hcn
  rw[Nat.sub_self,List.replicate_zero,List.append_nil] at hb
  rw[K9 (by omega) (by omega),dF,bY,rZ (by omega),iV,
   show IntKind.wrap .i64 (((c + 1:Nat) : Int) - (k:Int))=((c + 1 - k:Nat) : Int) by rw[bi (by omega) (by omega)]; omega]
  have hr0:=oh (c + 1 - k)
  refine⟨c + 1 - k,bE [N .u64 0] (c + 1 - k),by simp[mJ],by omega,by omega,.slc M.next 0 (c + 1) (.op 1),M.push (.row ((aS.row xs).take k++bE [N .u64 0] (c + 1 - k)) true T 0), ?_, ?_⟩
  ·have hl0:M.loads b 0 (k * 1)=some ((aS.row xs).take k):=by rw[RM.bW hb (by omega)]; simp
   simp only[qZ,if_neg (show ¬ c + 1 - k=0 by omega),if_neg (show ¬ k + (c + 1 - k)≤c by omega),hl0]
   have h1:(((aS.row xs).take k)++bE [N .u64 0] (c + 1 - k)).all oneCell=true:=by
    rw[List.all_append,hr0.2,Bool.and_true,List.all_eq_true]
    exact fun y hy=>List.all_eq_true.1 hall y (List.mem_of_mem_take hy)
   rw[if_pos ⟨by omega,by omega,h1⟩,show k + (c + 1 - k)=c + 1 by omega]
  ·have hnew:(M.push (.row ((aS.row xs).take k++bE [N .u64 0] (c + 1 - k)) true T 0)).heap M.next=some (.row ((aS.row xs).take k++bE [N .u64 0] (c + 1 - k)) true T 0):=RM.aT _
   have kp:ag [] M (M.push (.row ((aS.row xs).take k++bE [N .u64 0] (c + 1 - k)) true T 0)):=(ag.refl _ _).push _
   have hb1:=kp.aR hb hbl (by simp)
   have hx1:=kp.loads hxl (by simp) (o:=0) (k:=1)
   rw[hxo] at hx1
   have hn1:(M.push (.row ((aS.row xs).take k++bE [N .u64 0] (c + 1 - k)) true T 0)).next=M.next + 1:=rfl
   generalize M.push (.row ((aS.row xs).take k++bE [N .u64 0] (c + 1 - k)) true T 0)=M1 at *
   have anA:((aS.row xs).take k++bE [N .u64 0] (c + 1 - k)).length=c + 1:=by rw[List.length_append,htl,hr0.1]; omega
   dsimp only
   rw[oL (by omega),dF,xD (k:=1) hnew (by simp[Nat.min_def]; omega) (by omega) hx1 (by rw[anA]; omega) rfl,bY,rZ (by omega),
    oL (by omega),dF,dF]
   simp only[Nat.mul_one,Nat.zero_add]
   have alC:((aS.row xs).take k++bE [N .u64 0] (c + 1 - k)).take k++[N .u64 (x:Int)]++((aS.row xs).take k++bE [N .u64 0] (c + 1 - k)).drop (k + 1)=(aS.row xs).take k++N .u64 (x:Int) :: bE [N .u64 0] (c - k):=by
    rw[List.take_append_of_le_length (by omega),List.take_of_length_le (by omega),← List.drop_drop,List.drop_left' htl,show c + 1 - k=(c - k) + 1 by omega,bE]
    simp
   rw[alC]
   have ala:(M1.put M.next (.row ((aS.row xs).take k++N .u64 (x:Int) :: bE [N .u64 0] (c - k)) true T 0)).heap M.next=some (.row ((aS.row xs).take k++N .u64 (x:Int) :: bE [N .u64 0] (c - k)) true T 0):=aU _
   have hb2:=qy (z:=.row ((aS.row xs).take k++N .u64 (x:Int) :: bE [N .u64 0] (c - k)) true T 0) hb1 (show b≠M.next by omega)
   have kp2:ag [] M (M1.put M.next (.row ((aS.row xs).take k++N .u64 (x:Int) :: bE [N .u64 0] (c - k)) true T 0)):=kp.new _ (Nat.le_refl _)
   have hn2:(M1.put M.next (.row ((aS.row xs).take k++N .u64 (x:Int) :: bE [N .u64 0] (c - k)) true T 0)).next=M.next + 1:=hn1
   generalize M1.put M.next (.row ((aS.row xs).take k++N .u64 (x:Int) :: bE [N .u64 0] (c - k)) true T 0)=M2 at *
   have hr1:=oh (c - k)
   have al7:M2.loads b k (c - k)=some ((aS.row xs).drop k):=by
    rw[RM.bW hb2 (by omega),List.take_of_length_le (by simp[hrow])]
   have aoq:((aS.row xs).take k++N .u64 (x:Int) :: bE [N .u64 0] (c - k)).length=c + 1:=by rw[List.length_append,htl,List.length_cons,hr1.1]; omega
   have XE:((aS.row xs).drop k).all oneCell=true:=by
    rw[List.all_eq_true]; exact fun y hy=>List.all_eq_true.1 hall y (List.mem_of_mem_drop hy)
   rw[xD (k:=c - k) ala (by simp[Nat.min_def]) (by omega) al7 (by rw[aoq]; omega) XE]
   have hrow3:((aS.row xs).take k++N .u64 (x:Int) :: bE [N .u64 0] (c - k)).take (k + 1)++(aS.row xs).drop k++((aS.row xs).take k++N .u64 (x:Int) :: bE [N .u64 0] (c - k)).drop (k + 1 + (c - k))=aS.row (fH k x xs):=by
    rw[ak0 htl hr1.1,hins]
   rw[hrow3]
   refine hQ _ _ ?_ rfl (fun d hd=>.inr (by simp[aD] at hd; omega)) ((kp2.new _ (Nat.le_refl _)).mono (by simp))
   have:Rw aS (M2.put M.next (.row (aS.row (fH k x xs)) true T 0)) M.next true T (fH k x xs):=⟨aU _,by rw[nC]; omega⟩
   have h4:=this.sl (cap:=.op 1)
   rw[hinl] at h4
   exact h4
 ·have hcn:n + 1≤c:=by simp at hg; omega
  rw[bY,rZ (by omega),K9 (by omega) (by omega),dF,bY,rZ (by omega),ul (by omega) (by omega) (by omega),dF]
  simp only[Nat.zero_add,Nat.mul_one]
  refine hov hne hx hb (by simp) (by rw[acQ]; omega) ?_
  rw[bK,Bool.not_false,dH,bY,rZ (by omega),ul (by omega) (by omega) (by omega),dF,ul (by omega) (by omega) (by omega),dF]
  simp only[Nat.zero_add,Nat.mul_one]
  have XE:((aS.row xs).drop k).all oneCell=true:=by
   rw[List.all_eq_true]; exact fun y hy=>List.all_eq_true.1 hall y (List.mem_of_mem_drop hy)
  rw[xD (k:=n - k) hb (by simp[Nat.min_def]; omega) (by omega) hold (by rw[acQ]; omega) XE]
  have hsplit:aS.row xs=(aS.row xs).take k++(aS.row xs).drop k:=(List.take_append_drop _ _).symm
  obtain⟨y,D,hD⟩ : ∃ y D,(aS.row xs).drop k=y :: D:=by
   cases h:(aS.row xs).drop k with
   | nil=>rw[h] at hdl; simp at hdl; omega
   | cons y D=>exact⟨y,D,rfl⟩
  obtain⟨R,hR⟩ : ∃ R,List.replicate (c - n) AV.top=.top :: R∧R.length=c - n - 1:=⟨List.replicate (c - n - 1) AV.top,by rw[show c - n=(c - n - 1) + 1 by omega,List.replicate_succ]; simp,by simp⟩
  generalize hA:(aS.row xs).take k=A at *
  have hDl:D.length + 1=n - k:=by rw[hD] at hdl; simpa using hdl
  have amy:(aS.row xs++List.replicate (c - n) AV.top).take (k + 1)++(aS.row xs).drop k++(aS.row xs++List.replicate (c - n) AV.top).drop (k + 1 + (n - k))=A++y :: (y :: D++R):=by
   have hX:aS.row xs=A++y :: D:=by rw[hsplit,hD]
   rw[hD,hX,hR.1]
   have e1:A++y :: D++AV.top :: R=(A++[y])++(D++AV.top :: R):=by simp
   have e2:A++y :: D++AV.top :: R=(A++y :: D++[AV.top])++R:=by simp
   have d1:(A++y :: D++AV.top :: R).drop (k + 1 + (n - k))=R:=by rw[e2,List.drop_left' (by simp; omega)]
   have d2:(A++y :: D++AV.top :: R).take (k + 1)=A++[y]:=by rw[e1,List.take_left' (by simp[htl])]
   rw[d1,d2]
   simp
  rw[amy]
  have hb2:(M.put b (.row (A++y :: (y :: D++R)) true T 0)).heap b=some (.row (A++y :: (y :: D++R)) true T 0):=aU _
  have kp:ag [b] M (M.put b (.row (A++y :: (y :: D++R)) true T 0)):=(ag.refl _ _).put _ (.inr (by simp))
  have hx2:=kp.loads hxl (by simp[hne]) (o:=0) (k:=1)
  rw[hxo] at hx2
  have hn2:(M.put b (.row (A++y :: (y :: D++R)) true T 0)).next=M.next:=rfl
  generalize M.put b (.row (A++y :: (y :: D++R)) true T 0)=M2 at *
  have hl2:(A++y :: (y :: D++R)).length=c:=by simp[htl,hR.2]; omega
  rw[dF,xD (k:=1) hb2 (by simp[Nat.min_def]; omega) (by omega) hx2 (by rw[hl2]; omega) rfl]
  have hrow2:(A++y :: (y :: D++R)).take k++[N .u64 (x:Int)]++(A++y :: (y :: D++R)).drop (k + 1)=aS.row (fH k x xs)++R:=by
   rw[hins,hD,List.take_left' htl,show(A++y :: (y :: D++R)).drop (k + 1)=y :: D++R by
    rw[show A++y :: (y :: D++R)=(A++[y])++(y :: D++R) by simp,List.drop_left' (by simp[htl])]]
   simp
  rw[hrow2]
  refine hQ _ _ ?_ (show n + 1≤c from hcn) (fun d hd=>.inl (by simpa [aD] using hd)) (kp.put _ (.inr (by simp)))
  rw[← hinl]
  refine .slc _ _ _ _ _ (by rw[nC,hn2]; exact hbl) ?_
  have hil:(aS.row (fH k x xs)).length=n + 1:=by rw[Enc.dX,hinl]; simp[aS]
  show RM.loads _ b 0 ((fH k x xs).length * 1)=_
  rw[Nat.mul_one,hinl,RM.bW (aU _) (by rw[List.length_append,hil]; omega),List.drop_zero,List.take_append_of_le_length (by omega),List.take_of_length_le (by omega)]
theorem Own.kN {M:RM} {n el n0:Nat} {v:AV} {cs:List AV} (h:Own M n0 el 1 v cs n) : kN v:=by
 cases h with
 | nil=>trivial
 | ex0=>exact Nat.le_refl _
 | op=>rfl
theorem aaj {M:RM} {v:AV} {xs:List Nat} {k:Nat} (h:Sl aS M v xs) (hc:kN v) (hk:k≤xs.length) :
  ∃ v',bR 1 v (some (N .i64 (k:Int))) none none=some v'∧Sl aS M v' (xs.drop k)∧kN v'∧∀ b∈aD v',b∈aD v:=by
 generalize hcs:aS.row xs=cs at *
 have h' : aL M 1 v cs xs.length:=by rw[← hcs]; exact h
 have hl:cs.length=xs.length:=by rw[← hcs,Enc.dX]; simp[aS]
 have hd:aS.row (xs.drop k)=cs.drop k:=by rw[← hcs,← aS.rO]; simp[aS]
 generalize hn:xs.length=n at *
 cases h' with
 | nil =>
   have:k=0:=by omega
   subst this
   exact⟨bO,by simp[bR,bnd],by simp only[Sl]; rw[hd]; simp[hn]; exact .nil,trivial,by simp⟩
 | emp b =>
   have:k=0:=by omega
   subst this
   exact⟨.emp b,by simp[bR,bnd],by simp only[Sl]; rw[hd]; simp[hn]; exact .emp b,trivial,by simp⟩
 | slc b o n cap cs hb hload =>
   rw[Nat.mul_one] at hload
   have ac2:M.loads b (o + k) (n - k)=some (cs.drop k):=by
    have:=wC hload k (n - k) (by omega)
    rw[List.take_of_length_le (by simp; omega)] at this
    exact this
   cases cap with
   | ex c =>
     have hcn:n≤c:=hc
     by_cases hck:c=k
     ·have hkn:k=n:=by omega
      refine⟨.slc b o 0 (.ex 0),by simp only[bR,bnd]; simp[hk,hcn,hck]; omega, ?_,Nat.le_refl _,by simp[aD]⟩
      simp only[Sl]
      rw[hd,List.length_drop,hn,hkn,Nat.sub_self,List.drop_of_length_le (by omega)]
      refine .slc b o 0 _ _ hb ?_
      have:=wC hload 0 0 (by omega)
      simpa using this
     ·refine⟨.slc b (o + k * 1) (n - k) (.ex (c - k)),by simp only[bR,bnd]; simp[hk,hcn,hck], ?_,by simp only[kN]; omega,by simp[aD]⟩
      simp only[Sl]
      rw[hd,List.length_drop,hn]
      refine .slc _ _ _ _ _ hb ?_
      show M.loads b (o + k * 1) ((n - k) * 1)=_
      rw[Nat.mul_one,Nat.mul_one]; exact ac2
   | op e =>
     have he:e=1:=hc
     subst he
     by_cases hkn:n≤k
     ·refine⟨.emp b,by simp only[bR,bnd]; simp[hk,hkn], ?_,trivial,by simp[aD]⟩
      simp only[Sl]
      rw[hd,List.length_drop,hn,show n - k=0 by omega,List.drop_of_length_le (by omega)]
      exact .emp b
     ·refine⟨.slc b (o + k * 1) (n - k) (.op 1),by simp only[bR,bnd]; simp[hk,hkn], ?_,rfl,by simp[aD]⟩
      simp only[Sl]
      rw[hd,List.length_drop,hn]
      refine .slc _ _ _ _ _ hb ?_
      show M.loads b (o + k * 1) ((n - k) * 1)=_
      rw[Nat.mul_one,Nat.mul_one]; exact ac2
def dE:Nat→List Nat→Nat × Nat
 | u,[]=>(u,0)
 | u,x :: xs=>if x≤u + 1 then((dE (max u x) xs).1,(dE (max u x) xs).2 + 1) else(u,0)
def settle (u:Nat) (xs:List Nat) : Nat × List Nat:=((dE u xs).1,xs.drop (dE u xs).2)
theorem QU {u:Nat} {xs:List Nat} {i u' : Nat} (hi:i<xs.length) (h:dE u xs=((dE u' (xs.drop i)).1,(dE u' (xs.drop i)).2 + i)) (hle:xs[i]≤u' + 1) :
  dE u xs=((dE (max u' xs[i]) (xs.drop (i + 1))).1,(dE (max u' xs[i]) (xs.drop (i + 1))).2 + (i + 1)):=by
 rw[h,List.drop_eq_getElem_cons hi,dE,if_pos hle]
 ext <;> simp; omega
theorem Tw {u:Nat} {xs:List Nat} {i u' : Nat} (h:dE u xs=((dE u' (xs.drop i)).1,(dE u' (xs.drop i)).2 + i)) (hs:i=xs.length∨∃ hi:i<xs.length,¬ xs[i]≤u' + 1) : dE u xs=(u',i):=by
 rw[h]
 rcases hs with hs | ⟨hi,hs⟩
 ·rw[List.drop_of_length_le (by omega)]; simp[dE]
 ·rw[List.drop_eq_getElem_cons hi,dE,if_neg hs]; simp
theorem P6 (a b:Nat) : (if (b:Int) > (a:Int) then(b:Int) else(a:Int))=((max a b:Nat) : Int):=by
 split <;> omega
theorem QD {l:List AV} {o:Nat} {x:AV} (h:l[o]?=some x) : l.set o x=l:=by
 apply List.ext_getElem?
 intro j
 rw[List.getElem?_set]
 split
 ·rename_i e; subst e
  obtain⟨h1,h2⟩:=List.getElem?_eq_some_iff.1 h
  simp[h1,h2]
 ·rfl
def Da (c:au) : Prop:=∀ {M:RM} {b o T u:Nat} {l:List AV} {v:AV} {xs:List Nat} {Q:ai},M.heap b=some (.row l false T 0)→l[o]?=some (N .u64 (u:Int))→l[o + 1]?=some v→Sl aS M v xs→b ∉ aD v→kN v →
 xs.length≤1000000→u≤4398046511104→(∀ x∈xs,x≤4398046511104) →
 (∀ v' M',M'.heap b=some (.row ((l.set o (N .u64 (((settle u xs).1:Nat) : Int))).set (o + 1) v') false T 0)→Sl aS M' v' (settle u xs).2→kN v'→(∀ d∈aD v',d∈aD v)→ag [b] M M'→M'.next=M.next→Q (.tup []) M')→c [.ptr b o] M Q
theorem P8:Da fun args M Q=>∃ a0,args=[a0]∧uL a0 M Q:=by
 intro M b o T u l v xs Q hb ho hv hs hbv hcap hxl hu hx hQ
 refine⟨_,rfl, ?_⟩
 unfold uL
 simp only[gQ]
 have hol:o<l.length:=(List.getElem?_eq_some_iff.1 ho).1
 have anB:o + 1<l.length:=(List.getElem?_eq_some_iff.1 hv).1
 refine aJ (fun m ys M3=>∃ (i u' : Nat),m=xs.length - i∧ys=[N .i64 (i:Int)]∧i≤xs.length∧u'≤4398046511104∧M3.heap b=some (.row (l.set o (N .u64 (u' : Int))) false T 0)∧ag [b] M M3∧M3.next=M.next ∧
   dE u xs=((dE u' (xs.drop i)).1,(dE u' (xs.drop i)).2 + i)) _
  ⟨0,u,rfl,rfl,Nat.zero_le _,hu, ?_,ag.refl _ _,rfl,by simp⟩ ?_
 ·rw[hb]
  rw[QD ho]
 rintro next m ys M3 hnext ⟨i,u',rfl,rfl,hi,hu',h3,hK,hn3,hset⟩
 dsimp only[aa]
 have g0:(l.set o (N .u64 (u' : Int)))[o]?=some (N .u64 (u' : Int)):=by rw[List.getElem?_set_self hol]
 have g1:(l.set o (N .u64 (u' : Int)))[o + 1]?=some v:=by rw[List.getElem?_set_ne (by omega)]; exact hv
 have hs3:Sl aS M3 v xs:=aL.keep hs hK (fun d hd h=>by simp at h; subst h; exact hbv hd)
 rw[aM,aX,av h3 g1,aL.len hs3,cK]
 have stop:(i=xs.length∨∃ hi:i<xs.length,¬ xs[i]≤u' + 1)→bV (.ptr b o) fun t44=>aI t44 1 fun t45=>aj M3 t45 fun t46=>iK (bR 1 t46 (some (N .i64 (i:Int))) none none) fun t48=>bV (.ptr b o) fun t49=>aI t49 1 fun t50=>aG M3 t50 t48 1 fun kw=>Q (.tup []) kw:=fun h=>by
  have he:=Tw hset h
  rw[aM,aX,av h3 g1]
  obtain⟨v',e1,e2,e3,e4⟩:=aaj hs3 hcap hi
  rw[e1,dF,aM,aX,fT h3 (by simpa using anB) (aL.cells e2) (aL.one e2)]
  have kk:ag [b] M3 (M3.put b (.row ((l.set o (N .u64 (u' : Int))).set (o + 1) v') false T 0)):=(ag.refl _ _).put _ (.inr (by simp))
  refine hQ v' _ ?_ ?_ e3 e4 (hK.trans kk) hn3
  ·rw[aU,settle,he]
  ·rw[settle,he]
   exact aL.keep e2 kk (fun d hd h=>by simp at h; subst h; exact hbv (e4 _ hd))
 by_cases hlt:i<xs.length
 ·have hxi:=hx _ (List.getElem_mem hlt)
  obtain⟨b1,o1,_,_,hidx,hc⟩:=Sl.Ef (E:=aS) hs3 (i:Int) hlt
  have hc:=hc _ rfl
  rw[show decide ((i:Int)<(xs.length:Int))=true by simpa using hlt,r9,aM,aX,av h3 g1,hidx,iy]
  refine⟨_,hc, ?_⟩
  rw[aM,aX,Nat.add_zero,av h3 g0,bY,kD]
  rw[show IntKind.u64.wrap ((u' : Int) + 1)=((u' + 1:Nat) : Int) by unfold IntKind.wrap; simp[IntKind.bits,IntKind.signed]; omega]
  dsimp only
  rw[eT]
  refine aH (fun h=>?_) (fun h=>?_)
  ·have hle:xs[i]≤u' + 1:=by
    have h2:((xs[i] : Nat) : Int)≤((u' + 1:Nat) : Int):=of_decide_eq_true h
    omega
   rw[aM,aX,Nat.add_zero,av h3 g0,aM,aX,av h3 g1,hidx,iy]
   refine⟨_,hc, ?_⟩
   rw[Zm,if_pos rfl,P6,aM,aX,Nat.add_zero,F6 (l.set o (N .u64 ((max u' xs[i] : Nat) : Int))) h3 (by simpa using hol) rfl rfl (by rw[List.set_set]),bY,gD (by omega)]
   exact hnext _ _ _ (by omega) ⟨i + 1,max u' xs[i],rfl,rfl,by omega,by omega,aU _,hK.put _ (.inr (by simp)),hn3,QU hlt hset hle⟩
  ·have hle:¬ xs[i]≤u' + 1:=by
    have h2:¬ ((xs[i] : Nat) : Int)≤((u' + 1:Nat) : Int):=of_decide_eq_false h
    omega
   exact stop (.inr ⟨hlt,hle⟩)
 ·rw[show decide ((i:Int)<(xs.length:Int))=false by simp; omega,rQ]
  dsimp only
  rw[dh,bG]
  exact stop (.inl (by omega))
abbrev Pt:=Nat × List Nat
def fF (p:Pt) (n:Nat) : Bool × Pt :=
 if n∈p.2∨n≤p.1 then(true,p)
 else if (settle p.1 (fH (below n p.2) n p.2)).2.length≤4096 then(true,settle p.1 (fH (below n p.2) n p.2)) else(false,p)
def Vj (T:Nat) (c:au) : Prop:=∀ {M:RM} {v:AV} {bx n0 k x ex:Nat} {xs:List Nat} {Q:ai},Ow aS M n0 T v xs→n0≤M.next→xs.length≤100000→k≤xs.length→M.heap bx=some (.row [N .u64 (x:Int)] false ex 0)→bx<M.next→bx ∉ aD v →
 (∀ v' M',Sl aS M' v' (fH k x xs)→kN v'→(∀ c∈aD v',n0≤c)→ag (aD v) M M'→Q v' M')→c [v,N .i64 (k:Int),.slc bx 0 1 (.ex 1)] M Q
theorem Ck (u:Nat) (xs:List Nat) : (settle u xs).2.length≤xs.length:=by simp[settle]
theorem Dm {k x:Nat} {xs:List Nat} {y:Nat} (h:y∈fH k x xs) : y=x∨y∈xs:=by
 unfold fH at h
 rcases List.mem_append.1 h with h | h
 ·exact .inr (List.mem_of_mem_take h)
 ·rcases List.mem_cons.1 h with h | h
  ·exact .inl h
  ·exact .inr (List.mem_of_mem_drop h)
def Wp (c:au) : Prop:=∀ {M:RM} {b o T u n:Nat} {l:List AV} {v:AV} {xs:List Nat} {Q:ai},M.heap b=some (.row l false T 0)→b<M.next→l[o]?=some (N .u64 (u:Int))→l[o + 1]?=some v→Sl aS M v xs→b ∉ aD v→kN v →
 Asc xs→xs.length≤10000→u≤4398046511104→(∀ x∈xs,x≤4398046511104)→n≤4398046511104 →
 (∀ M',fF (u,xs) n=((fF (u,xs) n).1,(u,xs))→ag [] M M'→Q (Bo (fF (u,xs) n).1) M') →
 (∀ v' M',M'.heap b=some (.row (l.take o++[N .u64 (((fF (u,xs) n).2.1:Nat) : Int),v']++l.drop (o + 2)) false T 0)→Sl aS M' v' (fF (u,xs) n).2.2→kN v'→(∀ d∈aD v',M.next≤d)→ag [b] M M'→Q (Bo (fF (u,xs) n).1) M') →
 c [.ptr b o,N .u64 (n:Int)] M Q
theorem Y0 {TU TP:Nat} {cb cc ci cs:au} (hsr:Gr cb) (hcl:YO TU 1 8 cc) (hin:Vj TU ci) (hst:Da cs) : Wp fun args M Q=>∃ a0 a1,args=[a0,a1]∧CO cb TU TP cc ci cs a0 a1 M Q:=by
 intro M b o T u n l v xs Q hb hbl ho hv hs hbv hcap hasc hxl hu hx hn hsame hnew
 refine⟨_,_,rfl, ?_⟩
 unfold CO
 simp only[jd]
 have hol:o + 1<l.length:=(List.getElem?_eq_some_iff.1 hv).1
 rw[aM,aX,av hb hv]
 refine hsr hs (by omega) hasc ?_
 rw[oW,o8]
 have yes:n∈xs∨n≤u→Q (Bo true) M:=fun h=>by
  have e:fF (u,xs) n=(true,(u,xs)):=by unfold fF; rw[if_pos h]
  have:=hsame M (by rw[e]) (ag.refl _ _)
  rw[e] at this; exact this
 by_cases hm:n∈xs
 ·rw[decide_eq_true hm,lv]
  dsimp only
  rw[eT,dH]
  exact yes (.inl hm)
 rw[decide_eq_false hm,fM,aM,aX,Nat.add_zero,av hb ho,kD]
 dsimp only
 rw[dh]
 by_cases hnu:n≤u
 ·rw[show decide ((n:Int)≤(u:Int))=true by simpa using hnu,dH]
  exact yes (.inr hnu)
 rw[show decide ((n:Int)≤(u:Int))=false by simp; omega,bG]
 have e0:fF (u,xs) n=if (settle u (fH (below n xs) n xs)).2.length≤4096 then(true,settle u (fH (below n xs) n xs)) else(false,(u,xs)):=by
  unfold fF; rw[if_neg (by simp[hm]; omega)]
 rw[aM,aX,Nat.add_zero,av hb ho,aM,aX,av hb hv,pM (x:=N .u64 (n:Int)) (size:=1) rfl rfl rfl,rT,rT]
 have hx1:((M.push (.row [N .u64 (n:Int)] false TU 0)).push (.row [N .u64 0,bO] false TP 0)).heap M.next=some (.row [N .u64 (n:Int)] false TU 0):=mo (RM.aT _) (by simp[RM.push])
 have h7:((M.push (.row [N .u64 (n:Int)] false TU 0)).push (.row [N .u64 0,bO] false TP 0)).heap (M.next + 1)=some (.row [N .u64 0,bO] false TP 0):=RM.aT _
 have kk:ag [] M ((M.push (.row [N .u64 (n:Int)] false TU 0)).push (.row [N .u64 0,bO] false TP 0)):=((ag.refl _ _).push _).push _
 have nn:((M.push (.row [N .u64 (n:Int)] false TU 0)).push (.row [N .u64 0,bO] false TP 0)).next=M.next + 2:=rfl
 rw[sI]
 change cc _ ((M.push (.row [N .u64 (n:Int)] false TU 0)).push (.row [N .u64 0,bO] false TP 0)) _
 generalize (M.push (.row [N .u64 (n:Int)] false TU 0)).push (.row [N .u64 0,bO] false TP 0)=M1 at *
 refine hcl (aL.keep hs kk (by simp)) (aS.rY xs) (by omega) (by omega) fun v1 M2 ow k2=>?_
 have n2:=k2.next
 have hb2:=(kk.trans k2).aR hb hbl (by simp)
 have hx2:=k2.aR hx1 (by omega) (by simp)
 have h72:=k2.aR h7 (by omega) (by simp)
 have hbi:=below_le n xs
 have hwb:∀ d∈aD v1,M1.next≤d:=fun d hd=>(ow.blk d hd).1
 rw[av hb2 ho]
 refine⟨rfl, ?_⟩
 rw[pM (x:=N .u64 (n:Int)) (size:=1) rfl rfl rfl]
 refine⟨⟨hx2,rfl⟩,⟨h72,rfl⟩, ?_⟩
 refine hin (n0:=M1.next) ow n2 (by omega) hbi hx2 (by omega) (fun h=>by have:=hwb _ h; omega) fun v2 M3 s3 c3 b3 k3=>?_
 have n3:=k3.next
 have ke:ag [] M M3:=(kk.trans k2).dU k3 fun d hd=>.inl (by have:=hwb d hd; omega)
 have hb3:=ke.aR hb hbl (by simp)
 have h73:=k3.aR h72 (by omega) (fun h=>by have:=hwb _ h; omega)
 rw[av hb3 ho]
 refine⟨rfl,⟨h73,rfl⟩, ?_⟩
 rw[rU]
 refine⟨[N .u64 (u:Int),v2],ahI rfl rfl (aL.known s3) (aL.cells s3), ?_⟩
 rw[fD (n:=2) (x:=.agg [N .u64 (u:Int),v2]) (l:=[N .u64 0,bO]) h73 rfl rfl (by simp[AV.cells,Ps,aL.one s3])]
 change cs _ (M3.put (M.next + 1) (.row [N .u64 (u:Int),v2] false TP 0)) _
 have h74:(M3.put (M.next + 1) (.row [N .u64 (u:Int),v2] false TP 0)).heap (M.next + 1)=_:=aU _
 have ke4:ag [] M (M3.put (M.next + 1) (.row [N .u64 (u:Int),v2] false TP 0)):=ke.new _ (by omega)
 have n4:(M3.put (M.next + 1) (.row [N .u64 (u:Int),v2] false TP 0)).next=M3.next:=rfl
 have s4:Sl aS (M3.put (M.next + 1) (.row [N .u64 (u:Int),v2] false TP 0)) v2 (fH (below n xs) n xs):=aL.keep (bs:=[M.next + 1]) s3 ((ag.refl _ _).put _ (.inr (by simp))) (fun d hd h=>by have:=b3 d hd; simp at h; omega)
 have hb4:=qy (z:=.row [N .u64 (u:Int),v2] false TP 0) hb3 (show b≠M.next + 1 by omega)
 generalize M3.put (M.next + 1) (.row [N .u64 (u:Int),v2] false TP 0)=M4 at *
 have hil:=CU (x:=n) hbi
 refine hst h74 rfl rfl s4 (fun h=>by have:=b3 _ h; omega) c3 (by omega) hu (fun y hy=>by rcases Dm hy with rfl | hy; exact hn; exact hx y hy) ?_
 intro v5 M5 h75 s5 c5 b5 k5 n5
 have hb5:=k5.aR hb4 (by omega) (by simp; omega)
 have ke5:ag [] M M5:=ke4.dU k5 fun d hd=>.inl (by simp at hd; omega)
 simp only[List.set_cons_zero,List.set_cons_succ,Nat.zero_add] at h75
 rw[bB,av h75 rfl,aL.len s5,ic]
 refine aH (fun hg=>?_) (fun hg=>?_)
 ·have hg:¬ (settle u (fH (below n xs) n xs)).2.length≤4096:=by simp at hg; omega
  rw[if_neg hg] at e0
  have:=hsame M5 (by rw[e0]) ke5
  rw[e0] at this; exact this
 ·have hg:(settle u (fH (below n xs) n xs)).2.length≤4096:=by simp at hg; omega
  rw[if_pos hg] at e0
  rw[eX (n:=2) h75 rfl,aM,tY]
  have hst:M5.stores b o [N .u64 (((settle u (fH (below n xs) n xs)).1:Nat) : Int),v5]=some (M5.put b (.row (l.take o++[N .u64 (((settle u (fH (below n xs) n xs)).1:Nat) : Int),v5]++l.drop (o + 2)) false T 0)):=by
   rw[RM.vW hb5,oP (by simp only[List.length_cons,List.length_nil]; omega) (Nat.zero_le _) (by simp[Ps,aL.one s5])]; rfl
  refine⟨rfl,_,hst, ?_⟩
  have kf:ag [b] M5 (M5.put b (.row (l.take o++[N .u64 (((settle u (fH (below n xs) n xs)).1:Nat) : Int),v5]++l.drop (o + 2)) false T 0)):=(ag.refl _ _).put _ (.inr (by simp))
  have:=hnew v5 _ (by rw[aU,e0]) (by rw[e0]; exact aL.keep s5 kf (fun d hd h=>by have:=b3 d (b5 d hd); simp at h; omega)) c5 (fun d hd=>by have:=b3 d (b5 d hd); omega) ((ke5.mono (by simp)).trans kf)
  rw[e0] at this; exact this
def ed (p:Pt) (n:Nat) : Bool:=(decide (1≤n) && decide (n≤p.1)) || decide (n∈p.2)
def O5 (c:au) : Prop:=∀ {M:RM} {b o T u n:Nat} {l:List AV} {v:AV} {xs:List Nat} {Q:ai},M.heap b=some (.row l false T 0)→l[o]?=some (N .u64 (u:Int))→l[o + 1]?=some v→Sl aS M v xs→Asc xs→xs.length≤1000000 →
 Q (Bo (ed (u,xs) n)) M→c [.ptr b o,N .u64 (n:Int)] M Q
theorem Zl {cb:au} (hsr:Gr cb) : O5 fun args M Q=>∃ a0 a1,args=[a0,a1]∧DY cb a0 a1 M Q:=by
 intro M b o T u n l v xs Q hb ho hv hs hasc hxl hQ
 refine⟨_,_,rfl, ?_⟩
 unfold DY
 simp only[jd]
 unfold ed at hQ
 rw[aM,aX,av hb hv]
 refine hsr hs hxl hasc ?_
 rw[oW,o8,ik]
 by_cases h1:1≤n
 ·rw[show decide ((n:Int) ≥ 1)=true by simp; omega,dG,aM,aX,Nat.add_zero,av hb ho,kD]
  dsimp only
  rw[eT]
  by_cases h2:n≤u
  ·rw[show decide ((n:Int)≤(u:Int))=true by simpa using h2,lv]
   dsimp only
   rw[eT]
   simpa [h1,h2] using hQ
  ·rw[show decide ((n:Int)≤(u:Int))=false by simp; omega,fM]
   dsimp only
   rw[dh]
   simpa [h1,h2] using hQ
 ·rw[show decide ((n:Int) ≥ 1)=false by simp; omega,bN]
  dsimp only
  rw[dh,fM]
  dsimp only
  rw[dh]
  simpa [h1] using hQ
abbrev aB:=Int × Nat
abbrev aP (d:aB) : List AV:=[N .i64 d.1,N .u64 (d.2:Int)]
def dP:Enc aB:=⟨2,aP,fun _=>rfl,fun _=>rfl⟩
def good (d:aB) : Bool:=decide (0≤d.1) && decide (d.1<16) && decide (1≤d.2) && decide (d.2≤1099511627776)
def zD (c:au) : Prop:=∀ {M:RM} {d:aB} {Q:ai},(∀ M',ag [] M M'→Q (Bo (good d)) M')→c [.agg (aP d)] M Q
theorem NN {M1:RM} {K:ai} {d:aB} {T:Nat} {b:Nat} (h:M1.heap b=some (.row (aP d) false T 0)) (hQ:K (Bo (good d)) M1) :
  aI (.ptr b 0) 0 fun t3=>aj M1 t3 fun t4=>ae .geq t4 (N .i64 0) fun t5 =>
   ah t5 true (fun k'=>aI (.ptr b 0) 0 fun t7=>aj M1 t7 fun t8=>ae .lss t8 (N .i64 16) fun t9=>k' t9 M1) (fun k=>k .undef M1) fun t9 M2=>aK t5 t9 (Bo false) fun bM =>
   ah bM true (fun k'=>aI (.ptr b 0) 1 fun t12=>aj M2 t12 fun t13=>ae .geq t13 (N .u64 1) fun t14=>k' t14 M2) (fun k=>k .undef M2) fun t14 M3=>aK bM t14 (Bo false) fun t15 =>
   ah t15 true (fun k'=>aI (.ptr b 0) 1 fun t17=>aj M3 t17 fun t18=>ae .leq t18 (N .u64 1099511627776) fun t19=>k' t19 M3) (fun k=>k .undef M3) fun t19 M4=>aK t15 t19 (Bo false) fun t20=>K t20 M4:=by
 unfold good at hQ
 obtain⟨dv,n⟩:=d
 simp only at hQ
 rw[bB,av h rfl,ik]
 by_cases h1:0≤dv
 ·rw[show decide (dv ≥ 0)=true by simpa using h1,dG,bB,av h rfl,cK]
  dsimp only
  rw[eT]
  by_cases h2:dv<16
  ·rw[show decide (dv<16)=true by simpa using h2,dG,bB,av h rfl,ik]
   dsimp only
   rw[eT]
   by_cases h3:1≤n
   ·rw[show decide ((n:Int) ≥ 1)=true by simp; omega,dG,bB,av h rfl,kD]
    dsimp only
    rw[eT,show decide ((n:Int)≤1099511627776)=decide (n≤1099511627776) by simp; omega]
    simpa [h1,h2,h3] using hQ
   ·rw[show decide ((n:Int) ≥ 1)=false by simp; omega,bN]
    dsimp only
    rw[dh]
    simpa [h1,h2,h3] using hQ
  ·rw[show decide (dv<16)=false by simpa using h2,bN]
   dsimp only
   rw[dh,bN]
   dsimp only
   rw[dh]
   simpa [h1,h2] using hQ
 ·rw[show decide (dv ≥ 0)=false by simpa using h1,bN]
  dsimp only
  rw[dh,bN]
  dsimp only
  rw[dh,bN]
  dsimp only
  rw[dh]
  simpa [h1] using hQ
theorem Y9 {T:Nat} : zD fun args M Q=>∃ a0,args=[a0]∧Iy T a0 M Q:=by
 intro M d Q hQ
 refine⟨_,rfl, ?_⟩
 unfold Iy
 simp only[jd]
 rw[dL rfl (by simp),bz]
 exact NN (RM.aT _) (hQ _ ((ag.refl _ _).push _))
theorem Rh {T:Nat} : zD fun args M Q=>∃ a0,args=[a0]∧IQ T a0 M Q:=by
 intro M d Q hQ
 refine⟨_,rfl, ?_⟩
 unfold IQ
 simp only[jd]
 rw[dL rfl (by simp),bz]
 exact NN (RM.aT _) (hQ _ ((ag.refl _ _).push _))
def l9 (p:Pt) : Prop:=Asc p.2∧(∀ x∈p.2,p.1 + 1<x)∧p.1≤1099511627776∧(∀ x∈p.2,x≤1099511627776)∧p.2.length≤4096
theorem aab {n:Nat} {xs:List Nat} (h:Asc xs) (hn:n ∉ xs) : Asc (fH (below n xs) n xs):=by
 unfold fH Asc
 rw[List.pairwise_append]
 have ht:=List.Pairwise.sublist (List.take_sublist (below n xs) xs) h
 have hd:=List.Pairwise.sublist (List.drop_sublist (below n xs) xs) h
 have lt1:∀ a∈xs.take (below n xs),a<n:=fun a ha=>by
  obtain⟨i,hi,rfl⟩:=List.getElem_of_mem ha
  rw[List.getElem_take]
  exact PU (by simp at hi; omega) (by simp at hi; omega)
 have gt1:∀ a∈xs.drop (below n xs),n<a:=fun a ha=>by
  obtain⟨i,hi,rfl⟩:=List.getElem_of_mem ha
  rw[List.getElem_drop]
  simp only[List.length_drop] at hi
  have h0:below n xs<xs.length:=by omega
  have h1:=Sg (n:=n) h0
  have h2:xs[below n xs]≠n:=fun e=>hn (by rw[← e]; exact List.getElem_mem h0)
  rcases Nat.eq_zero_or_pos i with rfl | hi0
  ·simp only[Nat.add_zero]; omega
  ·have:=h.lt (i:=below n xs) (j:=below n xs + i) (by omega) (by omega); omega
 refine⟨ht,List.pairwise_cons.2 ⟨gt1,hd⟩,fun a ha b hb=>?_⟩
 rcases List.mem_cons.1 hb with rfl | hb
 ·exact lt1 a ha
 ·have:=lt1 a ha; have:=gt1 b hb; omega
theorem yS:∀ (xs:List Nat) (u N:Nat),Asc xs→u≤N→(∀ x∈xs,x≤N)→Asc (settle u xs).2∧(∀ x∈(settle u xs).2,(settle u xs).1 + 1<x)∧(settle u xs).1≤N∧u≤(settle u xs).1
 | [],u,N,_,hu,_=>⟨by simp[settle,dE,Asc],by simp[settle,dE],hu,Nat.le_refl _⟩
 | x :: xs,u,N,ha,hu,hx=>by
   have ha2:=(List.pairwise_cons.1 ha).2
   by_cases h:x≤u + 1
   ·have e:settle u (x :: xs)=settle (max u x) xs:=by
     unfold settle
     rw[dE,if_pos h]; rfl
    rw[e]
    have:=yS xs (max u x) N ha2 (by have:=hx x (by simp); omega) (fun y hy=>hx y (by simp[hy]))
    exact⟨this.1,this.2.1,this.2.2.1,by have:=this.2.2.2; omega⟩
   ·have e:settle u (x :: xs)=(u,x :: xs):=by
     unfold settle
     rw[dE,if_neg h]; rfl
    rw[e]
    refine⟨ha,fun y hy=>?_,hu,Nat.le_refl _⟩
    simp only at hy ⊢
    rcases List.mem_cons.1 hy with rfl | hy
    ·omega
    ·have:=(List.pairwise_cons.1 ha).1 y hy; omega
theorem KV {u:Nat} {xs:List Nat} {y:Nat} (h:y∈(settle u xs).2) : y∈xs:=List.mem_of_mem_drop h
theorem aeE {p:Pt} {n:Nat} (hp:l9 p) (hn:n≤1099511627776) : l9 (fF p n).2:=by
 unfold fF
 split
 ·exact hp
 ·rename_i h
  split
  ·rename_i h2
   have hm:n ∉ p.2:=fun hm=>h (.inl hm)
   have:=yS (fH (below n p.2) n p.2) p.1 1099511627776 (aab hp.1 hm) hp.2.2.1 (fun x hx=>by rcases Dm hx with rfl | hx; exact hn; exact hp.2.2.2.1 x hx)
   exact⟨this.1,this.2.1,this.2.2.1,fun x hx=>by rcases Dm (KV hx) with rfl | hx; exact hn; exact hp.2.2.2.1 x hx,h2⟩
  ·exact hp
structure fV (T:Nat) (S:Nat→Prop) (M:RM) (b:Nat) (ps:List Pt) : Prop where
 lt:b<M.next
 len:ps.length=16
 row:∃ l,M.heap b=some (.row l false T 0)∧l.length=32∧∀ (i:Nat) (hi:i<ps.length),∃ v,l[2 * i]?=some (N .u64 (ps[i].1:Int))∧l[2 * i + 1]?=some v∧Sl aS M v ps[i].2∧kN v∧∀ d∈aD v,S d
 nb:¬ S b
theorem fV.mono {T:Nat} {S S' : Nat→Prop} {M:RM} {b:Nat} {ps:List Pt} (h:fV T S M b ps) (hs:∀ d,S d→S' d) (hb:¬ S' b) : fV T S' M b ps:=by
 obtain⟨l,h1,h2,h3⟩:=h.row
 exact⟨h.lt,h.len,⟨l,h1,h2,fun i hi=>let ⟨v,a1,a2,a3,a4,a5⟩:=h3 i hi; ⟨v,a1,a2,a3,a4,fun d hd=>hs d (a5 d hd)⟩⟩,hb⟩
theorem fV.keep {T:Nat} {S:Nat→Prop} {M M' : RM} {b:Nat} {ps:List Pt} {bs:List Nat} (h:fV T S M b ps) (hk:ag bs M M') (hb:b ∉ bs) (hs:∀ d∈bs,¬ S d) : fV T S M' b ps:=by
 obtain⟨l,h1,h2,h3⟩:=h.row
 exact⟨Nat.lt_of_lt_of_le h.lt hk.next,h.len,⟨l,hk.aR h1 h.lt hb,h2,fun i hi=>let ⟨v,a1,a2,a3,a4,a5⟩:=h3 i hi; ⟨v,a1,a2,aL.keep a3 hk (fun d hd hm=>hs d hm (a5 d hd)),a4,a5⟩⟩,h.nb⟩
theorem fV.below {T:Nat} {S:Nat→Prop} {M:RM} {b:Nat} {ps:List Pt} (h:fV T S M b ps) : fV T (fun d=>S d∧d<M.next) M b ps:=by
 obtain⟨l,h1,h2,h3⟩:=h.row
 exact⟨h.lt,h.len,⟨l,h1,h2,fun i hi=>let ⟨v,a1,a2,a3,a4,a5⟩:=h3 i hi; ⟨v,a1,a2,a3,a4,fun d hd=>⟨a5 d hd,aL.lt a3 d hd⟩⟩⟩,fun hb=>h.nb hb.1⟩
def jG (ps:List Pt) (d:aB) : Int × List Pt :=
 if good d then(if (fF (ps.getD d.1.toNat (0,[])) d.2).1 then(0,ps.set d.1.toNat (fF (ps.getD d.1.toNat (0,[])) d.2).2) else(2,ps)) else(1,ps)
def O8 (T:Nat) (c:au) : Prop:=∀ {M:RM} {b:Nat} {ps:List Pt} {d:aB} {S:Nat→Prop} {Q:ai},fV T S M b ps→(∀ p∈ps,l9 p) →
 (∀ M',fV T (fun e=>S e∨M.next≤e) M' b (jG ps d).2→ag [b] M M'→Q (N .i64 (jG ps d).1) M')→c [.ptr b 0,.agg (aP d)] M Q
theorem Wv {p:Pt} {n:Nat} (h:(fF p n).1=false) : (fF p n).2=p:=by
 unfold fF at h ⊢
 split
 ·rfl
 ·split
  ·rename_i h1 h2
   rw[if_neg h1,if_pos h2] at h; cases h
  ·rfl
theorem Za {T TD:Nat} {cg ca:au} (hg:zD cg) (ha:Wp ca) : O8 T fun args M Q=>∃ a0 a1,args=[a0,a1]∧FH TD cg ca a0 a1 M Q:=by
 intro M b ps d S Q hset hwf hQ
 refine⟨_,_,rfl, ?_⟩
 unfold FH
 rw[dL rfl (by simp),bz,eX (n:=2) (RM.aT _) rfl]
 have k1:ag [] M (M.push (.row (aP d) false TD 0)):=(ag.refl _ _).push _
 have h3:(M.push (.row (aP d) false TD 0)).heap M.next=some (.row (aP d) false TD 0):=RM.aT _
 have n1:(M.push (.row (aP d) false TD 0)).next=M.next + 1:=rfl
 generalize M.push (.row (aP d) false TD 0)=M1 at *
 refine hg fun M2 k2=>?_
 have kk:=k1.trans k2
 have h3:=k2.aR h3 (by omega) (by simp)
 have s2:=hset.keep kk (by simp) (by simp)
 have hbl:=hset.lt
 rw[bK]
 unfold jG at hQ
 have n2:=k2.next
 cases hgd:good d with
 | false =>
   simp only[hgd,Bool.false_eq_true,if_false] at hQ
   rw[Bool.not_false,dH]
   exact hQ M2 (s2.mono (fun e h=>.inl h) (fun h=>by rcases h with h | h; exact hset.nb h; omega)) (kk.mono (by simp))
 | true =>
   simp only[hgd,if_true] at hQ
   have hgd':=hgd
   simp[good] at hgd'
   obtain⟨i,hi⟩ : ∃ i:Nat,d.1=(i:Int):=⟨d.1.toNat,by omega⟩
   have aba:i<16:=by omega
   have hil:i<ps.length:=by rw[hset.len]; exact aba
   have alH:ps.getD d.1.toNat (0,[])=ps[i]:=by rw[hi,Int.toNat_natCast,List.getD_eq_getElem?_getD,List.getElem?_eq_getElem hil]; rfl
   rw[alH] at hQ
   rw[hi,Int.toNat_natCast] at hQ
   rw[Bool.not_true,bG,bB,av h3 rfl,aM,bB,hi,yI]
   refine⟨by omega,by omega, ?_⟩
   rw[bB,av h3 rfl,Int.toNat_natCast,Nat.zero_add,Nat.mul_comm i 2]
   obtain⟨l,hb,Xj,hrow⟩:=s2.row
   obtain⟨v,a1,a2,a3,a4,a5⟩:=hrow i hil
   have hwp:=hwf _ (List.getElem_mem hil)
   have hk0:∀ b'∈([b] : List Nat),b'=b:=by simp
   refine ha hb s2.lt a1 a2 a3 (fun h=>hset.nb (a5 b h)) a4 hwp.1 (by have:=hwp.2.2.2.2; omega) (by have:=hwp.2.2.1; omega) (fun x hx=>by have:=hwp.2.2.2.1 x hx; omega) (by omega) ?_ ?_
   ·intro M3 he k3
    have s3:=s2.keep k3 (by simp) (by simp)
    rw[bK]
    cases hr:(fF (ps[i].1,ps[i].2) d.2).1 with
    | false =>
      have hr' : (fF ps[i] d.2).1=false:=hr
      simp only[hr',Bool.false_eq_true,if_false] at hQ
      rw[Bool.not_false,dH]
      exact hQ M3 (s3.mono (fun e h=>.inl h) (fun h=>by rcases h with h | h; exact hset.nb h; omega)) ((kk.trans k3).mono (by simp))
    | true =>
      have hr' : (fF ps[i] d.2).1=true:=hr
      have he2:(fF ps[i] d.2).2=ps[i]:=by
       have:=congrArg Prod.snd he
       exact this
      simp only[hr',if_true,he2,List.set_getElem_self] at hQ
      rw[Bool.not_true,bG]
      exact hQ M3 (s3.mono (fun e h=>.inl h) (fun h=>by rcases h with h | h; exact hset.nb h; omega)) ((kk.trans k3).mono (by simp))
   ·intro v' M3 hb3 hs3 hc3 hbk k3
    rw[bK]
    have hb2n:∀ b'∈aD v',b'≠b:=fun b' hb' e=>by have:=hbk b' hb'; omega
    have RY:fV T (fun e=>S e∨M.next≤e) M3 b (ps.set i (fF ps[i] d.2).2):=by
     refine⟨Nat.lt_of_lt_of_le s2.lt k3.next,by rw[List.length_set]; exact hset.len,⟨_,hb3,by simp[Xj]; omega,fun j hj=>?_⟩,fun h=>by rcases h with h | h; exact hset.nb h; omega⟩
     rw[List.length_set] at hj
     have htl:(l.take (2 * i)).length=2 * i:=by simp; omega
     by_cases hji:j=i
     ·subst hji
      refine⟨v', ?_, ?_, ?_,hc3,fun e he=>.inr (by have:=hbk e he; omega)⟩
      ·rw[List.append_assoc,List.getElem?_append_right (by omega),htl,Nat.sub_self]; simp
      ·rw[List.append_assoc,List.getElem?_append_right (by omega),htl,show 2 * j + 1 - 2 * j=1 by omega]; simp
      ·simp only[List.getElem_set_self]; exact hs3
     ·obtain⟨w,e1,e2,e3,e4,e5⟩:=hrow j hj
      have same:∀ k,(k=2 * j∨k=2 * j + 1)→(l.take (2 * i)++[N .u64 (((fF (ps[i].1,ps[i].2) d.2).2.1:Nat) : Int),v']++l.drop (2 * i + 2))[k]?=l[k]?:=fun k hk=>by
       rcases Nat.lt_or_ge k (2 * i) with h | h
       ·rw[List.append_assoc,List.getElem?_append_left (by omega),List.getElem?_take_of_lt h]
       ·rw[List.getElem?_append_right (by simp; omega),List.getElem?_drop]
        congr 1
        simp; omega
      refine⟨w, ?_, ?_, ?_,e4,fun e he=>.inl (e5 e he)⟩
      ·rw[same _ (.inl rfl),e1,List.getElem_set_ne (Ne.symm hji)]
      ·rw[same _ (.inr rfl),e2]
      ·rw[List.getElem_set_ne (Ne.symm hji)]
       exact aL.keep e3 k3 (fun e he hm=>by simp at hm; subst hm; exact hset.nb (e5 _ he))
    cases hr:(fF (ps[i].1,ps[i].2) d.2).1 with
    | false =>
      have hr' : (fF ps[i] d.2).1=false:=hr
      simp only[hr',Bool.false_eq_true,if_false] at hQ
      rw[Bool.not_false,dH]
      have e:=Wv hr'
      rw[e,List.set_getElem_self] at RY
      exact hQ M3 RY ((kk.mono (by simp)).trans k3)
    | true =>
      have hr' : (fF ps[i] d.2).1=true:=hr
      simp only[hr',if_true] at hQ
      rw[Bool.not_true,bG]
      exact hQ M3 RY ((kk.mono (by simp)).trans k3)
def iT:List Pt:=List.replicate 16 (0,[])
def Sa (T:Nat) (c:au) : Prop:=∀ {M:RM} {Q:ai},(∀ M',fV T (fun _=>False) M' M.next iT→ag [] M M'→M'.next=M.next + 1→Q (.ptr M.next 0) M')→c [] M Q
theorem abD {T:Nat} : Sa T fun args M Q=>args=[]∧MH T M Q:=by
 intro M Q hQ
 refine⟨rfl, ?_⟩
 unfold MH
 rw[rU]
 refine⟨_,rfl, ?_⟩
 rw[dL rfl (by simp),bz]
 refine hQ _ ⟨by simp[RM.push],rfl,⟨_,RM.aT _,rfl,fun i hi=>?_⟩,id⟩ ((ag.refl _ _).push _) rfl
 have hi:i<16:=hi
 refine⟨bO, ?_, ?_, ?_,trivial,by simp[aD]⟩
 ·obtain rfl | rfl | rfl | rfl | rfl | rfl | rfl | rfl | rfl | rfl | rfl | rfl | rfl | rfl | rfl | rfl:i=0∨i=1∨i=2∨i=3∨i=4∨i=5∨i=6∨i=7∨i=8∨i=9∨i=10∨i=11∨i=12∨i=13∨i=14∨i=15:=by omega
  all_goals rfl
 ·obtain rfl | rfl | rfl | rfl | rfl | rfl | rfl | rfl | rfl | rfl | rfl | rfl | rfl | rfl | rfl | rfl:i=0∨i=1∨i=2∨i=3∨i=4∨i=5∨i=6∨i=7∨i=8∨i=9∨i=10∨i=11∨i=12∨i=13∨i=14∨i=15:=by omega
  all_goals rfl
 ·simp only[iT,List.getElem_replicate]; exact .nil
section
variable {α:Type} {E:Enc α}
end
def afm:Nat→Nat→List UInt8→Option (Nat × Nat)
 | _,_,[]=>none
 | i,v,x :: xs =>
   if x.toNat ≥ 128 then afm (i + 1) ((v ||| (x.toNat % 128 * 2 ^ (7 * i) % 2 ^ 64)) % 2 ^ 64) xs
   else if x.toNat=0∧i > 0∨i=9∧x.toNat > 1 then none else some ((v ||| (x.toNat % 128 * 2 ^ (7 * i) % 2 ^ 64)) % 2 ^ 64,i + 1)
def aom (bs:List UInt8) : Option (Nat × Nat):=afm 0 0 (bs.take 10)
structure RdH (T:Nat) (S:Nat→Prop) (M:RM) (r:Nat) (bs:List UInt8) (f:Bool) : Prop where
 lt:r<M.next
 row:∃ v,M.heap r=some (.row [v,Bo f] false T 0)∧Sl BY M v bs∧kN v∧∀ d∈aD v,S d
 nb:¬ S r
theorem RdH.keep {T:Nat} {S:Nat→Prop} {M M' : RM} {r:Nat} {bs:List UInt8} {f:Bool} {ks:List Nat} (h:RdH T S M r bs f) (hk:ag ks M M') (hr:r ∉ ks) (hs:∀ d∈ks,¬ S d) : RdH T S M' r bs f:=by
 obtain⟨v,h1,h2,h3,h4⟩:=h.row
 exact⟨Nat.lt_of_lt_of_le h.lt hk.next,⟨v,hk.aR h1 h.lt hr,aL.keep h2 hk (fun d hd hm=>hs d hm (h4 d hd)),h3,h4⟩,h.nb⟩
def aez (most:Nat) (bs:List UInt8) (f:Bool) : Nat × List UInt8 × Bool :=
 match aom bs with
 | none=>(0,bs,true)
 | some (v,n)=>if f || decide (most<v) then(0,bs,true) else(v,bs.drop n,false)
def ac0 (f:(List AV→RM→Prop)→Prop) (g:List AV→RM→Prop) : Prop:=f g
theorem bZ (f:(List AV→RM→Prop)→Prop) (g:List AV→RM→Prop) : cz f g=ac0 f g:=rfl
theorem bA {H:(List AV→RM→Prop)→Prop} {G:List AV→RM→Prop} (P:List AV→RM→Prop) (hT:∀ xs M,P xs M→G xs M)
  (hH:∀ J:List AV→RM→Prop,(∀ xs M,P xs M→J xs M)→H J) : ac0 H G:=hH G hT
abbrev jT:=(Nat × Nat) × List Nat
def FR (ps:List Pt) : Nat→List jT
 | 0=>[]
 | i + 1=>FR ps i++(if 0<(ps.getD i (0,[])).1∨0<(ps.getD i (0,[])).2.length then[((i,(ps.getD i (0,[])).1),(ps.getD i (0,[])).2)] else[])
def parts (ps:List Pt) : List jT:=FR ps 16
@[irreducible] def apx (x a:Nat) : Nat:=(x + 18446744073709551616 - a) % 18446744073709551616
structure Nn (T TU base:Nat) (M:RM) (b:Nat) (ps:List Pt) : Prop where
 lt:b<M.next
 len:ps.length=16
 row:∃ (l:List AV) (vs:Nat→AV),M.heap b=some (.row l false T 0)∧l.length=32∧(∀ (i:Nat) (hi:i<ps.length),l[2 * i]?=some (N .u64 (ps[i].1:Int))∧l[2 * i + 1]?=some (vs i)∧Ow aS M base TU (vs i) ps[i].2) ∧
  ∀ i j,i<16→j<16→i≠j→∀ d∈aD (vs i),d ∉ aD (vs j)
 nb:b<base
theorem Nn.keep {T TU base:Nat} {M M' : RM} {b:Nat} {ps:List Pt} {bs:List Nat} (h:Nn T TU base M b ps) (hk:ag bs M M') (hb:b ∉ bs) (hs:∀ d∈bs,d<base) : Nn T TU base M' b ps:=by
 obtain⟨l,vs,h1,h2,h3,h4⟩:=h.row
 refine⟨Nat.lt_of_lt_of_le h.lt hk.next,h.len,⟨l,vs,hk.aR h1 h.lt hb,h2,fun i hi=>⟨(h3 i hi).1,(h3 i hi).2.1,(h3 i hi).2.2.keep hk fun d hd hm=>?_⟩,h4⟩,h.nb⟩
 have:=((h3 i hi).2.2.blk d hd).1
 have:=hs d hm
 omega
theorem Nn.more {T TU base:Nat} {M:RM} {b i x:Nat} {ps:List Pt} (h:Nn T TU base M b ps) (hi:i<16) (hlen:(ps.getD i (0,[])).2.length≤1000000) (hbase:base≤M.next) {K:RM→Prop}
  (hK:∀ M' ks,Nn T TU base M' b (ps.set i ((ps.getD i (0,[])).1,(ps.getD i (0,[])).2++[x]))→ag ks M M'→(∀ d∈ks,d=b∨base≤d)→K M') :
  aj M (.ptr b (2 * i + 1)) fun t55=>fw TU 1 [(N .u64 0)] [(0,1,N .u64 (x:Int))] fun r f=>bP r f M fun t57 dW=>appW TU 1 8 [(N .u64 0)] false t55 t57 dW fun t58 fO =>
   bV (.ptr b (2 * i)) fun t59=>aI t59 1 fun t60=>aG fO t60 t58 1 K:=by
 obtain⟨l,vs,h1,h2,h3,h4⟩:=h.row
 have hnb:=h.nb
 have hblt:=h.lt
 have hil:i<ps.length:=by rw[h.len]; exact hi
 have hpD:ps.getD i (0,[])=ps[i]:=by rw[List.getD_eq_getElem?_getD,List.getElem?_eq_getElem hil]; rfl
 rw[hpD] at hlen hK
 rw[av h1 (h3 i hil).2.1,pM (x:=N .u64 (x:Int)) (size:=1) rfl rfl rfl,bz]
 refine uP (E:=aS) (a:=x) (h3 i hil).2.2 hbase (Nat.le_refl _) (by omega) (by omega) ?_
 intro v' M' o1 k1 n1 hv
 have hbv:∀ j,b ∉ aD (vs j)∨¬ j<16:=fun j=>by
  by_cases hj:j<16
  ·refine .inl fun hm=>?_
   have:=((h3 j (by rw[h.len]; exact hj)).2.2.blk b hm).1
   omega
  ·exact .inr hj
 have hh:M'.heap b=some (.row l false T 0):=k1.aR h1 hblt (by rcases hbv i with h | h; exact h; exact absurd hi h)
 rw[aM,aX,fT hh (by omega) o1.cells o1.one]
 have kk:ag [b] M' (M'.put b (.row (l.set (2 * i + 1) v') false T 0)):=(ag.refl _ _).put _ (.inr (by simp))
 have nbv:b ∉ aD v':=fun hm=>by have:=(o1.blk b hm).1; omega
 refine hK _ (b :: aD (vs i)) ⟨Nat.lt_of_lt_of_le hblt n1,by rw[List.length_set]; exact h.len,⟨_,fun j=>if j=i then v' else vs j,aU _,by rw[List.length_set]; exact h2,fun j hj=>?_,fun j1 j2 q1 q2 hne d hd=>?_⟩,h.nb⟩ ?_ ?_
 ·have hj' : j<ps.length:=by rw[List.length_set] at hj; exact hj
  by_cases hji:j=i
  ·subst hji
   refine⟨?_, ?_, ?_⟩
   ·rw[List.getElem?_set_ne (by omega),List.getElem_set_self]; exact(h3 j hj').1
   ·rw[List.getElem?_set_self (by omega)]; simp
   ·rw[List.getElem_set_self]; simp only[if_true]
    exact o1.keep kk fun d hd hm=>by simp at hm; subst hm; exact nbv hd
  ·have aam:j<16:=by rw[← h.len]; exact hj'
   refine⟨?_, ?_, ?_⟩
   ·rw[List.getElem?_set_ne (by omega),List.getElem_set_ne (Ne.symm hji)]; exact(h3 j hj').1
   ·rw[List.getElem?_set_ne (by omega)]; simp only[if_neg hji]; exact(h3 j hj').2.1
   ·rw[List.getElem_set_ne (Ne.symm hji)]; simp only[if_neg hji]
    refine((h3 j hj').2.2.keep k1 fun d hd hm=>h4 j i aam hi hji d hd hm).keep kk fun d hd hm=>?_
    simp at hm; subst hm
    rcases hbv j with h | h
    ·exact h hd
    ·exact h aam
 ·simp only at hd ⊢
  by_cases e1:j1=i
  ·rw[if_pos e1] at hd
   rw[if_neg (fun e=>hne (e1.trans e.symm))]
   rcases hv with rfl | hv
   ·exact h4 i j2 hi q2 (fun e=>hne (e1.trans e)) d hd
   ·intro hm
    have:=hv d hd
    have:=((h3 j2 (by rw[h.len]; exact q2)).2.2.blk d hm).2
    omega
  ·rw[if_neg e1] at hd
   by_cases e2:j2=i
   ·rw[if_pos e2]
    rcases hv with rfl | hv
    ·exact h4 j1 i q1 hi e1 d hd
    ·intro hm
     have:=hv d hm
     have:=((h3 j1 (by rw[h.len]; exact q1)).2.2.blk d hd).2
     omega
   ·rw[if_neg e2]
    exact h4 j1 j2 q1 q2 hne d hd
 ·exact(k1.mono (fun d hd=>List.mem_cons_of_mem _ hd)).trans (kk.mono (by simp))
 ·intro d hd
  rcases List.mem_cons.1 hd with rfl | hd
  ·exact .inl rfl
  ·exact .inr ((h3 i hil).2.2.blk d hd).1
theorem Own.sl {M:RM} {base T:Nat} {v:AV} {L:List UInt8} (h:Own M base T 1 v (Sb L) L.length) : Sl BY M v L:=by
 have:=h.kU
 show aL M 1 v (BY.row L) L.length
 rw[Rf]; exact this
@[irreducible] def apC (bs:List UInt8) (f:Bool) : Nat × List UInt8 × Bool:=aez 18446744073709551615 bs f
theorem El {ps:List Pt} {i:Nat} (h:i<ps.length) (p:Pt) : (ps.set i p).getD i (0,[])=p:=by
 rw[List.getD_eq_getElem?_getD,List.getElem?_set_self h]; rfl
def yY (a b:aB) : Bool:=decide (a.1<b.1) || (decide (a.1=b.1) && decide (a.2<b.2))
theorem Lc (a b:aB) : df [1,1] (aP a) (aP b)=some (decide (a=b)):=by
 obtain⟨d,n⟩:=a
 obtain⟨e,k⟩:=b
 simp only[LH,Dy]
 by_cases h1:d=e
 ·by_cases h2:n=k
  ·simp[h1,h2]
  ·have:¬ (n:Int)=(k:Int):=by omega
   simp[h1,h2,this]
 ·simp[h1]
section
variable {α:Type} {E:Enc α}
theorem ae6 {M:RM} {base T k:Nat} {v:AV} {xs:List α} (hE:1≤E.size) (ho:Ow E M base T v xs) (hk:k≤xs.length) :
  ∃ v1 v2,bR E.size v none (some (N .i64 (k:Int))) none=some v1∧Sl E M v1 (xs.take k)∧bR E.size v (some (N .i64 (k:Int))) none none=some v2∧Sl E M v2 (xs.drop k)∧(∀ d∈aD v1,d∈aD v)∧∀ d∈aD v2,d∈aD v:=by
 have hs:=ho.kU
 generalize hcs:E.row xs=cs at *
 have ho' : Own M base T E.size v cs xs.length:=by rw[← hcs]; exact ho
 have hl:cs.length=xs.length * E.size:=by rw[← hcs,Enc.dX]
 have hd:E.row (xs.drop k)=cs.drop (k * E.size):=by rw[← hcs,← E.rO]
 have ht:E.row (xs.take k)=cs.take (k * E.size):=by rw[← hcs,← E.qX]
 have g1:∀ v',Sl E M v' (xs.take k)↔aL M E.size v' (cs.take (k * E.size)) k:=fun v'=>by simp only[Sl]; rw[ht,List.length_take,Nat.min_eq_left hk]
 have g2:∀ v',Sl E M v' (xs.drop k)↔aL M E.size v' (cs.drop (k * E.size)) (xs.length - k):=fun v'=>by simp only[Sl]; rw[hd,List.length_drop]
 generalize hn:xs.length=n at *
 cases ho' with
 | nil =>
   have:k=0:=by omega
   subst this
   exact⟨bO,bO,by simp[bR,bnd],(g1 _).2 (by simp; exact .nil),by simp[bR,bnd],(g2 _).2 (by simp; exact .nil),by simp,by simp⟩
 | ex0 b o h1 h2 h3 =>
   have:k=0:=by omega
   subst this
   have e0:aL M E.size (.slc b o 0 (.ex 0)) [] 0:=hs
   exact⟨.slc b o 0 (.ex 0),.slc b o 0 (.ex 0),by simp[bR,bnd],(g1 _).2 (by simpa using e0),by simp[bR,bnd],(g2 _).2 (by simpa using e0),by simp[aD],by simp[aD]⟩
 | op b n cs h1 h2 h3 h4 =>
   have hload:∀ o m,o + m≤cs.length→M.loads b o m=some ((cs.drop o).take m):=fun o m h=>RM.bW h3 h
   have hmul:k * E.size≤n * E.size:=Nat.mul_le_mul_right _ hk
   by_cases hn0:n=0
   ·have hk0:k=0:=by omega
    subst hk0 hn0
    have hc0:cs=[]:=List.length_eq_zero_iff.1 (by simpa using h4)
    subst hc0
    exact⟨.emp b,.emp b,by simp[bR,bnd],(g1 _).2 (by simp; exact .emp b),by simp[bR,bnd],(g2 _).2 (by simp; exact .emp b),by simp[aD],by simp[aD]⟩
   ·have p1:aL M E.size (.slc b (0 + 0 * E.size) (k - 0) (.op E.size)) (cs.take (k * E.size)) k:=by
     rw[Nat.sub_zero,Nat.zero_mul]
     refine .slc _ _ _ _ _ h2 ?_
     have:=hload 0 (k * E.size) (by omega)
     simpa using this
    by_cases hkn:n≤k
    ·refine⟨.slc b (0 + 0 * E.size) (k - 0) (.op E.size),.emp b,by simp only[bR,bnd]; simp[hk,hn0],(g1 _).2 p1,by simp only[bR,bnd]; simp[hk,hkn],(g2 _).2 ?_,by simp[aD],by simp[aD]⟩
     have:k=n:=by omega
     subst this
     rw[Nat.sub_self,List.drop_of_length_le (by omega)]
     exact .emp b
    ·refine⟨.slc b (0 + 0 * E.size) (k - 0) (.op E.size),.slc b (0 + k * E.size) (n - k) (.op E.size),by simp only[bR,bnd]; simp[hk,hn0],(g1 _).2 p1,by simp only[bR,bnd]; simp[hk,hkn],(g2 _).2 ?_,by simp[aD],by simp[aD]⟩
     refine .slc _ _ _ _ _ h2 ?_
     have hs2:k * E.size + (n - k) * E.size=n * E.size:=by rw[← Nat.add_mul]; congr 1; omega
     rw[Nat.zero_add,hload (k * E.size) ((n - k) * E.size) (by omega),List.take_of_length_le (by simp; omega)]
end
def atL (d:aB) (l:List aB) : Nat:=(l.takeWhile (fun x=>yY x d)).length
def WX (l:List aB) (d:aB) : List aB:=if d∈l then l else l.take (atL d l)++d :: l.drop (atL d l)
theorem abq (l:List aB) (d:aB) : (WX l d).length≤l.length + 1:=by
 unfold WX
 split
 ·omega
 ·simp; omega
def adZ (T:Nat) (c:au) : Prop:=∀ {M:RM} {base:Nat} {v:AV} {l:List aB} {d:aB} {Q:ai},Ow dP M base T v l→base≤M.next→l.length≤100000→(∀ v' M',Ow dP M' base T v' (WX l d)→ag [] M M'→Q v' M')→c [v,.agg (aP d)] M Q
def qH (p:List Pt × List aB) (d:aB) : List Pt × List aB:=((jG p.1 d).2,if (jG p.1 d).1=0 then WX p.2 d else p.2)
def Rz (l:List aB) : List Pt × List aB:=l.foldl qH (iT,[])
theorem JP:∀ p∈iT,l9 p:=fun p hp=>by
 simp only[iT,List.mem_replicate] at hp
 rw[hp.2]
 exact⟨.nil,fun x hx=>by simp at hx,Nat.zero_le _,fun x hx=>by simp at hx,Nat.zero_le _⟩
theorem xN {ps:List Pt} (h:∀ p∈ps,l9 p) (i:Nat) : l9 (ps.getD i (0,[])):=by
 rw[List.getD_eq_getElem?_getD]
 by_cases hj:i<ps.length
 ·rw[List.getElem?_eq_getElem hj]
  exact h _ (List.getElem_mem hj)
 ·rw[List.getElem?_eq_none (by omega)]
  exact⟨.nil,fun x hx=>by simp at hx,Nat.zero_le _,fun x hx=>by simp at hx,Nat.zero_le _⟩
theorem UT {ps:List Pt} {d:aB} (h:∀ p∈ps,l9 p) : ∀ p∈(jG ps d).2,l9 p:=by
 unfold jG
 split
 ·rename_i hg
  split
  ·intro p hp
   rcases List.mem_or_eq_of_mem_set hp with hp | rfl
   ·exact h p hp
   ·refine aeE (xN h _) ?_
    simp only[good,Bool.and_eq_true,decide_eq_true_eq] at hg
    exact hg.2
  ·exact h
 ·exact h
def OfC (TS TD:Nat) (c:au) : Prop:=∀ {M:RM} {v:AV} {l:List aB} {Q:ai},Sl dP M v l→l.length≤10000 →
 (∀ s w M',M.next≤s→fV TS (fun e=>s<e) M' s (Rz l).1→(∀ p∈(Rz l).1,l9 p)→Ow dP M' (s + 1) TD w (Rz l).2→(Rz l).2.length≤l.length→ag [] M M'→Q (.tup [.ptr s 0,w]) M')→c [v] M Q
theorem UK {TS TD:Nat} {cn ca cr:au} (hn:Sa TS cn) (ha:O8 TS ca) (hr:adZ TD cr) : OfC TS TD fun args M Q=>∃ a0,args=[a0]∧afX cn ca cr a0 M Q:=by
 intro M v l Q hs hl hQ
 refine⟨_,rfl, ?_⟩
 unfold afX
 simp only[bZ]
 refine hn fun M1 hs1 k1 n1=>?_
 generalize hsn:M.next=s at *
 refine aJ (fun m ys M3=>∃ (i:Nat) (w:AV) (p:List Pt × List aB),m=l.length - i∧ys=[w,N .i64 (i:Int)]∧i≤l.length∧ag [] M M3∧s<M3.next∧fV TS (fun e=>s<e) M3 s p.1∧(∀ q∈p.1,l9 q)∧Ow dP M3 (s + 1) TD w p.2∧p.2.length≤i ∧
   Rz l=(l.drop i).foldl qH p) _
  ⟨0,bO,(iT,[]),rfl,rfl,Nat.zero_le _,k1,by omega,hs1.mono (fun _ h=>h.elim) (by omega),JP,.nil,Nat.le_refl _,rfl⟩ ?_
 rintro next m ys M3 hnext ⟨i,w,p,rfl,rfl,hi,k3,n3,hs3,hw3,ho3,hpl,hof⟩
 dsimp only[aa]
 have s3:Sl dP M3 v l:=aL.keep hs k3 (by simp)
 rw[aL.len s3,cK]
 refine aH (fun hlt=>?_) (fun hge=>?_)
 ·have hlt:i<l.length:=by simpa using hlt
  rw[List.drop_eq_getElem_cons hlt,List.foldl_cons] at hof
  refine bA (fun zs M'=>∃ w',zs=[w']∧ag [] M M'∧s<M'.next∧fV TS (fun e=>s<e) M' s (qH p l[i]).1∧(∀ q∈(qH p l[i]).1,l9 q)∧Ow dP M' (s + 1) TD w' (qH p l[i]).2∧(qH p l[i]).2.length≤i + 1) ?_ ?_
  ·rintro zs M' ⟨w',rfl,b1,b2,b3,b4,b5,b6⟩
   dsimp only[aa]
   rw[bY,gD (by omega)]
   exact hnext _ _ _ (by omega) ⟨i + 1,w',_,rfl,rfl,by omega,b1,b2,b3,b4,b5,b6,hof⟩
  intro J hJ
  obtain⟨b1,o1,_,_,hidx,hld⟩:=Sl.at (E:=dP) (i:=i) s3 2 (i:Int) hlt rfl rfl
  rw[hidx,fK]
  refine⟨_,hld, ?_⟩
  refine ha hs3 hw3 fun M4 hs4 k4=>?_
  have n4:=k4.next
  have k34:ag [] M M4:=k3.dU k4 (by simp; omega)
  have aiB:fV TS (fun e=>s<e) M4 s (jG p.1 l[i]).2:=hs4.mono (fun e h=>by rcases h with h | h <;> omega) (by omega)
  have ho4:=ho3.keep k4 (fun b hb hm=>by have:=(ho3.blk b hb).1; simp at hm; omega)
  have hw4:=UT (d:=l[i]) hw3
  rw[cO]
  refine aH (fun he=>?_) (fun he=>?_)
  ·have he:(jG p.1 l[i]).1=0:=by simpa using he
   have s4:Sl dP M4 v l:=aL.keep hs k34 (by simp)
   obtain⟨b2,o2,_,_,alu,aol⟩:=Sl.at (E:=dP) (i:=i) s4 2 (i:Int) hlt rfl rfl
   rw[alu,fK]
   refine⟨_,aol, ?_⟩
   refine hr ho4 (by omega) (by omega) fun w' M5 ho5 k5=>?_
   have n5:=k5.next
   refine hJ _ _ ⟨w',rfl,k34.trans k5,by omega, ?_,hw4, ?_, ?_⟩
   ·exact aiB.keep k5 (by simp) (by simp)
   ·rw[qH]; simp only[he,if_true]; exact ho5
   ·rw[qH]; simp only[he,if_true]
    have:=abq p.2 l[i]
    omega
  ·have he:¬ (jG p.1 l[i]).1=0:=by simpa using he
   refine hJ _ _ ⟨w,rfl,k34,by omega,aiB,hw4, ?_, ?_⟩
   ·rw[qH]; simp only[he,if_false]; exact ho4
   ·rw[qH]; simp only[he,if_false]; omega
 ·have he:i=l.length:=by simp at hge; omega
  subst he
  rw[List.drop_length,List.foldl_nil] at hof
  subst hof
  exact hQ s w M3 (Nat.le_refl _) hs3 hw3 ho3 hpl k3
theorem Own.yP {M:RM} {base el size n:Nat} {v:AV} {cs:List AV} (h:Own M base el size v cs n) (hn:0<n) : ∃ b,v=.slc b 0 n (.op size)∧base≤b∧b<M.next∧M.heap b=some (.row cs true el 0)∧cs.length=n * size:=by
 cases h with
 | nil=>omega
 | ex0=>omega
 | op b n cs h1 h2 h3 h4=>exact⟨b,rfl,h1,h2,h3,h4⟩
theorem abM (x:Nat) (xs:List Nat) : fH xs.length x xs=xs++[x]:=by simp[fH]
theorem Xu {M:RM} {v:AV} {bx n0 T x ex:Nat} {xs:List Nat} {co cr:au} {Q:ai} (ho:Ow aS M n0 T v xs) (hn:n0≤M.next) (hl:xs.length≤100000) (hx:M.heap bx=some (.row [N .u64 (x:Int)] false ex 0)) (hxl:bx<M.next)
  (hQ:∀ v' M',Sl aS M' v' (fH xs.length x xs)→kN v'→(∀ c∈aD v',n0≤c)→ag (aD v) M M'→Q v' M') : lI T co cr v (N .i64 (xs.length:Int)) (.slc bx 0 1 (.ex 1)) M Q:=by
 unfold lI
 obtain⟨v1,v2,e1,s1,e2,s2,hb1,hb2⟩:=ae6 (E:=aS) (k:=xs.length) (by decide) ho (Nat.le_refl _)
 have e2:bR 1 v (some (N .i64 (xs.length:Int))) none none=some v2:=e2
 have hs:Sl aS M v xs:=ho.kU
 rw[e2,dF,jJ,cO,show((((1:Nat) : Int)) == 0)=false from rfl,bG,aL.len hs,cO,show((xs.length:Int) == (xs.length:Int))=true by simp,dH]
 have sx:Sl aS M (.slc bx 0 1 (.ex 1)) [x]:=.slc _ _ _ _ _ hxl (by rw[RM.bW hx (by show 0 + 1 * 1≤1; omega)]; rfl)
 refine Nc (E:=aS) (ys:=[x]) ho hn (Nat.le_refl _) sx (by simp; omega) (by simp; omega) ?_
 intro v' M' o k _ _
 refine hQ v' M' ?_ (Own.kN o) (fun c hc=>(o.blk c hc).1) k
 rw[abM]
 exact o.kU
def uT (p q:Pt) : Bool:=decide (p.1≤q.1) && p.2.all (ed q)
def xK (ps qs:List Pt) : Bool:=(List.range 16).all fun i=>uT (ps.getD i (0,[])) (qs.getD i (0,[]))
theorem Hq {ps qs:List Pt} : xK ps qs=true↔∀ i,i<16→uT (ps.getD i (0,[])) (qs.getD i (0,[]))=true:=by
 unfold xK
 rw[List.all_eq_true]
 exact⟨fun h i hi=>h i (List.mem_range.2 hi),fun h i hi=>h i (List.mem_range.1 hi)⟩
def Nt (T:Nat) (c:au) : Prop:=∀ {M:RM} {a b:Nat} {ps qs:List Pt} {S S' : Nat→Prop} {Q:ai},fV T S M a ps→fV T S' M b qs→(∀ p∈ps,p.2.length≤1000000)→(∀ q∈qs,Asc q.2∧q.2.length≤1000000) →
 (∀ M',ag [] M M'→Q (Bo (xK ps qs)) M')→c [.ptr a 0,.ptr b 0] M Q
theorem Uk {TS T:Nat} {ch:au} (hh:O5 ch) : Nt TS fun args M Q=>∃ a0 a1,args=[a0,a1]∧yV T ch a0 a1 M Q:=by
 intro M a b ps qs S S' Q h h' hpl hql hQ
 refine⟨_,_,rfl, ?_⟩
 unfold yV
 obtain⟨l,ha,Xj,hrow⟩:=h.row
 obtain⟨l',hb,hl32',hrow'⟩:=h'.row
 rw[aM,bB,eX (n:=32) ha Xj]
 refine aJ (fun m ys M3=>∃ (i:Nat),m=16 - i∧ys=[N .i64 (i:Int)]∧i≤16∧ag [] M M3∧∀ j,j<i→uT (ps.getD j (0,[])) (qs.getD j (0,[]))=true) _
  ⟨0,rfl,rfl,Nat.zero_le _,ag.refl _ _,fun j hj=>by omega⟩ ?_
 rintro next m ys M3 hnext ⟨i,rfl,rfl,hi,hK,hset⟩
 dsimp only[aa]
 rw[cK]
 refine aH (fun hlt=>?_) (fun hge=>?_)
 ·have hlt:i<16:=by
   have:(i:Int)<16:=of_decide_eq_true hlt
   omega
  have hil:i<ps.length:=by rw[h.len]; exact hlt
  have aas:i<qs.length:=by rw[h'.len]; exact hlt
  obtain⟨w,a1,a2,a3,a4,a5⟩:=hrow i hil
  obtain⟨w',b1,b2,b3,b4,b5⟩:=hrow' i aas
  have hpD:ps.getD i (0,[])=ps[i]:=by rw[List.getD_eq_getElem?_getD,List.getElem?_eq_getElem hil]; rfl
  have hqD:qs.getD i (0,[])=qs[i]:=by rw[List.getD_eq_getElem?_getD,List.getElem?_eq_getElem aas]; rfl
  have hcut:(l.drop (2 * i)).take 2=[N .u64 (ps[i].1:Int),w]:=by
   obtain⟨q1,q2⟩:=List.getElem?_eq_some_iff.1 a1
   obtain⟨r1,r2⟩:=List.getElem?_eq_some_iff.1 a2
   rw[List.drop_eq_getElem_cons q1,List.drop_eq_getElem_cons r1,q2,r2]; rfl
  rw[ZM]
  refine⟨by omega,by omega,by simp only[Int.toNat_natCast]; omega, ?_⟩
  rw[Int.toNat_natCast,Nat.mul_comm i 2,hcut,bz]
  have hw1:=aL.one a3
  rw[fD (n:=2) (x:=.agg [N .u64 (ps[i].1:Int),w]) (l:=[N .u64 0,.sc (.slice none 0 0)]) (RM.aT _) rfl rfl (by simp[AV.cells,hw1]; rfl)]
  have kk:ag [] M3 ((M3.push (.row [N .u64 0,.sc (.slice none 0 0)] false T 0)).put M3.next (.row (AV.agg [N .u64 (ps[i].1:Int),w]).cells false T 0)):=((ag.refl _ _).push _).new _ (Nat.le_refl _)
  have hh' : ((M3.push (.row [N .u64 0,.sc (.slice none 0 0)] false T 0)).put M3.next (.row (AV.agg [N .u64 (ps[i].1:Int),w]).cells false T 0)).heap M3.next=some (.row [N .u64 (ps[i].1:Int),w] false T 0):=aU _
  generalize (M3.push (.row [N .u64 0,.sc (.slice none 0 0)] false T 0)).put M3.next (.row (AV.agg [N .u64 (ps[i].1:Int),w]).cells false T 0)=M4 at *
  have k4:=hK.trans kk
  have s4:Sl aS M4 w ps[i].2:=aL.keep a3 k4 (by simp)
  have t4:Sl aS M4 w' qs[i].2:=aL.keep b3 k4 (by simp)
  have hb4:=k4.aR hb h'.lt (by simp)
  have hxl:=hpl _ (List.getElem_mem hil)
  obtain⟨hqa,hqn⟩:=hql _ (List.getElem_mem aas)
  rw[aM,bB,yI]
  refine⟨by omega,by omega, ?_⟩
  rw[Int.toNat_natCast,Nat.zero_add,Nat.mul_comm i 2,bB,av hh' rfl,aM,aX,Nat.add_zero,av hb4 b1,ic]
  have fail:∀ M5,ag [] M4 M5→uT ps[i] qs[i]=false→Q (Bo false) M5:=fun M5 k5 hf=>by
   have:xK ps qs=false:=by
    rw[Bool.eq_false_iff]
    intro hall
    have:=Hq.1 hall i hlt
    rw[hpD,hqD,hf] at this
    cases this
   rw[← this]
   exact hQ M5 (k4.trans k5)
  refine aH (fun hg=>fail M4 (ag.refl _ _) ?_) (fun hg=>?_)
  ·have:((ps[i].1:Nat) : Int) > ((qs[i].1:Nat) : Int):=of_decide_eq_true hg
   unfold uT
   rw[show decide (ps[i].1≤qs[i].1)=false by simp; omega,Bool.false_and]
  ·have hle:ps[i].1≤qs[i].1:=by
    have:¬ ((ps[i].1:Nat) : Int) > ((qs[i].1:Nat) : Int):=of_decide_eq_false hg
    omega
   rw[bB,av hh' rfl,aL.len s4]
   refine aJ (fun m ys M5=>∃ (j:Nat),m=ps[i].2.length - j∧ys=[N .i64 (j:Int)]∧j≤ps[i].2.length∧M5=M4∧ps[i].2.all (ed qs[i])=(ps[i].2.drop j).all (ed qs[i])) _
    ⟨0,rfl,rfl,Nat.zero_le _,rfl,rfl⟩ ?_
   rintro kT m ys M5 eu ⟨j,rfl,rfl,hj,rfl,hall⟩
   dsimp only[aa]
   rw[cK]
   refine aH (fun hlt2=>?_) (fun sQ=>?_)
   ·have hlt2:j<ps[i].2.length:=by simpa using hlt2
    obtain⟨b9,o9,_,_,hidx,hc⟩:=Sl.Ef (E:=aS) s4 (j:Int) hlt2
    rw[List.drop_eq_getElem_cons hlt2,List.all_cons] at hall
    rw[hidx,iy]
    refine⟨_,hc _ rfl, ?_⟩
    refine hh hb4 b1 b2 t4 hqa hqn ?_
    rw[bK]
    cases hhas:ed (qs[i].1,qs[i].2) ps[i].2[j] with
    | false =>
      have hhas:ed qs[i] ps[i].2[j]=false:=hhas
      rw[Bool.not_false,dH]
      refine fail M5 (ag.refl _ _) ?_
      unfold uT
      rw[hall,hhas,Bool.false_and,Bool.and_false]
    | true =>
      have hhas:ed qs[i] ps[i].2[j]=true:=hhas
      rw[Bool.not_true,bG,bY,gD (by omega)]
      refine eu _ _ _ (by omega) ⟨j + 1,rfl,rfl,by omega,rfl, ?_⟩
      rw[hall,hhas,Bool.true_and]
   ·have he:j=ps[i].2.length:=by simp at sQ; omega
    subst he
    rw[List.drop_length,List.all_nil] at hall
    rw[bY,gD (by omega)]
    refine hnext _ _ _ (by omega) ⟨i + 1,rfl,rfl,by omega,k4,fun j hj=>?_⟩
    rcases Nat.lt_or_ge j i with h | h
    ·exact hset j h
    ·have:j=i:=by omega
     subst this
     rw[hpD,hqD]
     unfold uT
     rw[hall,Bool.and_true]
     simpa using hle
 ·have he:i=16:=by
   have:¬ (i:Int)<16:=of_decide_eq_false hge
   omega
  subst he
  have:xK ps qs=true:=Hq.2 hset
  rw[← this]
  exact hQ M3 hK
def gF (ps:List Pt) (d:aB) : Bool:=good d && ed (ps.getD d.1.toNat (0,[])) d.2
def Xy (T:Nat) (c:au) : Prop:=∀ {M:RM} {b:Nat} {ps:List Pt} {d:aB} {S:Nat→Prop} {Q:ai},fV T S M b ps→(∀ q∈ps,Asc q.2∧q.2.length≤1000000) →
 (∀ M',ag [] M M'→Q (Bo (gF ps d)) M')→c [.ptr b 0,.agg (aP d)] M Q
theorem YR {TS T:Nat} {cg ch:au} (hg:zD cg) (hh:O5 ch) : Xy TS fun args M Q=>∃ a0 a1,args=[a0,a1]∧EO T cg ch a0 a1 M Q:=by
 intro M b ps d S Q h hql hQ
 refine⟨_,_,rfl, ?_⟩
 unfold EO
 simp only[gQ,fC]
 rw[dL rfl (by simp),bz,eX (n:=2) (RM.aT _) rfl]
 have k1:ag [] M (M.push (.row (aP d) false T 0)):=(ag.refl _ _).push _
 have h3:(M.push (.row (aP d) false T 0)).heap M.next=some (.row (aP d) false T 0):=RM.aT _
 have n1:(M.push (.row (aP d) false T 0)).next=M.next + 1:=rfl
 generalize M.push (.row (aP d) false T 0)=M1 at *
 refine hg fun M2 k2=>?_
 have kk:=k1.trans k2
 have h3:=k2.aR h3 (by omega) (by simp)
 have hQ:=hQ M2 kk
 unfold gF at hQ
 cases hgd:good d with
 | false =>
   rw[bN]
   dsimp only
   rw[dh]
   rw[hgd,Bool.false_and] at hQ
   exact hQ
 | true =>
   rw[hgd,Bool.true_and] at hQ
   simp[good] at hgd
   obtain⟨i,hi⟩ : ∃ i:Nat,d.1=(i:Int):=⟨d.1.toNat,by omega⟩
   have aba:i<16:=by omega
   have s2:=h.keep kk (by simp) (by simp)
   have hil:i<ps.length:=by rw[h.len]; exact aba
   have hpD:ps.getD d.1.toNat (0,[])=ps[i]:=by rw[hi,Int.toNat_natCast,List.getD_eq_getElem?_getD,List.getElem?_eq_getElem hil]; rfl
   rw[hpD] at hQ
   obtain⟨l,hb,Xj,hrow⟩:=s2.row
   obtain⟨v,a1,a2,a3,a4,a5⟩:=hrow i hil
   obtain⟨hqa,hqn⟩:=hql _ (List.getElem_mem hil)
   rw[dG]
   dsimp only
   rw[bB,av h3 rfl,aM,bB,hi,yI]
   refine⟨by omega,by omega, ?_⟩
   rw[bB,av h3 rfl,Int.toNat_natCast,Nat.zero_add,Nat.mul_comm i 2]
   refine hh hb a1 a2 a3 hqa hqn ?_
   rw[eT]
   exact hQ
abbrev lN:Nat→Nat→Bool:=fun x y=>decide (x<y)
def PM (M:RM) (b T:Nat) (d:Array Nat) : RM:=M.put b (.row (aS.row d.toList) true T 0)
abbrev vv (b n:Nat) : AV:=.slc b 0 n (.op 1)
section
variable {M:RM} {b T n i j:Nat} {d:Array Nat} {K:AV→Prop}
theorem PM.heap:(PM M b T d).heap b=some (.row (aS.row d.toList) true T 0):=RM.qY _ _
theorem PM.Jt:(aS.row d.toList).length=d.size:=by rw[Enc.dX]; simp[aS]
theorem uR (hi:i<d.size) : d[i]! = d[i]:=getElem!_pos d i hi
theorem PM.cellAt (hi:i<d.size) : (aS.row d.toList)[i]?=some (N .u64 ((d[i]! : Nat) : Int)):=by
 rw[MI,List.getElem?_map,Array.getElem?_toList,uR hi,Array.getElem?_eq_getElem hi]; rfl
theorem PM.idx {kd:IntKind} (hi:i<n) : ax (vv b n) (N kd (i:Int)) 1 K=K (.ptr b i):=by
 rw[lS]
 simp only[Int.toNat_natCast]
 rw[show 0 + i * 1=i by omega]
 exact propext ⟨fun h=>h.2.2,fun h=>⟨by omega,by omega,h⟩⟩
theorem PM.rd {kd:IntKind} (hn:n=d.size) (hi:i<d.size) : (ax (vv b n) (N kd (i:Int)) 1 fun p=>aj (PM M b T d) p K)=K (N .u64 ((d[i]! : Nat) : Int)):=by
 rw[PM.idx (by omega),av PM.heap (PM.cellAt hi)]
theorem PM.put {x:Nat} (hi:i<d.size) {K:RM→Prop} : aG (PM M b T d) (.ptr b i) (N .u64 (x:Int)) 1 K=K (PM M b T (d.setIfInBounds i x)):=by
 rw[fT PM.heap (by rw[PM.Jt]; exact hi) rfl rfl]
 congr 1
 have e:(aS.row d.toList).set i (N .u64 (x:Int))=aS.row (d.setIfInBounds i x).toList:=by rw[MI,MI,Array.toList_setIfInBounds,List.map_set]
 rw[e,PM,PM]
 unfold RM.put
 congr 1
 funext c
 by_cases h:c=b <;> simp[h]
theorem PM.swap {k1 k2:IntKind} (hn:n=d.size) (hi:i<d.size) (hj:j<d.size) {K:RM→Prop} :
  (ax (vv b n) (N k1 (i:Int)) 1 fun p=>aG (PM M b T d) p (N .u64 ((d[j]! : Nat) : Int)) 1 fun M1=>ax (vv b n) (N k2 (j:Int)) 1 fun q=>aG M1 q (N .u64 ((d[i]! : Nat) : Int)) 1 K)=K (PM M b T (Sort.swp d i j)):=by
 rw[PM.idx (by omega),PM.put hi,PM.idx (by omega),PM.put (by simpa using hj)]
 rfl
theorem dS (d:Array Nat) (i j:Nat) : (Sort.swp d i j).size=d.size:=by simp[Sort.swp]
theorem PM.push {x:RB} (h:b<M.next) : (PM M b T d).push x=PM (M.push x) b T d:=by
 unfold PM RM.push RM.put
 congr 1
 funext c
 simp only
 by_cases h1:c=M.next <;> by_cases h2:c=b <;> simp[h1,h2] <;> omega
theorem PM.WZ {x:RB} {c:Nat} (h:c≠b) : (PM M b T d).put c x=PM (M.put c x) b T d:=by
 unfold PM RM.put
 congr 1
 funext e
 simp only
 by_cases h1:e=c <;> by_cases h2:e=b <;> simp[h1,h2] <;> omega
theorem PM.Kv {c:Nat} (h:c≠b) : (PM M b T d).heap c=M.heap c:=by
 unfold PM RM.put; simp[h]
theorem addN (h:i + j<4611686018427387904) : ae .add (N .i64 (i:Int)) (N .i64 (j:Int)) K=K (N .i64 ((i + j:Nat) : Int)):=by
 rw[bY,bi (by omega) (by omega),Int.natCast_add]
theorem add1 (h:i<4611686018427387904) : ae .add (N .i64 (i:Int)) (N .i64 1) K=K (N .i64 ((i + 1:Nat) : Int)):=by
 rw[bY,gD (by omega)]
theorem gG (h:j≤i) (hb:i<4611686018427387904) : ae .sub (N .i64 (i:Int)) (N .i64 (j:Int)) K=K (N .i64 ((i - j:Nat) : Int)):=by
 rw[iV,bi (by omega) (by omega),show(i:Int) - (j:Int)=((i - j:Nat) : Int) by omega]
theorem bL (h:1≤i) (hb:i<4611686018427387904) : ae .sub (N .i64 (i:Int)) (N .i64 1) K=K (N .i64 ((i - 1:Nat) : Int)):=gG h hb
theorem aiL (hb:i<1152921504606846976) : ae .mul (N .i64 2) (N .i64 (i:Int)) K=K (N .i64 ((2 * i:Nat) : Int)):=by
 rw[yw,bi (by omega) (by omega),show(2:Int) * (i:Int)=((2 * i:Nat) : Int) by omega]
theorem eO:ae .lss (N .i64 (i:Int)) (N .i64 (j:Int)) K=K (Bo (decide (i<j))):=by rw[cK,show decide ((i:Int)<(j:Int))=decide (i<j) by simp]
theorem wK:ae .gtr (N .i64 (i:Int)) (N .i64 (j:Int)) K=K (Bo (decide (i > j))):=by rw[ic,show decide ((i:Int) > (j:Int))=decide (i > j) by simp]
theorem qo:ae .leq (N .i64 (i:Int)) (N .i64 (j:Int)) K=K (Bo (decide (i≤j))):=by rw[kD,show decide ((i:Int)≤(j:Int))=decide (i≤j) by simp]
theorem mG:ae .geq (N .i64 (i:Int)) (N .i64 (j:Int)) K=K (Bo (decide (i ≥ j))):=by rw[ik,show decide ((i:Int) ≥ (j:Int))=decide (i ≥ j) by simp]
theorem Wj:ae .eql (N .i64 (i:Int)) (N .i64 (j:Int)) K=K (Bo (decide (i=j))):=by
 rw[cO,show((i:Int) == (j:Int))=decide (i=j) by by_cases h:i=j <;> simp[h]; omega]
end
def xh (T:Nat) (f:Array Nat→Nat→Nat→Array Nat) (P:Array Nat→Nat→Nat→Prop) (c:au) : Prop:=∀ {M:RM} {b a e:Nat} {d:Array Nat} {Q:ai},b<M.next→d.size≤1000000→a≤e→e≤d.size→P d a e→Q (.tup []) (PM M b T (f d a e)) →
 c [vv b d.size,N .i64 (a:Int),N .i64 (e:Int)] (PM M b T d) Q
theorem H7 (a:Nat) : ∀ (j:Nat) (d:Array Nat),(Sort.insInner lN a j d).size=d.size
 | 0,d=>rfl
 | j + 1,d=>by
   rw[Sort.insInner]
   split
   ·rw[H7 a j,dS]
   ·rfl
theorem YP {T:Nat} {cl:au} (hl:vJ cl) : xh T (Sort.insertionSort lN) (fun _ _ _=>True) fun args M Q=>∃ a0 a1 a2,args=[a0,a1,a2]∧dY cl a0 a1 a2 M Q:=by
 intro M b a e d Q hb hsz hae he _ hQ
 refine⟨_,_,_,rfl, ?_⟩
 unfold dY
 simp only[gQ,fC,gp]
 rw[add1 (by omega)]
 rw[Sort.insertionSort] at hQ
 obtain⟨R,hR⟩ : ∃ R,R=Sort.insOuter lN a e (a + 1) d:=⟨_,rfl⟩
 rw[← hR] at hQ
 refine aJ (fun m ys M3=>∃ (i:Nat) (d3:Array Nat),m=d.size - i∧ys=[N .i64 (i:Int)]∧i≤d.size + 1∧M3=PM M b T d3∧d3.size=d.size∧R=Sort.insOuter lN a e i d3) _ ⟨a + 1,d,rfl,rfl,by omega,rfl,rfl,hR⟩ ?_
 rintro next m ys M3 hnext ⟨i,d3,rfl,rfl,hi,rfl,hs3,hm⟩
 dsimp only[aa]
 rw[eO]
 refine aH (fun hlt=>?_) (fun hge=>?_)
 ·have hlt:i<e:=of_decide_eq_true hlt
  rw[Sort.insOuter,if_pos hlt] at hm
  obtain⟨R5,hR5⟩ : ∃ R5,R5=Sort.insInner lN a i d3:=⟨_,rfl⟩
  rw[← hR5] at hm
  refine aJ (fun m ys M5=>∃ (j:Nat) (d5:Array Nat),m=j + 1∧ys=[N .i64 (j:Int)]∧j≤i∧M5=PM M b T d5∧d5.size=d.size∧R5=Sort.insInner lN a j d5) _ ⟨i,d3,rfl,rfl,Nat.le_refl _,rfl,hs3,hR5⟩ ?_
  rintro kT m ys M5 eu ⟨j,d5,rfl,rfl,hj,rfl,hs5,hm5⟩
  dsimp only[aa]
  rw[wK]
  have out:Sort.insInner lN a j d5=d5→ae .add (N .i64 (i:Int)) (N .i64 1) (fun t14=>next [t14] (PM M b T d5)):=fun h=>by
   rw[add1 (by omega)]
   refine hnext _ _ _ (by omega) ⟨i + 1,d5,rfl,rfl,by omega,rfl,hs5, ?_⟩
   rw[hm,hm5,h]
  by_cases hg:j > a
  ·obtain⟨k,rfl⟩ : ∃ k,j=k + 1:=⟨j - 1,by omega⟩
   rw[decide_eq_true hg,dG]
   dsimp only
   rw[PM.rd hs5.symm (by omega),bL (by omega) (by omega),Nat.add_sub_cancel,PM.rd hs5.symm (by omega)]
   refine hl ?_
   rw[eT]
   rw[Sort.insInner] at hm5 out
   refine aH (fun h=>?_) (fun h=>?_)
   ·rw[if_pos (by simp[hg,h])] at hm5
    rw[bL (by omega) (by omega),bL (by omega) (by omega),Nat.add_sub_cancel,PM.rd hs5.symm (by omega),PM.rd hs5.symm (by omega),PM.swap hs5.symm (by omega) (by omega),bL (by omega) (by omega),Nat.add_sub_cancel]
    exact eu _ _ _ (by omega) ⟨k,_,rfl,rfl,by omega,rfl,by rw[dS]; exact hs5,hm5⟩
   ·exact out (by rw[if_neg (by simp[h])])
  ·rw[decide_eq_false hg,bN]
   dsimp only
   rw[dh,bG]
   refine out ?_
   cases j with
   | zero=>rfl
   | succ k=>rw[Sort.insInner,if_neg (by simp[hg])]
 ·have hge:¬ i<e:=of_decide_eq_false hge
  rw[Sort.insOuter,if_neg hge] at hm
  rw[hm] at hQ
  exact hQ
theorem Qc {T:Nat} : xh T Sort.reverseRange (fun _ a e=>a<e) fun args M Q=>∃ a0 a1 a2,args=[a0,a1,a2]∧iX a0 a1 a2 M Q:=by
 intro M b a e d Q hb hsz hae he hP hQ
 refine⟨_,_,_,rfl, ?_⟩
 unfold iX
 rw[bL (by omega) (by omega)]
 rw[Sort.reverseRange] at hQ
 obtain⟨R,hR⟩ : ∃ R,R=Sort.reverseLoop a (e - 1) d:=⟨_,rfl⟩
 rw[← hR] at hQ
 refine aJ (fun m ys M3=>∃ (i j:Nat) (d3:Array Nat),m=j - i∧ys=[N .i64 (i:Int),N .i64 (j:Int)]∧j<d.size∧i≤d.size∧M3=PM M b T d3∧d3.size=d.size∧R=Sort.reverseLoop i j d3) _ ⟨a,e - 1,d,rfl,rfl,by omega,by omega,rfl,rfl,hR⟩ ?_
 rintro next m ys M3 hnext ⟨i,j,d3,rfl,rfl,hj,hi,rfl,hs3,hm⟩
 dsimp only[aa]
 rw[eO]
 rw[Sort.reverseLoop] at hm
 refine aH (fun hlt=>?_) (fun hge=>?_)
 ·have hlt:i<j:=of_decide_eq_true hlt
  rw[if_pos hlt] at hm
  rw[PM.rd hs3.symm (by omega),PM.rd hs3.symm (by omega),PM.swap hs3.symm (by omega) (by omega),add1 (by omega),bL (by omega) (by omega)]
  exact hnext _ _ _ (by omega) ⟨i + 1,j - 1,_,rfl,rfl,by omega,by omega,rfl,by rw[dS]; exact hs3,hm⟩
 ·have hge:¬ i<j:=of_decide_eq_false hge
  rw[if_neg hge] at hm
  rw[hm] at hQ
  exact hQ
def X3 (T:Nat) (c:au) : Prop:=∀ {M:RM} {b lo hi first:Nat} {d:Array Nat} {Q:ai},b<M.next→d.size≤1000000→first + hi≤d.size→lo≤1000000→Q (.tup []) (PM M b T (Sort.siftDown lN hi first lo d)) →
 c [vv b d.size,N .i64 (lo:Int),N .i64 (hi:Int),N .i64 (first:Int)] (PM M b T d) Q
theorem xI (hi first:Nat) : ∀ (k lo:Nat) (d:Array Nat),hi - lo≤k→(Sort.siftDown lN hi first lo d).size=d.size
 | 0,lo,d,h=>by rw[Sort.siftDown,dif_pos (by omega)]
 | k + 1,lo,d,h=>by
   rw[Sort.siftDown]
   split
   ·rfl
   ·split
    ·split
     ·rfl
     ·split
      ·rw[xI hi first k _ _ (by omega),dS]
      ·rfl
    ·split
     ·rfl
     ·rw[xI hi first k _ _ (by omega),dS]
theorem Zj {T:Nat} {cl:au} (hl:vJ cl) : X3 T fun args M Q=>∃ a0 a1 a2 a3,args=[a0,a1,a2,a3]∧kJ cl a0 a1 a2 a3 M Q:=by
 intro M b lo hi first d Q hb hsz hfe hlo hQ
 refine⟨_,_,_,_,rfl, ?_⟩
 unfold kJ
 simp only[gQ,fC,gp,bZ]
 obtain⟨R,hR⟩ : ∃ R,R=Sort.siftDown lN hi first lo d:=⟨_,rfl⟩
 rw[← hR] at hQ
 refine aJ (fun m ys M3=>∃ (r:Nat) (d3:Array Nat),m=1000000 + hi - r∧ys=[N .i64 (r:Int)]∧(r≤1000000)∧M3=PM M b T d3∧d3.size=d.size∧R=Sort.siftDown lN hi first r d3) _ ⟨lo,d,rfl,rfl,hlo,rfl,rfl,hR⟩ ?_
 rintro next m ys M3 hnext ⟨r,d3,rfl,rfl,hr,rfl,hs3,hm⟩
 dsimp only[aa]
 rw[aiL (by omega),add1 (by omega),mG]
 rw[Sort.siftDown] at hm
 refine aH (fun hg=>?_) (fun hg=>?_)
 ·rw[dif_pos (of_decide_eq_true hg)] at hm
  rw[hm] at hQ
  exact hQ
 have hg:¬ 2 * r + 1 ≥ hi:=of_decide_eq_false hg
 rw[dif_neg hg] at hm
 -- the child that is taken
 refine bA (fun zs M'=>∃ c:Nat,zs=[N .i64 (c:Int)]∧M'=PM M b T d3∧r<c∧c<hi∧R=if !lN d3[first + r]! d3[first + c]! then d3 else Sort.siftDown lN hi first c (Sort.swp d3 (first + r) (first + c))) ?_ ?_
 ·rintro zs M' ⟨c,rfl,rfl,hrc,anH,hm2⟩
  dsimp only[aa]
  rw[addN (by omega),PM.rd hs3.symm (by omega),addN (by omega),PM.rd hs3.symm (by omega)]
  refine hl ?_
  rw[bK]
  refine aH (fun h=>?_) (fun h=>?_)
  ·rw[if_pos h] at hm2
   rw[hm2] at hQ
   exact hQ
  ·rw[if_neg (by simp only[lN,h]; decide)] at hm2
   rw[addN (by omega),addN (by omega),addN (by omega),PM.rd hs3.symm (by omega),addN (by omega),PM.rd hs3.symm (by omega),PM.swap hs3.symm (by omega) (by omega)]
   exact hnext _ _ _ (by omega) ⟨c,_,rfl,rfl,by omega,rfl,by rw[dS]; exact hs3,hm2⟩
 intro J hJ
 rw[add1 (by omega),eO]
 have one:¬ (2 * r + 1 + 1<hi∧lN d3[first + (2 * r + 1)]! d3[first + (2 * r + 1) + 1]! = true)→J [N .i64 ((2 * r + 1:Nat) : Int)] (PM M b T d3):=fun h=>by
  refine hJ _ _ ⟨2 * r + 1,rfl,rfl,by omega,by omega, ?_⟩
  rw[if_neg (by simpa using h)] at hm
  exact hm
 by_cases h1:2 * r + 1 + 1<hi
 ·rw[decide_eq_true h1,dG]
  dsimp only
  rw[addN (by omega),PM.rd hs3.symm (by omega),addN (by omega),add1 (by omega),PM.rd hs3.symm (by omega)]
  refine hl ?_
  rw[eT]
  refine aH (fun h=>?_) (fun h=>?_)
  ·rw[add1 (by omega)]
   refine hJ _ _ ⟨2 * r + 2,rfl,rfl,by omega,by omega, ?_⟩
   rw[if_pos (by simp only[lN,h,decide_eq_true h1,Bool.and_self]),dif_pos (by omega)] at hm
   exact hm
  ·exact one (fun h'=>by have:=h'.2; rw[show lN d3[first + (2 * r + 1)]! d3[first + (2 * r + 1) + 1]! = false from h] at this; cases this)
 ·rw[decide_eq_false h1,bN]
  dsimp only
  rw[dh,bG]
  exact one (fun h=>h1 h.1)
theorem RD (hi first:Nat) : ∀ (k:Nat) (d:Array Nat),(Sort.heapBuild lN hi first k d).size=d.size
 | 0,d=>rfl
 | k + 1,d=>by rw[Sort.heapBuild,RD hi first k,xI hi first hi _ _ (by omega)]
theorem YS {T:Nat} {cs:au} (hs:X3 T cs) : xh T (Sort.heapSort lN) (fun _ a e=>a<e) fun args M Q=>∃ a0 a1 a2,args=[a0,a1,a2]∧kH cs a0 a1 a2 M Q:=by
 intro M b a e d Q hb hsz hae he hP hQ
 refine⟨_,_,_,rfl, ?_⟩
 unfold kH
 rw[Sort.heapSort] at hQ
 rw[gG hae (by omega),bL (by omega) (by omega),nW]
 refine⟨by decide, ?_⟩
 rw[show(2:Int)=((2:Nat) : Int) from rfl,show((e - a - 1:Nat) : Int).tdiv ((2:Nat) : Int)=(((e - a - 1) / 2:Nat) : Int) by rw[Int.tdiv_eq_ediv_of_nonneg (by omega)]; rfl,bi (by omega) (by omega)]
 obtain⟨R,hR⟩ : ∃ R,R=Sort.heapBuild lN (e - a) a ((e - a - 1) / 2 + 1) d:=⟨_,rfl⟩
 rw[← hR] at hQ
 refine aJ (fun m ys M3=>∃ (k:Nat) (d3:Array Nat),m=k + 1∧ys=[N .i64 ((k:Int) - 1)]∧k≤(e - a - 1) / 2 + 1∧M3=PM M b T d3∧d3.size=d.size∧R=Sort.heapBuild lN (e - a) a k d3) _ ⟨(e - a - 1) / 2 + 1,d,rfl,by congr 3; omega,Nat.le_refl _,rfl,rfl,hR⟩ ?_
 rintro next m ys M3 hnext ⟨k,d3,rfl,rfl,hk,rfl,hs3,hm⟩
 dsimp only[aa]
 rw[ik]
 refine aH (fun hg=>?_) (fun hg=>?_)
 ·have hg:1≤k:=by
   have:(k:Int) - 1 ≥ 0:=of_decide_eq_true hg
   omega
  obtain⟨k',rfl⟩ : ∃ k',k=k' + 1:=⟨k - 1,by omega⟩
  rw[Sort.heapBuild] at hm
  rw[show((k' + 1:Nat) : Int) - 1=(k' : Int) by omega,← hs3]
  refine hs hb (by omega) (by omega) (by omega) ?_
  rw[iV,bi (by omega) (by omega)]
  exact hnext _ _ _ (by omega) ⟨k',_,rfl,rfl,by omega,rfl,by rw[xI _ _ (e - a) _ _ (by omega)]; exact hs3,hm⟩
 ·have hk0:k=0:=by
   have:¬ (k:Int) - 1 ≥ 0:=of_decide_eq_false hg
   omega
  subst hk0
  rw[Sort.heapBuild] at hm
  rw[hm] at hQ
  rw[bL (by omega) (by omega)]
  obtain⟨R4,hR4⟩ : ∃ R4,R4=Sort.heapPop lN a (e - a) d3:=⟨_,rfl⟩
  rw[← hR4] at hQ
  refine aJ (fun m ys M4=>∃ (k:Nat) (d4:Array Nat),m=k + 1∧ys=[N .i64 ((k:Int) - 1)]∧k≤e - a∧M4=PM M b T d4∧d4.size=d.size∧R4=Sort.heapPop lN a k d4) _ ⟨e - a,d3,rfl,by congr 3; omega,Nat.le_refl _,rfl,hs3,hR4⟩ ?_
  rintro kT m ys M4 eu ⟨k,d4,rfl,rfl,hk,rfl,hs4,hm4⟩
  dsimp only[aa]
  rw[ik]
  refine aH (fun hg=>?_) (fun hg=>?_)
  ·have hg:1≤k:=by
    have:(k:Int) - 1 ≥ 0:=of_decide_eq_true hg
    omega
   obtain⟨k',rfl⟩ : ∃ k',k=k' + 1:=⟨k - 1,by omega⟩
   rw[Sort.heapPop] at hm4
   rw[show((k' + 1:Nat) : Int) - 1=(k' : Int) by omega,addN (by omega),addN (by omega),PM.rd hs4.symm (by omega),PM.rd hs4.symm (by omega),PM.swap hs4.symm (by omega) (by omega),show d.size=(Sort.swp d4 a (a + k')).size by rw[dS]; exact hs4.symm]
   refine hs (lo:=0) hb (by rw[dS]; omega) (by rw[dS]; omega) (by decide) ?_
   rw[iV,bi (by omega) (by omega)]
   exact eu _ _ _ (by omega) ⟨k',_,rfl,rfl,by omega,rfl,by rw[xI _ _ k' _ _ (by omega),dS]; exact hs4,hm4⟩
  ·have hk0:k=0:=by
    have:¬ (k:Int) - 1 ≥ 0:=of_decide_eq_false hg
    omega
   subst hk0
   rw[Sort.heapPop] at hm4
   rw[hm4] at hQ
   exact hQ
section
variable {body:(List AV→RM→Prop)→List AV→RM→Prop} {p:Nat→Bool} {d:Array Nat} {M:RM}
theorem Ms {J i0:Nat} (h:∀ (next:List AV→RM→Prop) (i:Nat),i0≤i→i≤max (J + 1) i0→((decide (i≤J) && p d[i]!)=true→next [N .i64 ((i + 1:Nat) : Int)] M)→((decide (i≤J) && p d[i]!)=false→i=Sort.scanUp p d J i0)→body next [N .i64 (i:Int)] M) :
  aV body [N .i64 (i0:Int)] M:=by
 obtain⟨R,hR⟩ : ∃ R,R=Sort.scanUp p d J i0:=⟨_,rfl⟩
 refine aJ (fun m ys M3=>∃ (i:Nat),m=J + 1 - i∧ys=[N .i64 (i:Int)]∧i0≤i∧i≤max (J + 1) i0∧M3=M∧R=Sort.scanUp p d J i) _ ⟨i0,rfl,rfl,Nat.le_refl _,by omega,rfl,hR⟩ ?_
 rintro next m ys M3 hnext ⟨i,rfl,rfl,h0,hi,rfl,hm⟩
 rw[Sort.scanUp] at hm
 refine h next i h0 hi (fun hc=>?_) (fun hc=>?_)
 ·rw[if_pos hc] at hm
  have hij:i≤J:=by
   rw[Bool.and_eq_true] at hc
   exact of_decide_eq_true hc.1
  exact hnext _ _ _ (by omega) ⟨i + 1,rfl,rfl,by omega,by omega,rfl,hm⟩
 ·rw[if_neg (by rw[hc]; decide)] at hm
  rw[← hR]; exact hm.symm
theorem E8 {i j0:Nat} (h1:1≤i) (h:∀ (next:List AV→RM→Prop) (j:Nat),j≤j0→(j=j0∨i≤j + 1)→((decide (i≤j) && p d[j]!)=true→next [N .i64 ((j - 1:Nat) : Int)] M)→((decide (i≤j) && p d[j]!)=false→j=Sort.scanDown p d i j0)→body next [N .i64 (j:Int)] M) :
  aV body [N .i64 (j0:Int)] M:=by
 obtain⟨R,hR⟩ : ∃ R,R=Sort.scanDown p d i j0:=⟨_,rfl⟩
 refine aJ (fun m ys M3=>∃ (j:Nat),m=j + 1∧ys=[N .i64 (j:Int)]∧j≤j0∧(j=j0∨i≤j + 1)∧M3=M∧R=Sort.scanDown p d i j) _ ⟨j0,rfl,rfl,Nat.le_refl _,.inl rfl,rfl,hR⟩ ?_
 rintro next m ys M3 hnext ⟨j,rfl,rfl,h0,hi,rfl,hm⟩
 refine h next j h0 hi (fun hc=>?_) (fun hc=>?_)
 ·have hij:i≤j:=by
   rw[Bool.and_eq_true] at hc
   exact of_decide_eq_true hc.1
  obtain⟨k,rfl⟩ : ∃ k,j=k + 1:=⟨j - 1,by omega⟩
  rw[Sort.scanDown,if_pos hc] at hm
  exact hnext _ _ _ (by omega) ⟨k,rfl,rfl,by omega,by omega,rfl,hm⟩
 ·rw[← hR]
  cases j with
  | zero=>exact hm.symm
  | succ k=>rw[Sort.scanDown,if_neg (by rw[hc]; decide)] at hm; exact hm.symm
end
theorem xJ {d d' : Array Nat} {i j:Nat} (h:d'.size=d.size) : (Sort.swp d' i j).size=d.size:=by rw[dS,h]
def MV (T:Nat) (c:au) : Prop:=∀ {M:RM} {b a e pv:Nat} {d:Array Nat} {Q:ai},b<M.next→d.size≤1000000→a≤pv→pv<e→e≤d.size→Q (N .i64 (((Sort.partitionEqual lN d a e pv).1:Nat) : Int)) (PM M b T (Sort.partitionEqual lN d a e pv).2) →
 c [vv b d.size,N .i64 (a:Int),N .i64 (e:Int),N .i64 (pv:Int)] (PM M b T d) Q
theorem andM {c p:Bool} {f:ai→Prop} {M:RM} {G:AV→RM→Prop} (hf:c=true→∀ k:ai,k (Bo p) M→f k) (hG:G (Bo (c && p)) M) :
  ah (Bo c) true f (fun k=>k .undef M) (fun t M'=>aK (Bo c) t (Bo false) fun u=>G u M'):=by
 cases c with
 | false=>rw[bN]; dsimp only; rw[dh]; exact hG
 | true=>rw[dG]; exact hf rfl _ (by rw[eT]; exact hG)
theorem Rs {c p:Bool} {f:KR→Prop} {M:RM} {G:AV→RM→Prop} (hf:c=true→∀ k:KR,k (Bo p) M none→f k) (hG:G (Bo (c && p)) M) :
  af (Bo c) true f (fun k=>k .undef M none) (fun t M' b=>aK (Bo c) t (Bo false) fun u=>G u M'):=by
 cases c with
 | false=>rw[rQ]; dsimp only; rw[dh]; exact hG
 | true=>rw[r9]; exact hf rfl _ (by rw[eT]; exact hG)
theorem Ur {T:Nat} {cl:au} (hl:vJ cl) : MV T fun args M Q=>∃ a0 a1 a2 a3,args=[a0,a1,a2,a3]∧iE cl a0 a1 a2 a3 M Q:=by
 intro M b a e pv d Q hb hsz hap hpe he hQ
 refine⟨_,_,_,_,rfl, ?_⟩
 unfold iE
 simp only[gQ,fC,gp]
 rw[Sort.partitionEqual] at hQ
 rw[PM.rd rfl (by omega),PM.rd rfl (by omega),PM.swap rfl (by omega) (by omega),add1 (by omega),bL (by omega) (by omega)]
 obtain⟨R,hR⟩ : ∃ R,R=Sort.partEqLoop lN a (a + 1) (e - 1) (Sort.swp d a pv):=⟨_,rfl⟩
 rw[← hR] at hQ
 refine aJ (fun m ys M3=>∃ (i j:Nat) (d3:Array Nat),m=j + 1 - i∧ys=[N .i64 (i:Int),N .i64 (j:Int)]∧a + 1≤i∧i≤e + 1∧j<e∧M3=PM M b T d3∧d3.size=d.size∧R=Sort.partEqLoop lN a i j d3) _ ⟨a + 1,e - 1,_,rfl,rfl,Nat.le_refl _,by omega,by omega,rfl,dS _ _ _,hR⟩ ?_
 rintro next m ys M3 hnext ⟨i,j,d3,rfl,rfl,hai,hie,hje,rfl,hs3,hm⟩
 dsimp only[aa]
 rw[Sort.partEqLoop] at hm
 refine Ms (p:=fun x=>!lN d3[a]! x) (d:=d3) (J:=j) fun kT i2 h0 h1 hgo hstop=>?_
 dsimp only[aa]
 rw[qo]
 refine Rs (p:=!lN d3[a]! d3[i2]!) (fun hc k hk=>?_) ?_
 ·have hc:i2≤j:=of_decide_eq_true hc
  rw[PM.rd hs3.symm (by omega),PM.rd hs3.symm (by omega)]
  refine hl ?_
  rw[bK]
  exact hk
 refine aH (fun h=>?_) (fun h=>?_)
 ·rw[add1 (by omega)]
  exact hgo h
 have hi2:=hstop h
 rw[← hi2] at hm
 refine E8 (p:=fun x=>lN d3[a]! x) (d:=d3) (i:=i2) (by omega) fun xA j2 q0 q1 yn oz=>?_
 dsimp only[aa]
 rw[qo]
 refine andM (p:=lN d3[a]! d3[j2]!) (fun hc k hk=>?_) ?_
 ·have hc:i2≤j2:=of_decide_eq_true hc
  rw[PM.rd hs3.symm (by omega),PM.rd hs3.symm (by omega)]
  exact hl hk
 refine aH (fun h=>?_) (fun h=>?_)
 ·have hc:i2≤j2:=by
   rw[Bool.and_eq_true] at h
   exact of_decide_eq_true h.1
  rw[bL (by omega) (by omega)]
  exact yn h
 have hj2:=oz h
 simp only[← hj2] at hm
 rw[wK]
 refine aH (fun hg=>?_) (fun hg=>?_)
 ·rw[if_pos (of_decide_eq_true hg)] at hm
  rw[hm] at hQ
  exact hQ
 ·have hg:¬ i2 > j2:=of_decide_eq_false hg
  rw[if_neg hg,dif_pos (by omega)] at hm
  rw[PM.rd hs3.symm (by omega),PM.rd hs3.symm (by omega),PM.swap hs3.symm (by omega) (by omega),add1 (by omega),bL (by omega) (by omega)]
  exact hnext _ _ _ (by omega) ⟨i2 + 1,j2 - 1,_,rfl,rfl,by omega,by omega,by omega,rfl,xJ hs3,hm⟩
def WY (T:Nat) (c:au) : Prop:=∀ {M:RM} {b a e pv:Nat} {d:Array Nat} {Q:ai},b<M.next→d.size≤1000000→a≤pv→pv<e→e≤d.size→Q (.tup [N .i64 (((Sort.partition lN d a e pv).1:Nat) : Int),Bo (Sort.partition lN d a e pv).2.1]) (PM M b T (Sort.partition lN d a e pv).2.2) →
 c [vv b d.size,N .i64 (a:Int),N .i64 (e:Int),N .i64 (pv:Int)] (PM M b T d) Q
theorem FT (d:Array Nat) (a e pv:Nat) : Sort.partition lN d a e pv =
  if Sort.scanUp (fun x=>lN x (Sort.swp d a pv)[a]!) (Sort.swp d a pv) (e - 1) (a + 1) > Sort.scanDown (fun x=>!lN x (Sort.swp d a pv)[a]!) (Sort.swp d a pv) (Sort.scanUp (fun x=>lN x (Sort.swp d a pv)[a]!) (Sort.swp d a pv) (e - 1) (a + 1)) (e - 1) then
   (Sort.scanDown (fun x=>!lN x (Sort.swp d a pv)[a]!) (Sort.swp d a pv) (Sort.scanUp (fun x=>lN x (Sort.swp d a pv)[a]!) (Sort.swp d a pv) (e - 1) (a + 1)) (e - 1),true,Sort.swp (Sort.swp d a pv) (Sort.scanDown (fun x=>!lN x (Sort.swp d a pv)[a]!) (Sort.swp d a pv) (Sort.scanUp (fun x=>lN x (Sort.swp d a pv)[a]!) (Sort.swp d a pv) (e - 1) (a + 1)) (e - 1)) a)
  else((Sort.partLoop lN a (Sort.scanUp (fun x=>lN x (Sort.swp d a pv)[a]!) (Sort.swp d a pv) (e - 1) (a + 1) + 1) (Sort.scanDown (fun x=>!lN x (Sort.swp d a pv)[a]!) (Sort.swp d a pv) (Sort.scanUp (fun x=>lN x (Sort.swp d a pv)[a]!) (Sort.swp d a pv) (e - 1) (a + 1)) (e - 1) - 1) (Sort.swp (Sort.swp d a pv) (Sort.scanUp (fun x=>lN x (Sort.swp d a pv)[a]!) (Sort.swp d a pv) (e - 1) (a + 1)) (Sort.scanDown (fun x=>!lN x (Sort.swp d a pv)[a]!) (Sort.swp d a pv) (Sort.scanUp (fun x=>lN x (Sort.swp d a pv)[a]!) (Sort.swp d a pv) (e - 1) (a + 1)) (e - 1)))).1,false,
   Sort.swp (Sort.partLoop lN a (Sort.scanUp (fun x=>lN x (Sort.swp d a pv)[a]!) (Sort.swp d a pv) (e - 1) (a + 1) + 1) (Sort.scanDown (fun x=>!lN x (Sort.swp d a pv)[a]!) (Sort.swp d a pv) (Sort.scanUp (fun x=>lN x (Sort.swp d a pv)[a]!) (Sort.swp d a pv) (e - 1) (a + 1)) (e - 1) - 1) (Sort.swp (Sort.swp d a pv) (Sort.scanUp (fun x=>lN x (Sort.swp d a pv)[a]!) (Sort.swp d a pv) (e - 1) (a + 1)) (Sort.scanDown (fun x=>!lN x (Sort.swp d a pv)[a]!) (Sort.swp d a pv) (Sort.scanUp (fun x=>lN x (Sort.swp d a pv)[a]!) (Sort.swp d a pv) (e - 1) (a + 1)) (e - 1)))).2
    (Sort.partLoop lN a (Sort.scanUp (fun x=>lN x (Sort.swp d a pv)[a]!) (Sort.swp d a pv) (e - 1) (a + 1) + 1) (Sort.scanDown (fun x=>!lN x (Sort.swp d a pv)[a]!) (Sort.swp d a pv) (Sort.scanUp (fun x=>lN x (Sort.swp d a pv)[a]!) (Sort.swp d a pv) (e - 1) (a + 1)) (e - 1) - 1) (Sort.swp (Sort.swp d a pv) (Sort.scanUp (fun x=>lN x (Sort.swp d a pv)[a]!) (Sort.swp d a pv) (e - 1) (a + 1)) (Sort.scanDown (fun x=>!lN x (Sort.swp d a pv)[a]!) (Sort.swp d a pv) (Sort.scanUp (fun x=>lN x (Sort.swp d a pv)[a]!) (Sort.swp d a pv) (e - 1) (a + 1)) (e - 1)))).1 a):=rfl
theorem ZH {T:Nat} {cl:au} (hl:vJ cl) : WY T fun args M Q=>∃ a0 a1 a2 a3,args=[a0,a1,a2,a3]∧jS cl a0 a1 a2 a3 M Q:=by
 intro M b a e pv d Q hb hsz hap hpe he hQ
 refine⟨_,_,_,_,rfl, ?_⟩
 unfold jS
 simp only[gQ,fC,gp]
 have hs2:=dS d a pv
 rw[FT] at hQ
 rw[PM.rd rfl (by omega),PM.rd rfl (by omega),PM.swap rfl (by omega) (by omega),add1 (by omega),bL (by omega) (by omega)]
 generalize Sort.swp d a pv=d2 at *
 refine Ms (p:=fun x=>lN x d2[a]!) (d:=d2) (J:=e - 1) fun kT i h0 h1 hgo hstop=>?_
 dsimp only[aa]
 rw[qo]
 refine andM (p:=lN d2[i]! d2[a]!) (fun hc k hk=>?_) ?_
 ·have hc:i≤e - 1:=of_decide_eq_true hc
  rw[PM.rd hs2.symm (by omega),PM.rd hs2.symm (by omega)]
  exact hl hk
 refine aH (fun h=>?_) (fun h=>?_)
 ·rw[add1 (by omega)]
  exact hgo h
 have hi2:=hstop h
 simp only[← hi2] at hQ
 refine E8 (p:=fun x=>!lN x d2[a]!) (d:=d2) (i:=i) (by omega) fun xA j q0 q1 yn oz=>?_
 dsimp only[aa]
 rw[qo]
 refine Rs (p:=!lN d2[j]! d2[a]!) (fun hc k hk=>?_) ?_
 ·have hc:i≤j:=of_decide_eq_true hc
  rw[PM.rd hs2.symm (by omega),PM.rd hs2.symm (by omega)]
  refine hl ?_
  rw[bK]
  exact hk
 refine aH (fun h=>?_) (fun h=>?_)
 ·have hc:i≤j:=by
   rw[Bool.and_eq_true] at h
   exact of_decide_eq_true h.1
  rw[bL (by omega) (by omega)]
  exact yn h
 have hj2:=oz h
 simp only[← hj2] at hQ
 rw[wK]
 refine aH (fun hg=>?_) (fun hg=>?_)
 ·rw[if_pos (of_decide_eq_true hg)] at hQ
  rw[PM.rd hs2.symm (by omega),PM.rd hs2.symm (by omega),PM.swap hs2.symm (by omega) (by omega)]
  exact hQ
 have hg:¬ i > j:=of_decide_eq_false hg
 rw[if_neg hg] at hQ
 rw[PM.rd hs2.symm (by omega),PM.rd hs2.symm (by omega),PM.swap hs2.symm (by omega) (by omega),add1 (by omega),bL (by omega) (by omega)]
 obtain⟨R,hR⟩ : ∃ R,R=Sort.partLoop lN a (i + 1) (j - 1) (Sort.swp d2 i j):=⟨_,rfl⟩
 simp only[← hR] at hQ
 refine aJ (fun m ys M3=>∃ (i j:Nat) (d3:Array Nat),m=j + 1 - i∧ys=[N .i64 (i:Int),N .i64 (j:Int)]∧a + 1≤i∧i≤e + 1∧j<e∧M3=PM M b T d3∧d3.size=d.size∧R=Sort.partLoop lN a i j d3) _ ⟨i + 1,j - 1,_,rfl,rfl,by omega,by omega,by omega,rfl,xJ hs2,hR⟩ ?_
 rintro next m ys M3 hnext ⟨i,j,d3,rfl,rfl,hai,hie,hje,rfl,hs3,hm⟩
 dsimp only[aa]
 rw[Sort.partLoop] at hm
 refine Ms (p:=fun x=>lN x d3[a]!) (d:=d3) (J:=j) fun kT i2 h0 h1 hgo hstop=>?_
 dsimp only[aa]
 rw[qo]
 refine andM (p:=lN d3[i2]! d3[a]!) (fun hc k hk=>?_) ?_
 ·have hc:i2≤j:=of_decide_eq_true hc
  rw[PM.rd hs3.symm (by omega),PM.rd hs3.symm (by omega)]
  exact hl hk
 refine aH (fun h=>?_) (fun h=>?_)
 ·rw[add1 (by omega)]
  exact hgo h
 have hi2:=hstop h
 rw[← hi2] at hm
 refine E8 (p:=fun x=>!lN x d3[a]!) (d:=d3) (i:=i2) (by omega) fun xA j2 q0 q1 yn oz=>?_
 dsimp only[aa]
 rw[qo]
 refine Rs (p:=!lN d3[j2]! d3[a]!) (fun hc k hk=>?_) ?_
 ·have hc:i2≤j2:=of_decide_eq_true hc
  rw[PM.rd hs3.symm (by omega),PM.rd hs3.symm (by omega)]
  refine hl ?_
  rw[bK]
  exact hk
 refine aH (fun h=>?_) (fun h=>?_)
 ·have hc:i2≤j2:=by
   rw[Bool.and_eq_true] at h
   exact of_decide_eq_true h.1
  rw[bL (by omega) (by omega)]
  exact yn h
 have hj2:=oz h
 simp only[← hj2] at hm
 rw[wK]
 refine aH (fun hg=>?_) (fun hg=>?_)
 ·rw[if_pos (of_decide_eq_true hg)] at hm
  rw[hm] at hQ
  rw[PM.rd hs3.symm (by omega),PM.rd hs3.symm (by omega),PM.swap hs3.symm (by omega) (by omega)]
  exact hQ
 ·have hg:¬ i2 > j2:=of_decide_eq_false hg
  rw[if_neg hg,dif_pos (by omega)] at hm
  rw[PM.rd hs3.symm (by omega),PM.rd hs3.symm (by omega),PM.swap hs3.symm (by omega) (by omega),add1 (by omega),bL (by omega) (by omega)]
  exact hnext _ _ _ (by omega) ⟨i2 + 1,j2 - 1,_,rfl,rfl,by omega,by omega,by omega,rfl,xJ hs3,hm⟩
def Up (xs:List Nat) : Prop:=∀ i j (hi:i<xs.length) (hj:j<xs.length),i≤j→xs[i]≤xs[j]
theorem Asc.up {xs:List Nat} (h:Asc xs) : Up xs:=fun i j hi hj hij=>by
 rcases Nat.lt_or_ge i j with h1 | h1
 ·exact Nat.le_of_lt (h.lt h1 hj)
 ·have:i=j:=by omega
  subst this; exact Nat.le_refl _
theorem Own.u64 {M:RM} {base T:Nat} {v:AV} {xs:List Nat} (h:Ow aS M base T v xs) : Sl aS M v xs:=h.kU
theorem uN (a b:Nat) : (a:Int).tdiv (b:Int)=((a / b:Nat) : Int):=by
 rw[Int.tdiv_eq_ediv_of_nonneg (by omega)]; rfl
def SM (M:RM) (s T k:Nat) : RM:=M.put s (.row [N .i64 (k:Int)] false T 0)
theorem SM.put {M:RM} {s T k k' : Nat} : (SM M s T k).put s (.row [N .i64 (k' : Int)] false T 0)=SM M s T k':=by
 unfold SM RM.put
 congr 1
 funext c
 simp only
 by_cases h:c=s <;> simp[h]
theorem SM.new {M:RM} {T:Nat} : M.push (.row [N .i64 0] false T 0)=SM (M.push (.row [N .i64 0] false T 0)) M.next T 0:=by
 unfold SM RM.put RM.push
 congr 1
 funext c
 simp only
 by_cases h:c=M.next <;> simp[h]
def Ny (T TI:Nat) (c:au) : Prop:=∀ {M:RM} {b s k i j:Nat} {d:Array Nat} {Q:ai},s≠b→i<d.size→j<d.size→k≤1000 →
 Q (.tup [N .i64 (((Sort.order2 lN d i j k).1:Nat) : Int),N .i64 (((Sort.order2 lN d i j k).2.1:Nat) : Int)]) (PM (SM M s TI (Sort.order2 lN d i j k).2.2) b T d)→c [vv b d.size,N .i64 (i:Int),N .i64 (j:Int),.ptr s 0] (PM (SM M s TI k) b T d) Q
theorem PL {T TI:Nat} {cl:au} (hl:vJ cl) : Ny T TI fun args M Q=>∃ a0 a1 a2 a3,args=[a0,a1,a2,a3]∧lV cl a0 a1 a2 a3 M Q:=by
 intro M b s k i j d Q hsb hi hj hk hQ
 refine⟨_,_,_,_,rfl, ?_⟩
 unfold lV
 rw[PM.rd rfl (by omega),PM.rd rfl (by omega)]
 refine hl ?_
 unfold Sort.order2 at hQ
 refine aH (fun h=>?_) (fun h=>?_)
 ·rw[if_pos (by exact h)] at hQ
  have hh:(PM (SM M s TI k) b T d).heap s=some (.row [N .i64 (k:Int)] false TI 0):=by
   rw[PM.Kv hsb]; exact RM.qY _ _
  rw[aM,av hh rfl,add1 (by omega),aM,fT hh (by simp) rfl rfl]
  rw[PM.WZ hsb]
  rw[show([N .i64 (k:Int)] : List AV).set 0 (N .i64 ((k + 1:Nat) : Int))=[N .i64 ((k + 1:Nat) : Int)] from rfl,SM.put]
  exact hQ
 ·rw[if_neg (by rw[show lN d[j]! d[i]! = false from h]; decide)] at hQ
  exact hQ
theorem vR (d:Array Nat) (i j k:Nat) : (((Sort.order2 lN d i j k).1=i∧(Sort.order2 lN d i j k).2.1=j)∨((Sort.order2 lN d i j k).1=j∧(Sort.order2 lN d i j k).2.1=i))∧k≤(Sort.order2 lN d i j k).2.2∧(Sort.order2 lN d i j k).2.2≤k + 1:=by
 unfold Sort.order2
 split <;> simp
def GJ (T TI:Nat) (c:au) : Prop:=∀ {M:RM} {b s k i j h:Nat} {d:Array Nat} {Q:ai},s≠b→i<d.size→j<d.size→h<d.size→k≤900 →
 Q (N .i64 (((Sort.median lN d i j h k).1:Nat) : Int)) (PM (SM M s TI (Sort.median lN d i j h k).2) b T d)→c [vv b d.size,N .i64 (i:Int),N .i64 (j:Int),N .i64 (h:Int),.ptr s 0] (PM (SM M s TI k) b T d) Q
theorem Sr {T TI:Nat} {c2:au} (h2:Ny T TI c2) : GJ T TI fun args M Q=>∃ a0 a1 a2 a3 a4,args=[a0,a1,a2,a3,a4]∧lX c2 a0 a1 a2 a3 a4 M Q:=by
 intro M b s k i j h d Q hsb hi hj hh hk hQ
 refine⟨_,_,_,_,_,rfl, ?_⟩
 unfold lX
 unfold Sort.median at hQ
 have o1:=vR d i j k
 refine h2 hsb hi hj (by omega) ?_
 rw[oW,o8]
 dsimp only at hQ
 generalize Sort.order2 lN d i j k=r1 at *
 have o2:=vR d r1.2.1 h r1.2.2
 refine h2 hsb (by omega) hh (by omega) ?_
 rw[oW,o8]
 generalize Sort.order2 lN d r1.2.1 h r1.2.2=r2 at *
 refine h2 hsb (by omega) (by omega) (by omega) ?_
 rw[oW,o8]
 exact hQ
theorem EH (d:Array Nat) {i j h k n:Nat} (hi:i<n) (hj:j<n) (hh:h<n) : (Sort.median lN d i j h k).1<n∧(Sort.median lN d i j h k).2≤k + 3:=by
 unfold Sort.median
 dsimp only
 have o1:=vR d i j k
 generalize Sort.order2 lN d i j k=r1 at *
 have o2:=vR d r1.2.1 h r1.2.2
 generalize Sort.order2 lN d r1.2.1 h r1.2.2=r2 at *
 have o3:=vR d r1.1 r2.1 r2.2.2
 omega
def NB (T TI:Nat) (c:au) : Prop:=∀ {M:RM} {b s k i:Nat} {d:Array Nat} {Q:ai},s≠b→d.size≤1000000→1≤i→i + 1<d.size→k≤900 →
 Q (N .i64 (((Sort.medianAdjacent lN d i k).1:Nat) : Int)) (PM (SM M s TI (Sort.medianAdjacent lN d i k).2) b T d)→c [vv b d.size,N .i64 (i:Int),.ptr s 0] (PM (SM M s TI k) b T d) Q
theorem RU {T TI:Nat} {cm:au} (hm:GJ T TI cm) : NB T TI fun args M Q=>∃ a0 a1 a2,args=[a0,a1,a2]∧iF cm a0 a1 a2 M Q:=by
 intro M b s k i d Q hsb hsz h1 h2 hk hQ
 refine⟨_,_,_,rfl, ?_⟩
 unfold iF
 rw[bL (by omega) (by omega),add1 (by omega)]
 exact hm hsb (by omega) (by omega) (by omega) hk hQ
def qM:Sort.Hint→Int
 | .unknown=>0
 | .increasing=>1
 | .decreasing=>2
def L9 (T:Nat) (c:au) : Prop:=∀ {M:RM} {b a e:Nat} {d:Array Nat} {Q:ai},b<M.next→d.size≤1000000→a<e→e≤d.size →
 (∀ M',ag [] M M'→Q (.tup [N .i64 (((Sort.choosePivot lN d a e).1:Nat) : Int),N .i64 (qM (Sort.choosePivot lN d a e).2)]) (PM M' b T d))→c [vv b d.size,N .i64 (a:Int),N .i64 (e:Int)] (PM M b T d) Q
theorem Qy {T TI:Nat} {ca cm:au} (ha:NB T TI ca) (hm:GJ T TI cm) : L9 T fun args M Q=>∃ a0 a1 a2,args=[a0,a1,a2]∧jm TI ca cm a0 a1 a2 M Q:=by
 intro M b a e d Q hb hsz hae he hQ
 refine⟨_,_,_,rfl, ?_⟩
 unfold jm
 simp only[bZ]
 rw[gG (by omega) (by omega),bz,PM.push hb]
 have hnx:(PM M b T d).next=M.next:=rfl
 rw[hnx]
 have kk:ag [] M (M.push (.row [N .i64 0] false TI 0)):=(ag.refl _ _).push _
 have kS:∀ k,ag [] M (SM (M.push (.row [N .i64 0] false TI 0)) M.next TI k):=fun k=>kk.new _ (Nat.le_refl _)
 rw[show PM (M.push (.row [N .i64 0] false TI 0)) b T d=PM (SM (M.push (.row [N .i64 0] false TI 0)) M.next TI 0) b T d by rw[← SM.new]]
 generalize M.push (.row [N .i64 0] false TI 0)=M1 at *
 have hsb:M.next≠b:=by omega
 generalize M.next=s at *
 have hq:∀ (k:Nat) (c:Int),c=(k:Int)→k≤3→∀ (K:AV→Prop),(ae .quo (N .i64 ((e - a:Nat) : Int)) (N .i64 4) fun t18=>ae .mul t18 (N .i64 c) fun t19=>ae .add (N .i64 (a:Int)) t19 K)=K (N .i64 ((a + (e - a) / 4 * k:Nat) : Int)):=fun k c hc hk K=>by
  subst hc
  have hb:(e - a) / 4 * k≤(e - a) * 3:=Nat.mul_le_mul (Nat.div_le_self _ _) hk
  rw[nW,show(4:Int)=((4:Nat) : Int) from rfl,uN,bi (by omega) (by omega),yw,← Int.natCast_mul,bi (by omega) (by omega),addN (by omega)]
  exact propext ⟨fun h=>h.2,fun h=>⟨by decide,h⟩⟩
 rw[hq 1 1 rfl (by omega),hq 2 2 rfl (by omega),hq 3 3 rfl (by omega)]
 have hcp:Sort.choosePivot lN d a e=((if e - a ≥ 8 then(if e - a ≥ 50 then Sort.median lN d (Sort.medianAdjacent lN d (a + (e - a) / 4 * 1) 0).1 (Sort.medianAdjacent lN d (a + (e - a) / 4 * 2) (Sort.medianAdjacent lN d (a + (e - a) / 4 * 1) 0).2).1 (Sort.medianAdjacent lN d (a + (e - a) / 4 * 3) (Sort.medianAdjacent lN d (a + (e - a) / 4 * 2) (Sort.medianAdjacent lN d (a + (e - a) / 4 * 1) 0).2).2).1 (Sort.medianAdjacent lN d (a + (e - a) / 4 * 3) (Sort.medianAdjacent lN d (a + (e - a) / 4 * 2) (Sort.medianAdjacent lN d (a + (e - a) / 4 * 1) 0).2).2).2
   else Sort.median lN d (a + (e - a) / 4 * 1) (a + (e - a) / 4 * 2) (a + (e - a) / 4 * 3) 0) else(a + (e - a) / 4 * 2,0) : Nat × Nat).1,
   if (if e - a ≥ 8 then(if e - a ≥ 50 then Sort.median lN d (Sort.medianAdjacent lN d (a + (e - a) / 4 * 1) 0).1 (Sort.medianAdjacent lN d (a + (e - a) / 4 * 2) (Sort.medianAdjacent lN d (a + (e - a) / 4 * 1) 0).2).1 (Sort.medianAdjacent lN d (a + (e - a) / 4 * 3) (Sort.medianAdjacent lN d (a + (e - a) / 4 * 2) (Sort.medianAdjacent lN d (a + (e - a) / 4 * 1) 0).2).2).1 (Sort.medianAdjacent lN d (a + (e - a) / 4 * 3) (Sort.medianAdjacent lN d (a + (e - a) / 4 * 2) (Sort.medianAdjacent lN d (a + (e - a) / 4 * 1) 0).2).2).2
   else Sort.median lN d (a + (e - a) / 4 * 1) (a + (e - a) / 4 * 2) (a + (e - a) / 4 * 3) 0) else(a + (e - a) / 4 * 2,0) : Nat × Nat).2=0 then .increasing else if (if e - a ≥ 8 then(if e - a ≥ 50 then Sort.median lN d (Sort.medianAdjacent lN d (a + (e - a) / 4 * 1) 0).1 (Sort.medianAdjacent lN d (a + (e - a) / 4 * 2) (Sort.medianAdjacent lN d (a + (e - a) / 4 * 1) 0).2).1 (Sort.medianAdjacent lN d (a + (e - a) / 4 * 3) (Sort.medianAdjacent lN d (a + (e - a) / 4 * 2) (Sort.medianAdjacent lN d (a + (e - a) / 4 * 1) 0).2).2).1 (Sort.medianAdjacent lN d (a + (e - a) / 4 * 3) (Sort.medianAdjacent lN d (a + (e - a) / 4 * 2) (Sort.medianAdjacent lN d (a + (e - a) / 4 * 1) 0).2).2).2
   else Sort.median lN d (a + (e - a) / 4 * 1) (a + (e - a) / 4 * 2) (a + (e - a) / 4 * 3) 0) else(a + (e - a) / 4 * 2,0) : Nat × Nat).2=12 then .decreasing else .unknown):=rfl
 rw[hcp] at hQ
 generalize hr:(if e - a ≥ 8 then(if e - a ≥ 50 then Sort.median lN d (Sort.medianAdjacent lN d (a + (e - a) / 4 * 1) 0).1 (Sort.medianAdjacent lN d (a + (e - a) / 4 * 2) (Sort.medianAdjacent lN d (a + (e - a) / 4 * 1) 0).2).1 (Sort.medianAdjacent lN d (a + (e - a) / 4 * 3) (Sort.medianAdjacent lN d (a + (e - a) / 4 * 2) (Sort.medianAdjacent lN d (a + (e - a) / 4 * 1) 0).2).2).1 (Sort.medianAdjacent lN d (a + (e - a) / 4 * 3) (Sort.medianAdjacent lN d (a + (e - a) / 4 * 2) (Sort.medianAdjacent lN d (a + (e - a) / 4 * 1) 0).2).2).2
   else Sort.median lN d (a + (e - a) / 4 * 1) (a + (e - a) / 4 * 2) (a + (e - a) / 4 * 3) 0) else(a + (e - a) / 4 * 2,0) : Nat × Nat)=r at hQ
 refine bA (fun zs M'=>zs=[N .i64 ((r.1:Nat) : Int)]∧M'=PM (SM M1 s TI r.2) b T d) ?_ ?_
 ·rintro zs M' ⟨rfl,rfl⟩
  dsimp only[aa]
  have hh:(PM (SM M1 s TI r.2) b T d).heap s=some (.row [N .i64 (r.2:Int)] false TI 0):=by
   rw[PM.Kv hsb]; exact RM.qY _ _
  have:=hQ _ (kS r.2)
  rw[av hh rfl,cO]
  by_cases h0:r.2=0
  ·rw[show((r.2:Int) == 0)=true by rw[h0]; rfl,dH]
   rw[if_pos h0] at this
   exact this
  ·rw[show((r.2:Int) == 0)=false by rw[beq_eq_false_iff_ne]; omega,bG,cO]
   rw[if_neg h0] at this
   by_cases h12:r.2=12
   ·rw[show((r.2:Int) == 12)=true by rw[h12]; rfl,dH]
    rw[if_pos h12] at this
    exact this
   ·rw[show((r.2:Int) == 12)=false by rw[beq_eq_false_iff_ne]; omega,bG]
    rw[if_neg h12] at this
    exact this
 intro J hJ
 rw[show(8:Int)=((8:Nat) : Int) from rfl,mG]
 refine aH (fun h8=>?_) (fun h8=>?_)
 ·have h8:e - a ≥ 8:=of_decide_eq_true h8
  rw[if_pos h8] at hr
  refine bA (fun zs M'=>∃ x y z k:Nat,zs=[N .i64 (x:Int),N .i64 (y:Int),N .i64 (z:Int)]∧M'=PM (SM M1 s TI k) b T d∧x<d.size∧y<d.size∧z<d.size∧k≤900∧Sort.median lN d x y z k=r) ?_ ?_
  ·rintro zs M' ⟨x,y,z,k,rfl,rfl,hx,hy,hz,hk,he⟩
   dsimp only[aa]
   refine hm hsb hx hy hz hk ?_
   rw[he]
   exact hJ _ _ ⟨rfl,rfl⟩
  intro J0 hJ0
  rw[show(50:Int)=((50:Nat) : Int) from rfl,mG]
  refine aH (fun h50=>?_) (fun h50=>?_)
  ·have h50:e - a ≥ 50:=of_decide_eq_true h50
   rw[if_pos h50] at hr
   have m1:=EH d (i:=a + (e - a) / 4 * 1 - 1) (j:=a + (e - a) / 4 * 1) (h:=a + (e - a) / 4 * 1 + 1) (k:=0) (n:=d.size) (by omega) (by omega) (by omega)
   have r1:(Sort.medianAdjacent lN d (a + (e - a) / 4 * 1) 0).1<d.size∧(Sort.medianAdjacent lN d (a + (e - a) / 4 * 1) 0).2≤0 + 3:=m1
   refine ha hsb hsz (by omega) (by omega) (by omega) ?_
   generalize Sort.medianAdjacent lN d (a + (e - a) / 4 * 1) 0=q1 at *
   have m2:=EH d (i:=a + (e - a) / 4 * 2 - 1) (j:=a + (e - a) / 4 * 2) (h:=a + (e - a) / 4 * 2 + 1) (k:=q1.2) (n:=d.size) (by omega) (by omega) (by omega)
   have r2:(Sort.medianAdjacent lN d (a + (e - a) / 4 * 2) q1.2).1<d.size∧(Sort.medianAdjacent lN d (a + (e - a) / 4 * 2) q1.2).2≤q1.2 + 3:=m2
   refine ha hsb hsz (by omega) (by omega) (by omega) ?_
   generalize Sort.medianAdjacent lN d (a + (e - a) / 4 * 2) q1.2=q2 at *
   have m3:=EH d (i:=a + (e - a) / 4 * 3 - 1) (j:=a + (e - a) / 4 * 3) (h:=a + (e - a) / 4 * 3 + 1) (k:=q2.2) (n:=d.size) (by omega) (by omega) (by omega)
   have r3:(Sort.medianAdjacent lN d (a + (e - a) / 4 * 3) q2.2).1<d.size∧(Sort.medianAdjacent lN d (a + (e - a) / 4 * 3) q2.2).2≤q2.2 + 3:=m3
   refine ha hsb hsz (by omega) (by omega) (by omega) ?_
   generalize Sort.medianAdjacent lN d (a + (e - a) / 4 * 3) q2.2=q3 at *
   exact hJ0 _ _ ⟨q1.1,q2.1,q3.1,q3.2,rfl,rfl,r1.1,r2.1,r3.1,by omega,hr⟩
  ·have h50:¬ e - a ≥ 50:=of_decide_eq_false h50
   rw[if_neg h50] at hr
   exact hJ0 _ _ ⟨_,_,_,0,rfl,rfl,by omega,by omega,by omega,by omega,hr⟩
 ·have h8:¬ e - a ≥ 8:=of_decide_eq_false h8
  rw[if_neg h8] at hr
  subst hr
  exact hJ _ _ ⟨rfl,rfl⟩
theorem yh:∀ (j:Nat) (d:Array Nat),(Sort.shiftDown lN j d).size=d.size
 | 0,d=>rfl
 | j + 1,d=>by
   rw[Sort.shiftDown]
   split
   ·rfl
   ·rw[yh j,dS]
theorem Cz (e:Nat) : ∀ (k j:Nat) (d:Array Nat),e - j≤k→(Sort.shiftUp lN e j d).size=d.size
 | 0,j,d,h=>by rw[Sort.shiftUp,if_neg (by omega)]
 | k + 1,j,d,h=>by
   rw[Sort.shiftUp]
   split
   ·split
    ·rfl
    ·rw[Cz e k _ _ (by omega),dS]
   ·rfl
def JH (T:Nat) (c:au) : Prop:=∀ {M:RM} {b a e:Nat} {d:Array Nat} {Q:ai},b<M.next→d.size≤1000000→a<e→e≤d.size→Q (Bo (Sort.partialInsertionSort lN d a e).2) (PM M b T (Sort.partialInsertionSort lN d a e).1) →
 c [vv b d.size,N .i64 (a:Int),N .i64 (e:Int)] (PM M b T d) Q
theorem Ej (a b s i:Nat) (d:Array Nat) : Sort.partialIns lN a b (s + 1) i d =
  if Sort.scanSorted lN d b i=b then(d,true) else if b - a<50 then(d,false) else
   Sort.partialIns lN a b s (Sort.scanSorted lN d b i) (if b - Sort.scanSorted lN d b i ≥ 2 then Sort.shiftUp lN b (Sort.scanSorted lN d b i + 1) (if Sort.scanSorted lN d b i - a ≥ 2 then Sort.shiftDown lN (Sort.scanSorted lN d b i - 1) (Sort.swp d (Sort.scanSorted lN d b i) (Sort.scanSorted lN d b i - 1)) else Sort.swp d (Sort.scanSorted lN d b i) (Sort.scanSorted lN d b i - 1))
    else(if Sort.scanSorted lN d b i - a ≥ 2 then Sort.shiftDown lN (Sort.scanSorted lN d b i - 1) (Sort.swp d (Sort.scanSorted lN d b i) (Sort.scanSorted lN d b i - 1)) else Sort.swp d (Sort.scanSorted lN d b i) (Sort.scanSorted lN d b i - 1))):=rfl
theorem OO {T:Nat} {cl:au} (hl:vJ cl) : JH T fun args M Q=>∃ a0 a1 a2,args=[a0,a1,a2]∧fP cl a0 a1 a2 M Q:=by
 intro M b a e d Q hb hsz hae he hQ
 refine⟨_,_,_,rfl, ?_⟩
 unfold fP
 simp only[gQ,fC,gp,bZ]
 rw[add1 (by omega)]
 unfold Sort.partialInsertionSort at hQ
 obtain⟨R,hR⟩ : ∃ R,R=Sort.partialIns lN a e 5 (a + 1) d:=⟨_,rfl⟩
 rw[← hR] at hQ
 refine aJ (fun m ys M3=>∃ (i s:Nat) (d3:Array Nat),m=s∧s≤5∧ys=[N .i64 (i:Int),N .i64 ((5 - s:Nat) : Int)]∧a + 1≤i∧i≤e∧M3=PM M b T d3∧d3.size=d.size∧R=Sort.partialIns lN a e s i d3) _ ⟨a + 1,5,d,rfl,by omega,rfl,by omega,by omega,rfl,rfl,hR⟩ ?_
 rintro next m ys M3 hnext ⟨i,s,d3,hms,hs5,rfl,hai,hie,rfl,hs3,hm⟩
 dsimp only[aa]
 rw[show(5:Int)=((5:Nat) : Int) from rfl,eO]
 refine aH (fun hg=>?_) (fun hg=>?_)
 ·have hg:5 - s<5:=of_decide_eq_true hg
  obtain⟨s',rfl⟩ : ∃ s',s=s' + 1:=⟨s - 1,by omega⟩
  rw[Ej] at hm
  refine bA (fun zs M'=>∃ (i' : Nat) (d4:Array Nat),zs=[N .i64 (i' : Int)]∧a + 1≤i'∧i'≤e∧M'=PM M b T d4∧d4.size=d.size∧R=Sort.partialIns lN a e s' i' d4) ?_ ?_
  ·rintro zs M' ⟨i',d4,rfl,h1,h2,rfl,h3,h4⟩
   dsimp only[aa]
   rw[add1 (by omega)]
   exact hnext _ _ _ (by omega) ⟨i',s',d4,rfl,by omega,by congr 4; omega,h1,h2,rfl,h3,h4⟩
  intro J hJ
  obtain⟨R5,hR5⟩ : ∃ R5,R5=Sort.scanSorted lN d3 e i:=⟨_,rfl⟩
  rw[← hR5] at hm
  refine aJ (fun m ys M5=>∃ (j:Nat),m=e - j∧ys=[N .i64 (j:Int)]∧i≤j∧j≤e∧M5=PM M b T d3∧R5=Sort.scanSorted lN d3 e j) _ ⟨i,rfl,rfl,Nat.le_refl _,hie,rfl,hR5⟩ ?_
  rintro kT m ys M5 eu ⟨j,rfl,rfl,hij,hje,rfl,hm5⟩
  dsimp only[aa]
  rw[Sort.scanSorted] at hm5
  rw[eO]
  refine Rs (p:=!lN d3[j]! d3[j - 1]!) (fun hc k hk=>?_) ?_
  ·have hc:j<e:=of_decide_eq_true hc
   rw[PM.rd hs3.symm (by omega),bL (by omega) (by omega),PM.rd hs3.symm (by omega)]
   refine hl ?_
   rw[bK]
   exact hk
  refine aH (fun h=>?_) (fun h=>?_)
  ·have hc:j<e:=by
    rw[Bool.and_eq_true] at h
    exact of_decide_eq_true h.1
   rw[if_pos h] at hm5
   rw[add1 (by omega)]
   exact eu _ _ _ (by omega) ⟨j + 1,rfl,rfl,by omega,by omega,rfl,hm5⟩
  rw[if_neg (by rw[h]; decide)] at hm5
  subst hm5
  rw[Wj]
  refine aH (fun yK=>?_) (fun yK=>?_)
  ·rw[if_pos (of_decide_eq_true yK)] at hm
   rw[hm] at hQ
   exact hQ
  have yK:¬ R5=e:=of_decide_eq_false yK
  rw[if_neg yK] at hm
  rw[gG (by omega) (by omega),show(50:Int)=((50:Nat) : Int) from rfl,eO]
  refine aH (fun h50=>?_) (fun h50=>?_)
  ·rw[if_pos (of_decide_eq_true h50)] at hm
   rw[hm] at hQ
   exact hQ
  rw[if_neg (of_decide_eq_false h50)] at hm
  rw[bL (by omega) (by omega),bL (by omega) (by omega),PM.rd hs3.symm (by omega),PM.rd hs3.symm (by omega),PM.swap hs3.symm (by omega) (by omega)]
  have hs6:=xJ (i:=R5) (j:=R5 - 1) hs3
  generalize Sort.swp d3 R5 (R5 - 1)=d6 at *
  refine bA (fun zs M'=>zs=[]∧M'=PM M b T (if R5 - a ≥ 2 then Sort.shiftDown lN (R5 - 1) d6 else d6)) ?_ ?_
  ·rintro zs M' ⟨rfl,rfl⟩
   have hs7:(if R5 - a ≥ 2 then Sort.shiftDown lN (R5 - 1) d6 else d6).size=d.size:=by
    split
    ·rw[yh,hs6]
    ·exact hs6
   generalize (if R5 - a ≥ 2 then Sort.shiftDown lN (R5 - 1) d6 else d6)=d7 at *
   rw[gG (by omega) (by omega),show(2:Int)=((2:Nat) : Int) from rfl,mG]
   refine aH (fun h2=>?_) (fun h2=>?_)
   ·rw[if_pos (of_decide_eq_true h2)] at hm
    rw[add1 (by omega)]
    have hs8:=Cz e e (R5 + 1) d7 (by omega)
    obtain⟨R8,hR8⟩ : ∃ R8,R8=Sort.shiftUp lN e (R5 + 1) d7:=⟨_,rfl⟩
    rw[← hR8] at hm hs8
    refine aJ (fun m ys M8=>∃ (j:Nat) (d8:Array Nat),m=e - j∧ys=[N .i64 (j:Int)]∧R5 + 1≤j∧j≤e∧M8=PM M b T d8∧d8.size=d.size∧R8=Sort.shiftUp lN e j d8) _ ⟨R5 + 1,d7,rfl,rfl,Nat.le_refl _,by omega,rfl,hs7,hR8⟩ ?_
    rintro xA m ys M8 yX ⟨j,d8,rfl,rfl,hj1,hj2,rfl,ig,hm8⟩
    dsimp only[aa]
    rw[Sort.shiftUp] at hm8
    rw[eO]
    refine aH (fun hl1=>?_) (fun hl1=>?_)
    ·have hl1:j<e:=of_decide_eq_true hl1
     rw[if_pos hl1] at hm8
     rw[PM.rd ig.symm (by omega),bL (by omega) (by omega),PM.rd ig.symm (by omega)]
     refine hl ?_
     rw[bK]
     refine aH (fun hn=>?_) (fun hn=>?_)
     ·rw[if_pos hn] at hm8
      subst hm8
      exact hJ _ _ ⟨R5,R8,rfl,by omega,by omega,rfl,ig,hm⟩
     ·rw[if_neg (by rw[show(!lN d8[j]! d8[j - 1]!)=false from hn]; decide)] at hm8
      rw[bL (by omega) (by omega),bL (by omega) (by omega),PM.rd ig.symm (by omega),PM.rd ig.symm (by omega),PM.swap ig.symm (by omega) (by omega),add1 (by omega)]
      exact yX _ _ _ (by omega) ⟨j + 1,_,rfl,rfl,by omega,by omega,rfl,xJ ig,hm8⟩
    ·rw[if_neg (of_decide_eq_false hl1)] at hm8
     subst hm8
     exact hJ _ _ ⟨R5,R8,rfl,by omega,by omega,rfl,ig,hm⟩
   ·rw[if_neg (of_decide_eq_false h2)] at hm
    exact hJ _ _ ⟨R5,d7,rfl,by omega,by omega,rfl,hs7,hm⟩
  intro J2 hJ2
  rw[gG (by omega) (by omega),show(2:Int)=((2:Nat) : Int) from rfl,mG]
  refine aH (fun h2=>?_) (fun h2=>?_)
  ·rw[if_pos (of_decide_eq_true h2)] at hJ2
   rw[bL (by omega) (by omega)]
   obtain⟨R8,hR8⟩ : ∃ R8,R8=Sort.shiftDown lN (R5 - 1) d6:=⟨_,rfl⟩
   rw[← hR8] at hJ2
   refine aJ (fun m ys M8=>∃ (j:Nat) (d8:Array Nat),m=j + 1∧ys=[N .i64 (j:Int)]∧j<R5∧M8=PM M b T d8∧d8.size=d.size∧R8=Sort.shiftDown lN j d8) _ ⟨R5 - 1,d6,rfl,rfl,by omega,rfl,hs6,hR8⟩ ?_
   rintro xA m ys M8 yX ⟨j,d8,rfl,rfl,hj1,rfl,ig,hm8⟩
   dsimp only[aa]
   rw[show(1:Int)=((1:Nat) : Int) from rfl,mG]
   refine aH (fun hl1=>?_) (fun hl1=>?_)
   ·have hl1:j ≥ 1:=of_decide_eq_true hl1
    obtain⟨j',rfl⟩ : ∃ j',j=j' + 1:=⟨j - 1,by omega⟩
    rw[Sort.shiftDown] at hm8
    rw[PM.rd ig.symm (by omega),gG (by omega) (by omega),Nat.add_sub_cancel,PM.rd ig.symm (by omega)]
    refine hl ?_
    rw[bK]
    refine aH (fun hn=>?_) (fun hn=>?_)
    ·rw[if_pos hn] at hm8
     subst hm8
     exact hJ2 _ _ ⟨rfl,rfl⟩
    ·rw[if_neg (by rw[show(!lN d8[j' + 1]! d8[j']!)=false from hn]; decide)] at hm8
     rw[gG (by omega) (by omega),gG (by omega) (by omega),Nat.add_sub_cancel,PM.rd ig.symm (by omega),PM.rd ig.symm (by omega),PM.swap ig.symm (by omega) (by omega),gG (by omega) (by omega),Nat.add_sub_cancel]
     exact yX _ _ _ (by omega) ⟨j',_,rfl,rfl,by omega,rfl,xJ ig,hm8⟩
   ·have hl1:¬ j ≥ 1:=of_decide_eq_false hl1
    have h0:j=0:=by omega
    subst h0
    rw[Sort.shiftDown] at hm8
    subst hm8
    exact hJ2 _ _ ⟨rfl,rfl⟩
  ·rw[if_neg (of_decide_eq_false h2)] at hJ2
   exact hJ2 _ _ ⟨rfl,rfl⟩
 ·have hg:¬ 5 - s<5:=of_decide_eq_false hg
  have h0:s=0:=by omega
  subst h0
  rw[Sort.partialIns] at hm
  rw[hm] at hQ
  exact hQ
def VW (P:List Nat→Prop) (f:List Nat→List Nat) (T:Nat) (c:au) : Prop:=∀ {M:RM} {base:Nat} {v:AV} {xs:List Nat} {Q:ai},Ow aS M base T v xs→P xs→(∀ M',Ow aS M' base T v (f xs)→ag (aD v) M M'→Q (.tup []) M')→c [v] M Q
def I7 (P:List Nat→Prop) (f:List Nat→List Nat) (T:Nat) (c:au) : Prop:=∀ {M:RM} {base:Nat} {v:AV} {xs:List Nat} {Q:ai},Ow aS M base T v xs→P xs→(∀ v' M',Sl aS M' v' (f xs)→kN v'→(∀ d∈aD v',d∈aD v)→ag (aD v) M M'→Q v' M')→c [v] M Q
def XT (T:Nat) (c:au) : Prop:=∀ {M:RM} {n:Nat} {Q:ai},n≤10000000→(n=0→Q bO M) →
 (0<n→∀ b M',M.next≤b→b<M'.next→M'.heap b=some (.row (bE [N .u64 0] n) true T 0)→ag [] M M'→Q (.slc b 0 0 (.op 1)) M')→c [bO,N .i64 (n:Int)] M Q
theorem Zg {TS T:Nat} : XT T fun args M Q=>∃ a0 a1,args=[a0,a1]∧wL TS T a0 a1 M Q:=by
 intro M n Q hn h0 h1
 refine⟨_,_,rfl, ?_⟩
 unfold wL
 rw[uX,cK,show decide ((n:Int)<0)=false by simp,bG]
 dsimp only
 rw[uX]
 have hcap:∀ K:AV→Prop,A8 bO K=K (N .i64 0):=fun K=>by
  unfold A8
  exact propext ⟨fun⟨m,h,k⟩=>by cases h; exact k,fun k=>⟨0,rfl,k⟩⟩
 rw[hcap,Jd,iV,show IntKind.wrap .i64 ((0:Int) - 0)=0 from by rw[bi] <;> decide,iV,Int.sub_zero,bi (by omega) (by omega),ic]
 dsimp only[aa]
 by_cases hz:n=0
 ·rw[show decide ((n:Int) > 0)=false by simp; omega,bG]
  exact h0 hz
 ·rw[show decide ((n:Int) > 0)=true by simp; omega,dH,hcap,show bR 1 bO none (some (N .i64 0)) none=some bO by simp[bR,bnd],dF]
  have hr:=oh n
  refine xM (base:=M.next) (m:=n) (ds:=bE [N .u64 0] n) .nil (Nat.le_refl _) (Nat.le_refl _) (by simp[mJ]) (by rw[hr.1,Nat.mul_one]) hr.2 (by omega) (by omega) ?_
  intro v' M' o k _ _
  rw[Nat.zero_add] at o
  obtain⟨b,rfl,q1,q2,q3,q4⟩:=Own.yP o (by omega)
  rw[Jd,show bR 1 (.slc b 0 n (.op 1)) none (some (N .i64 0)) none=some (.slc b 0 0 (.op 1)) by simp[bR,bnd]; omega,dF]
  exact h1 (by omega) b M' q1 q2 (by simpa using q3) (by simpa [aD] using k)
theorem Cf (p:Nat→Bool) (d:Array Nat) (J:Nat) : ∀ (n i:Nat),J + 1 - i≤n→i≤Sort.scanUp p d J i∧Sort.scanUp p d J i≤max (J + 1) i
 | 0,i,h=>by
   rw[Sort.scanUp,if_neg (by simp; omega)]; omega
 | n + 1,i,h=>by
   rw[Sort.scanUp]
   split
   ·rename_i hc
    rw[Bool.and_eq_true] at hc
    have:=of_decide_eq_true hc.1
    have:=Cf p d J n (i + 1) (by omega)
    omega
   ·omega
theorem yL (p:Nat→Bool) (d:Array Nat) (i:Nat) : ∀ j,Sort.scanDown p d i j≤j
 | 0=>Nat.le_refl _
 | j + 1=>by
   rw[Sort.scanDown]
   split
   ·have:=yL p d i j; omega
   ·omega
theorem BI (a:Nat) : ∀ (n i j:Nat) (d:Array Nat),j + 1 - i≤n→i≤(Sort.partEqLoop lN a i j d).1∧(Sort.partEqLoop lN a i j d).1≤max (j + 1) i∧(Sort.partEqLoop lN a i j d).2.size=d.size
 | n,i,j,d,h=>by
   have h1:=Cf (fun x=>!lN d[a]! x) d j _ i (Nat.le_refl _)
   have h2:=yL (fun x=>lN d[a]! x) d (Sort.scanUp (fun x=>!lN d[a]! x) d j i) j
   rw[Sort.partEqLoop]
   generalize Sort.scanUp (fun x=>!lN d[a]! x) d j i=i2 at *
   generalize Sort.scanDown (fun x=>lN d[a]! x) d i2 j=j2 at *
   split
   ·exact⟨h1.1,h1.2,rfl⟩
   ·split
    ·cases n with
     | zero=>omega
     | succ n =>
       have h3:=BI a n (i2 + 1) (j2 - 1) (Sort.swp d i2 j2) (by omega)
       rw[dS] at h3
       omega
    ·exact⟨h1.1,h1.2,rfl⟩
theorem Hm (a:Nat) : ∀ (n i j:Nat) (d:Array Nat),j + 1 - i≤n→(Sort.partLoop lN a i j d).1≤j∧(Sort.partLoop lN a i j d).2.size=d.size
 | n,i,j,d,h=>by
   have h1:=Cf (fun x=>lN x d[a]!) d j _ i (Nat.le_refl _)
   have h2:=yL (fun x=>!lN x d[a]!) d (Sort.scanUp (fun x=>lN x d[a]!) d j i) j
   rw[Sort.partLoop]
   generalize Sort.scanUp (fun x=>lN x d[a]!) d j i=i2 at *
   generalize Sort.scanDown (fun x=>!lN x d[a]!) d i2 j=j2 at *
   split
   ·exact⟨h2,rfl⟩
   ·split
    ·cases n with
     | zero=>omega
     | succ n =>
       have h3:=Hm a n (i2 + 1) (j2 - 1) (Sort.swp d i2 j2) (by omega)
       rw[dS] at h3
       exact⟨by omega,h3.2⟩
    ·exact⟨h2,rfl⟩
theorem Dq (a e:Nat) : ∀ (s i:Nat) (d:Array Nat),(Sort.partialIns lN a e s i d).1.size=d.size
 | 0,i,d=>rfl
 | s + 1,i,d=>by
   rw[Ej]
   split
   ·rfl
   ·split
    ·rfl
    ·rw[Dq a e s]
     have h1:∀ x,(if x - a ≥ 2 then Sort.shiftDown lN (x - 1) (Sort.swp d x (x - 1)) else Sort.swp d x (x - 1)).size=d.size:=fun x=>by
      split
      ·rw[yh,dS]
      ·rw[dS]
     split
     ·rw[Cz e e _ _ (by omega),h1]
     ·rw[h1]
theorem abV {x:Nat} (h:256≤x) : Sort.bitsLen x=Sort.bitsLen (x / 256) + 8:=by
 have h0:x / 256≠0:=by omega
 unfold Sort.bitsLen
 rw[if_neg (by omega),if_neg h0]
 have h1:=(Nat.log2_eq_iff h0 (k:=(x / 256).log2)).1 rfl
 have h2:x.log2=(x / 256).log2 + 8:=by
  rw[Nat.log2_eq_iff (by omega)]
  rw[show(x / 256).log2 + 8 + 1=((x / 256).log2 + 1) + 8 by omega,Nat.pow_add,Nat.pow_add _ ((x / 256).log2 + 1)]
  generalize 2 ^ (x / 256).log2=u at *
  generalize 2 ^ ((x / 256).log2 + 1)=v at *
  omega
 omega
theorem Yv {tab:List UInt8} {x:Nat} (h:(List.range 256).all (fun i=>tab[i]? == some (UInt8.ofNat (Sort.bitsLen i)))=true) (hx:x<256) : tab[x]?=some (UInt8.ofNat (Sort.bitsLen x)):=by
 have:=List.all_eq_true.1 h x (List.mem_range.2 hx)
 exact eq_of_beq this
theorem afa {x:Nat} (h:x<256) : Sort.bitsLen x≤8:=by
 unfold Sort.bitsLen
 split
 ·omega
 ·rename_i h0
  have:=(Nat.log2_lt h0 (k:=8)).2 (by omega)
  omega
def F9 (c:au) : Prop:=∀ {M:RM} {x:Nat} {Q:ai},x<65536→Q (N .i64 (Sort.bitsLen x:Nat)) M→c [N .u64 (x:Int)] M Q
theorem Ub:F9 fun args M Q=>∃ a0,args=[a0]∧qi a0 M Q:=by
 intro M x Q hx hQ
 refine⟨_,rfl, ?_⟩
 unfold qi
 rw[uX,ik,show decide ((x:Int) ≥ 4294967296)=false by simp; omega,bG]
 dsimp only[aa]
 rw[uX,ik,show decide ((x:Int) ≥ 65536)=false by simp; omega,bG]
 dsimp only[aa]
 rw[uX,ik]
 have fin:∀ (y z:Nat),y<256→z≤8→Sort.bitsLen x=z + Sort.bitsLen y→og .u8 (N .u64 (y:Int)) fun t21=>Rp (St [0,1,2,2,3,3,3,3,4,4,4,4,4,4,4,4,5,5,5,5,5,5,5,5,5,5,5,5,5,5,5,5,6,6,6,6,6,6,6,6,6,6,6,6,6,6,6,6,6,6,6,6,6,6,6,6,6,6,6,6,6,6,6,6,7,7,7,7,7,7,7,7,7,7,7,7,7,7,7,7,7,7,7,7,7,7,7,7,7,7,7,7,7,7,7,7,7,7,7,7,7,7,7,7,7,7,7,7,7,7,7,7,7,7,7,7,7,7,7,7,7,7,7,7,7,7,7,7,8,8,8,8,8,8,8,8,8,8,8,8,8,8,8,8,8,8,8,8,8,8,8,8,8,8,8,8,8,8,8,8,8,8,8,8,8,8,8,8,8,8,8,8,8,8,8,8,8,8,8,8,8,8,8,8,8,8,8,8,8,8,8,8,8,8,8,8,8,8,8,8,8,8,8,8,8,8,8,8,8,8,8,8,8,8,8,8,8,8,8,8,8,8,8,8,8,8,8,8,8,8,8,8,8,8,8,8,8,8,8,8,8,8,8,8,8,8,8,8,8,8,8,8,8,8,8,8]) t21 fun t22 =>
   og .i64 t22 fun t23=>ae .add (N .i64 (z:Int)) t23 fun t24=>Q t24 M:=fun y z hy hz e=>by
  rw[nU,xu (by omega) (by omega),aeQ]
  refine⟨by omega, ?_⟩
  rw[Int.toNat_natCast]
  refine⟨_,Yv (by kernel_rfl) hy, ?_⟩
  have hb:=afa hy
  have hu:(UInt8.ofNat (Sort.bitsLen y)).toNat=Sort.bitsLen y:=by rw[UInt8.toNat_ofNat']; omega
  rw[hu,nU,bi (by omega) (by omega),addN (by omega),← e]
  exact hQ
 by_cases h:x ≥ 256
 ·rw[show decide ((x:Int) ≥ 256)=true by simp; omega,dH]
  dsimp only[aa]
  rw[GK]
  refine⟨by decide, ?_⟩
  rw[show(8:Int)=((8:Nat) : Int) from rfl,JA _ _ _ (by decide),bY,Int.zero_add,bi (by omega) (by omega)]
  exact fin (x / 256) 8 (by omega) (by omega) (by rw[abV h]; omega)
 ·rw[show decide ((x:Int) ≥ 256)=false by simp; omega,bG]
  dsimp only[aa]
  exact fin x 0 (by omega) (by omega) (by omega)
theorem Zn {c3 c6:au} (h6:F9 c6) : F9 fun args M Q=>∃ a0,args=[a0]∧tH c3 c6 a0 M Q:=by
 intro M x Q hx hQ
 refine⟨_,rfl, ?_⟩
 unfold tH
 rw[bG]
 exact h6 hx hQ
def XM (M:RM) (s T:Nat) (r:UInt64) : RM:=M.put s (.row [N .u64 (r.toNat:Int)] false T 0)
theorem XM.put {M:RM} {s T:Nat} {r r' : UInt64} : (XM M s T r).put s (.row [N .u64 (r'.toNat:Int)] false T 0)=XM M s T r':=by
 unfold XM RM.put
 congr 1
 funext c
 simp only
 by_cases h:c=s <;> simp[h]
theorem XM.new {M:RM} {T:Nat} {x:RB} {r:UInt64} : (M.push x).put M.next (.row [N .u64 (r.toNat:Int)] false T 0)=XM (M.push x) M.next T r:=rfl
theorem Gh {r k:UInt64} {n:Nat} (hk:k.toNat=n) (h:n<64) : Yc .u64 (r.toNat:Int) (n:Int)=((r <<< k).toNat:Int):=by
 rw[Qm rfl _ _ (by show n≤64; omega),UInt64.toNat_shiftLeft,hk,Nat.mod_eq_of_lt h,Nat.shiftLeft_eq]; rfl
theorem U0 {r k:UInt64} {n:Nat} (hk:k.toNat=n) (h:n<64) : Qw .u64 (r.toNat:Int) (n:Int)=((r >>> k).toNat:Int):=by
 rw[JA _ _ _ (by show n≤64; omega),UInt64.toNat_shiftRight,hk,Nat.mod_eq_of_lt h,Nat.shiftRight_eq_div_pow]
theorem u64_xor (a b:UInt64) : Wi .u64 (a.toNat:Int) (b.toNat:Int)=((a ^^^ b).toNat:Int):=by
 rw[aaz rfl,← UInt64.toNat_xor]
 have:=(a ^^^ b).toNat_lt
 rw[Nat.mod_eq_of_lt (by show _<2 ^ 64; omega)]
def ZP (T TX:Nat) (c:au) : Prop:=∀ {M:RM} {b s:Nat} {r:UInt64} {d:Array Nat} {Q:ai},s≠b→Q (N .u64 ((Sort.xorNext r).toNat:Int)) (PM (XM M s TX (Sort.xorNext r)) b T d)→c [.ptr s 0] (PM (XM M s TX r) b T d) Q
theorem abG {T TX:Nat} : ZP T TX fun args M Q=>∃ a0,args=[a0]∧lh a0 M Q:=by
 intro M b s r d Q hsb hQ
 refine⟨_,rfl, ?_⟩
 unfold lh
 have hh:∀ r,(PM (XM M s TX r) b T d).heap s=some (.row [N .u64 (r.toNat:Int)] false TX 0):=fun r=>by rw[PM.Kv hsb]; exact RM.qY _ _
 have st:∀ (r r' : UInt64) (K:RM→Prop),aG (PM (XM M s TX r) b T d) (.ptr s 0) (N .u64 (r'.toNat:Int)) 1 K=K (PM (XM M s TX r') b T d):=fun r r' K=>by
  rw[fT (hh r) (by simp) rfl rfl,PM.WZ hsb]
  rw[show([N .u64 (r.toNat:Int)] : List AV).set 0 (N .u64 (r'.toNat:Int))=[N .u64 (r'.toNat:Int)] from rfl,XM.put]
 rw[aM,av (hh r) rfl,aM,av (hh r) rfl,BL]
 refine⟨by decide, ?_⟩
 rw[show(13:Int)=((13:Nat) : Int) from rfl,Gh (k:=13) (n:=13) rfl (by decide),vB,u64_xor,aM,st]
 rw[aM,av (hh _) rfl,aM,av (hh _) rfl,GK]
 refine⟨by decide, ?_⟩
 rw[show(7:Int)=((7:Nat) : Int) from rfl,U0 (k:=7) (n:=7) rfl (by decide),vB,u64_xor,aM,st]
 rw[aM,av (hh _) rfl,aM,av (hh _) rfl,BL]
 refine⟨by decide, ?_⟩
 rw[show(17:Int)=((17:Nat) : Int) from rfl,Gh (k:=17) (n:=17) rfl (by decide),vB,u64_xor,aM,st]
 rw[aM,av (hh _) rfl]
 exact hQ
def WJ (c:au) : Prop:=∀ {M:RM} {x:Nat} {Q:ai},0<x→x<65536→Q (N .u64 ((2 ^ Sort.bitsLen x:Nat) : Int)) M→c [N .i64 (x:Int)] M Q
theorem BX {x:Nat} (h0:0<x) (h:x<65536) : Sort.bitsLen x≤16∧2 ^ Sort.bitsLen x≤2 * x∧x<2 ^ Sort.bitsLen x:=by
 unfold Sort.bitsLen
 rw[if_neg (by omega)]
 have h1:=(Nat.log2_eq_iff (show x≠0 by omega) (k:=x.log2)).1 rfl
 have h2:=(Nat.log2_lt (show x≠0 by omega) (k:=16)).2 (by omega)
 rw[Nat.pow_succ] at *
 omega
theorem Z9 {cl:au} (hl:F9 cl) : WJ fun args M Q=>∃ a0,args=[a0]∧rM cl a0 M Q:=by
 intro M x Q h0 hx hQ
 refine⟨_,rfl, ?_⟩
 unfold rM
 have hb:=BX h0 hx
 rw[nU,lK (by omega) (by omega)]
 refine hl hx ?_
 rw[BL]
 refine⟨by omega, ?_⟩
 rw[show(1:Int)=((1:Nat) : Int) from rfl,Qm rfl _ _ (by show Sort.bitsLen x≤64; omega),Nat.one_mul]
 have:2 ^ Sort.bitsLen x<2 ^ 64:=Nat.pow_lt_pow_right (by decide) (by omega)
 rw[Nat.mod_eq_of_lt (by exact this)]
 exact hQ
def Ec (a l m i0:Nat) (d:Array Nat) : Nat→UInt64 × Array Nat
 | 0=>(UInt64.ofNat l,d)
 | k + 1=>Sort.breakStep a l m (Ec a l m i0 d k) (i0 + k)
theorem Zc (a l m i0:Nat) (d:Array Nat) : ∀ k,(Ec a l m i0 d k).2.size=d.size
 | 0=>rfl
 | k + 1=>by
   rw[Ec,Sort.breakStep]
   show(Sort.swp _ _ _).size=_
   rw[dS,Zc a l m i0 d k]
def Sv (T:Nat) (c:au) : Prop:=∀ {M:RM} {b a e:Nat} {d:Array Nat} {Q:ai},b<M.next→d.size≤60000→a≤e→e≤d.size→(∀ M',ag [] M M'→Q (.tup []) (PM M' b T (Sort.breakPatterns d a e))) →
 c [vv b d.size,N .i64 (a:Int),N .i64 (e:Int)] (PM M b T d) Q
theorem Xf {T TX:Nat} {cp cx:au} (hp:WJ cp) (hx:ZP T TX cx) : Sv T fun args M Q=>∃ a0 a1 a2,args=[a0,a1,a2]∧iO TX cp cx a0 a1 a2 M Q:=by
 intro M b a e d Q hb hsz hae he hQ
 refine⟨_,_,_,rfl, ?_⟩
 unfold iO
 simp only[bZ]
 rw[gG hae (by omega),show(8:Int)=((8:Nat) : Int) from rfl,mG]
 unfold Sort.breakPatterns at hQ
 refine aH (fun h8=>?_) (fun h8=>?_)
 ·have h8:e - a ≥ 8:=of_decide_eq_true h8
  rw[if_pos h8] at hQ
  have hbl:=BX (x:=e - a) (by omega) (by omega)
  rw[nU,lK (by omega) (by omega),bz,PM.push hb]
  have hnx:(PM M b T d).next=M.next:=rfl
  rw[hnx]
  have hsb:M.next≠b:=by omega
  have kk:ag [] M (M.push (.row [(N .u64 0)] false TX 0)):=(ag.refl _ _).push _
  have kS:∀ r,ag [] M (XM (M.push (.row [(N .u64 0)] false TX 0)) M.next TX r):=fun r=>kk.new _ (Nat.le_refl _)
  have hh0:(PM (M.push (.row [(N .u64 0)] false TX 0)) b T d).heap M.next=some (.row [N .u64 0] false TX 0):=by rw[PM.Kv hsb]; exact RM.aT _
  have aaf:(UInt64.ofNat (e - a)).toNat=e - a:=by rw[UInt64.toNat_ofNat']; omega
  rw[fT hh0 (by simp) rfl rfl,PM.WZ hsb]
  rw[show([N .u64 0] : List AV).set 0 (N .u64 ((e - a:Nat) : Int))=[N .u64 ((UInt64.ofNat (e - a)).toNat:Int)] by rw[aaf]; rfl,XM.new]
  generalize M.push (.row [(N .u64 0)] false TX 0)=M1 at *
  generalize M.next=s at *
  refine hp (by omega) (by omega) ?_
  have hq:∀ (c:Int),c=((2:Nat) : Int)→∀ (K:AV→Prop),(ae .quo (N .i64 ((e - a:Nat) : Int)) (N .i64 4) fun t18=>ae .mul t18 (N .i64 c) fun t19=>ae .add (N .i64 (a:Int)) t19 K)=K (N .i64 ((a + (e - a) / 4 * 2:Nat) : Int)):=fun c hc K=>by
   subst hc
   rw[nW,show(4:Int)=((4:Nat) : Int) from rfl,uN,bi (by omega) (by omega),yw,← Int.natCast_mul,bi (by omega) (by omega),addN (by omega)]
   exact propext ⟨fun h=>h.2,fun h=>⟨by decide,h⟩⟩
  rw[hq 2 rfl,bL (by omega) (by omega)]
  have aaL:(Sort.breakStep a (e - a) (1 <<< Sort.bitsLen (e - a)) (Sort.breakStep a (e - a) (1 <<< Sort.bitsLen (e - a)) (Sort.breakStep a (e - a) (1 <<< Sort.bitsLen (e - a)) (UInt64.ofNat (e - a),d) (a + (e - a) / 4 * 2 - 1)) (a + (e - a) / 4 * 2 - 1 + 1)) (a + (e - a) / 4 * 2 - 1 + 2)).2=(Ec a (e - a) (2 ^ Sort.bitsLen (e - a)) (a + (e - a) / 4 * 2 - 1) d 3).2:=by
   rw[Nat.shiftLeft_eq,Nat.one_mul]; rfl
  have hQ:∀ M',ag [] M M'→Q (.tup []) (PM M' b T (Ec a (e - a) (2 ^ Sort.bitsLen (e - a)) (a + (e - a) / 4 * 2 - 1) d 3).2):=fun M' k=>by
   have:=hQ M' k
   rw[← aaL]; exact this
  generalize hmd:2 ^ Sort.bitsLen (e - a)=md at *
  generalize hi0:a + (e - a) / 4 * 2 - 1=i0 at *
  refine aJ (fun m ys M3=>∃ (k:Nat),m=3 - k∧k≤3∧ys=[N .i64 ((i0 + k:Nat) : Int)]∧M3=PM (XM M1 s TX (Ec a (e - a) md i0 d k).1) b T (Ec a (e - a) md i0 d k).2) _ ⟨0,rfl,by omega,rfl,rfl⟩ ?_
  rintro next m ys M3 hnext ⟨k,rfl,hk,rfl,rfl⟩
  dsimp only[aa]
  have hsk:=Zc a (e - a) md i0 d k
  have abm:Ec a (e - a) md i0 d (k + 1)=Sort.breakStep a (e - a) md (Ec a (e - a) md i0 d k) (i0 + k):=rfl
  generalize abF:Ec a (e - a) md i0 d k=st at *
  rw[hq 2 rfl,add1 (by omega),qo]
  refine aH (fun hg=>?_) (fun hg=>?_)
  ·have hg:i0 + k≤a + (e - a) / 4 * 2 + 1:=of_decide_eq_true hg
   refine bA (fun zs M'=>M'=PM (XM M1 s TX (Ec a (e - a) md i0 d (k + 1)).1) b T (Ec a (e - a) md i0 d (k + 1)).2) ?_ ?_
   ·rintro zs M' rfl
    rw[add1 (by omega)]
    exact hnext _ _ _ (by omega) ⟨k + 1,rfl,by omega,rfl,rfl⟩
   intro J hJ
   refine hx hsb ?_
   rw[abm] at hJ
   unfold Sort.breakStep at hJ
   dsimp only at hJ
   generalize Sort.xorNext st.1=r at *
   rw[iV,lK (by omega) (by omega),show(md:Int) - 1=((md - 1:Nat) : Int) by omega,Tk,Qg rfl]
   have hlt:r.toNat &&& (md - 1)<md:=by
    rw[← hmd,Nat.and_two_pow_sub_one_eq_mod]
    exact Nat.mod_lt _ (by rw[hmd]; omega)
   rw[Nat.mod_eq_of_lt (show r.toNat &&& (md - 1)<2 ^ zu .u64 by show _<2 ^ 64; omega)]
   generalize r.toNat &&& (md - 1)=o at *
   rw[nU,bi (by omega) (by omega)]
   refine bA (fun zs M'=>zs=[N .i64 (((if o ≥ e - a then o - (e - a) else o) : Nat) : Int)]∧M'=PM (XM M1 s TX r) b T st.2) ?_ ?_
   ·rintro zs M' ⟨rfl,rfl⟩
    dsimp only[aa]
    have ho:(if o ≥ e - a then o - (e - a) else o)<e - a:=by split <;> omega
    generalize (if o ≥ e - a then o - (e - a) else o)=o2 at *
    rw[addN (by omega),addN (by omega),PM.rd hsk.symm (by omega),PM.rd hsk.symm (by omega),PM.swap hsk.symm (by omega) (by omega)]
    exact hJ _ _ rfl
   intro J4 hJ4
   rw[mG]
   refine aH (fun hg2=>?_) (fun hg2=>?_)
   ·have hg2:o ≥ e - a:=of_decide_eq_true hg2
    rw[gG (by omega) (by omega)]
    exact hJ4 _ _ ⟨by rw[if_pos hg2],rfl⟩
   ·exact hJ4 _ _ ⟨by rw[if_neg (of_decide_eq_false hg2)],rfl⟩
  ·have hg:¬ i0 + k≤a + (e - a) / 4 * 2 + 1:=of_decide_eq_false hg
   have h3:k=3:=by omega
   subst h3
   rw[abF] at hQ
   exact hQ _ (kS _)
 ·rw[if_neg (of_decide_eq_false h8)] at hQ
  exact hQ M (ag.refl _ _)
end Go.Ab.aB
