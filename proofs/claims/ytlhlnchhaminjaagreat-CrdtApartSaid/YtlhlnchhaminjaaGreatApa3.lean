/- Part 3 of the ground of the proofs of this seat (texts R8 to R21). By an AI agent. -/
import Derived.Test.YtlhlnchhaminjaaGreatApa2
import Derived.Scope
import Derived.ChangeShapes
import Derived.OpenShut
import Derived.WideKeyArgs
import GoSem.ClaimJoined
import Derived.Carry
set_option linter.unusedVariables false
set_option linter.unusedSimpArgs false
namespace Go.Ab
open Go Go.RowKit
section
variable {P:Program} {nt:Nat} {ops:Array Oper} {ri:RI} {T0:Tree AV}
theorem PN {wr:Tree Nat} {r:Row} {s s0:mR} {K:Prop} (h:Pv P ops T0 wr r s K) (hold:rf P ops T0 wr s0 r) (hv:∀ j,Nat.testBit r.m j=true∨j=r.i→s.vals.get j=s0.vals.get j) (hb:s.bids.get r.i=s0.bids.get r.i) :
  K∧rf P ops T0 wr s r:=by
 obtain ⟨g,hg,hold⟩:=hold
 have hi:=hv r.i (.inr rfl)
 have he:gI T0 wr s.vals r.m=gI T0 wr s0.vals r.m:=wS fun j hj=>hv j (.inl hj)
 have hg' : guardOf ops wr s.vals r=some g:=by rw [← hg]; exact nL fun j hj=>hv j (.inl hj)
 have offon:EI g→N9 g→False:=by
  intro h1 h2
  unfold EI at h1
  unfold N9 at h2
  split at h1
  ·exact h1
  ·simp only at h2
   rcases h1 with h1 | ⟨b,h1,h3⟩
   ·rw [h2] at h1; cases h1
   ·rw [h2] at h1; cases h1; exact h3 rfl
 have hoffc:∀ {K'},K'→EI g∧s0.vals.get r.i=some .undef→K'∧rf P ops T0 wr s r:=fun k h=>⟨k,g,hg',.inr ⟨h.1,by rw [hi]; exact h.2⟩⟩
 unfold Pv at h
 cases hkd:r.kd with
 | pure =>
   rw [hkd] at h
   refine ⟨h,g,hg', ?_⟩
   rcases hold with ⟨hon,v,hvi,hk⟩ | ⟨hoff,hvi⟩
   ·refine .inl ⟨hon,v,by rw [hi]; exact hvi, ?_⟩
    rw [hkd] at hk ⊢
    rw [he]; exact hk
   ·exact .inr ⟨hoff,by rw [hi]; exact hvi⟩
 | qo =>
   rcases hold with ⟨hon,v,hvi,hk⟩ | ho
   ·rw [hkd] at hk; exact hk.elim
   ·rw [hkd] at h; exact hoffc h ho
 | read =>
   rw [hkd] at h
   obtain ⟨g2,hg2,hcase⟩:=qJ h
   rw [hg'] at hg2; cases hg2
   rcases hold with ⟨hon,v,hvi,hk⟩ | ho
   ·rcases hcase with ⟨_,hn⟩ | ⟨hoff,_⟩
    ·obtain ⟨v',hgv,hv',hK⟩:=xP hn
     have hgv:kK P r.o (gI T0 wr s.vals r.m) s.M v':=by rcases hgv with hgv | ⟨_,hgv⟩ <;> first | exact hgv _ | exact hgv
     rw [hi,hvi] at hv'
     simp only [Option.getD_some] at hv'
     subst hv'
     refine ⟨hK,g,hg',.inl ⟨hon,v',by rw [hi]; exact hvi, ?_⟩⟩
     rw [hkd]; exact hgv
    ·exact (offon hoff hon).elim
   ·rcases hcase with ⟨hon,_⟩ | ⟨_,hK⟩
    ·exact (offon ho.1 hon).elim
    ·exact hoffc hK ho
 | alloc =>
   rw [hkd] at h
   obtain ⟨g2,hg2,hcase⟩:=qJ h
   rw [hg'] at hg2; cases hg2
   rcases hold with ⟨hon,v,hvi,hk⟩ | ho
   ·rcases hcase with ⟨_,hn⟩ | ⟨hoff,_⟩
    ·obtain ⟨x,mk,hm,hx,hK⟩:=yD hn
     rw [hkd] at hk
     obtain ⟨x0,mk0,b,_,h2,_,_⟩:=hk
     rw [hb,h2] at hx
     simp only [Option.getD_some] at hx
     rw [hi,hvi] at hx
     simp only [Option.getD_some] at hx
     refine ⟨hK,g,hg',.inl ⟨hon,v,by rw [hi]; exact hvi, ?_⟩⟩
     rw [hkd]
     exact ⟨x,mk,b,hm,by rw [hb]; exact h2,hx.1,hx.2⟩
    ·exact (offon hoff hon).elim
   ·rcases hcase with ⟨hon,_⟩ | ⟨_,hK⟩
    ·exact (offon ho.1 hon).elim
    ·exact hoffc hK ho
theorem Fs {lev:Nat} {s s0:mR} {K:Prop} : ∀ (rows:List Row),JA P ops T0 ri lev rows s K →
  (∀ r∈rows,iN r.kd=false→r.lev≤lev→jk ri.ms ri.es (lev + 1) r=true→rf P ops T0 ri.wr s0 r∧(∀ j,Nat.testBit r.m j=true∨j=r.i→s.vals.get j=s0.vals.get j)∧s.bids.get r.i=s0.bids.get r.i) →
  K∧∀ r∈rows,iN r.kd=false→r.lev≤lev→jk ri.ms ri.es (lev + 1) r=true→rf P ops T0 ri.wr s r
 | [],h,_=>⟨h,fun r hr=>by cases hr⟩
 | r :: rows,h,ho=>by
   simp only [JA] at h
   split at h
   ·rename_i hc
    obtain ⟨h1,h2⟩:=Fs rows h fun r' hr'=>ho r' (.tail _ hr')
    refine ⟨h1,fun r' hr' e1 e2 e3=>?_⟩
    rcases List.mem_cons.1 hr' with e | hr'
    ·subst e
     rw [bu.2 e2,e1,e3] at hc
     cases hc
    ·exact h2 r' hr' e1 e2 e3
   ·rename_i hc
    simp only [Bool.and_eq_true,Bool.not_eq_true'] at hc
    obtain ⟨⟨c1,c2⟩,c3⟩:=hc
    obtain ⟨o1,o2,o3⟩:=ho r (.head _) c2 (bC c1) c3
    obtain ⟨h1,h2⟩:=PN h o1 o2 o3
    obtain ⟨h3,h4⟩:=Fs rows h1 fun r' hr'=>ho r' (.tail _ hr')
    refine ⟨h3,fun r' hr' e1 e2 e3=>?_⟩
    rcases List.mem_cons.1 hr' with e | hr'
    ·subst e; exact h2
    ·exact h4 r' hr' e1 e2 e3
theorem VO {ρ:Ren} {i:gq} {x:RB} {y y' : bU} {ob:Obj} (h:vP x y) (h' : vP x y') (hb:iD P ρ i y ob) : iD P ρ i y' ob:=by
 cases x with
 | row l opn elem fz =>
   cases y <;> first | exact h.elim | skip
   cases y' <;> first | exact h'.elim | skip
   obtain ⟨rfl,rfl,rfl,rfl,h5⟩:=h
   obtain ⟨h1,rfl,rfl,rfl,h5'⟩:=h'
   subst h1
   obtain ⟨c,fr,rfl,hr⟩:=hb
   refine ⟨c,fr,rfl,hr.size,fun k u hk=>?_,hr.free,hr.mark,hr.opn,hr.sh0⟩
   have hlt:=xA hk
   have hv:l[k]?=some l[k]:=by simp [hlt]
   have e1:=h5' k _ hv
   rw [hk] at e1; cases e1
   exact hr.val k _ (h5 k _ hv)
 | ro c=>cases y <;> exact h.elim
 | map es c =>
   cases y <;> first | exact h.elim | skip
   cases y' <;> first | exact h'.elim | skip
   obtain ⟨rfl,rfl⟩:=h
   obtain ⟨rfl,rfl⟩:=h'
   exact hb
 | iter m a b c =>
   cases y <;> first | exact h.elim | skip
   cases y' <;> first | exact h'.elim | skip
   obtain ⟨rfl,rfl,rfl,rfl⟩:=h
   obtain ⟨rfl,rfl,rfl,rfl⟩:=h'
   exact hb
 | siter s p =>
   cases y <;> first | exact h.elim | skip
   cases y' <;> first | exact h'.elim | skip
   obtain ⟨rfl,rfl⟩:=h
   obtain ⟨rfl,rfl⟩:=h'
   exact hb
theorem Ry {ρ:Ren} {M:RM} {w:World} {b:Nat} {x:RB} {y:bU} {ob:Obj} {i:gq} (hw:dM P ρ M w) (hi:i.cb=w.heap.size) (hb:ρ b=none) (hlt:b<M.next) (hx:M.heap b=some x) (hle:vP x y)
  (hrel:iD P ρ i y ob) : dM P (ρ.add b i) M (w.alloc ob)∧Step M.lo b ρ w (ρ.add b i) (w.alloc ob):=by
 obtain ⟨A,hA⟩:=hw
 rcases hA.blk b x hx with ⟨y',hy',hle'⟩ | ⟨c,rfl,_⟩
 ·obtain ⟨h1,h2⟩:=En hA.rel hA.size hi hb (by rw [hA.next]; exact hlt) hy' ((VO hle hle' hrel).mono (Ren.qR hb))
  have:=hA.size
  refine ⟨⟨A,hA.next,h1,by simp; omega,fun c z hz=>?_,fun c hc=>?_⟩,h2⟩
  ·rcases hA.blk c z hz with k | ⟨d,rfl,hlt,elem,fr,hh⟩
   ·exact .inl k
   ·exact .inr ⟨d,rfl,hlt,elem,fr,by rw [heap_alloc_old w ob c (by omega)]; exact hh⟩
  ·unfold Ren.add
   rw [if_neg (fun e=>by subst e; rw [hA.old _ hc] at hb; cases hb)]
   exact hA.old c hc
 ·cases y <;> exact hle.elim
structure Cy (P:Program) (nt:Nat) (ops:Array Oper) (ri:RI) (T0:Tree AV) (M0:RM) (ρ0:Ren) (w0:World) (k:Nat) (done rest:List Nat) (s:mR) (S:Nat→Prop) (ρ:Ren) (a:Act) (w:World) : Prop where
 es:ri.es=done++rest
 len:done.length=k
 closed:Closed ops.toList S
 dn:∀ x∈done,S x
 rs:∀ x∈rest,¬ S x
 lev:∀ (j:Nat) (r:Row),ri.rows[j]?=some r→iN r.kd=false→S j→r.lev≤k
 size:a.tmps.size=nt
 defers:a.defers=[]
 slot:Dn ρ T0 ri.wr s.vals S a
 wrel:dM P ρ s.M w
 step:Step M0.lo M0.next ρ0 w0 ρ w
 base:s.M.base=M0.base
 next:M0.next≤s.M.next
 bid:∀ j b,s.bids.get j=some (some b)→M0.next≤b∧b<s.M.next∧(¬ S j→ρ b=none)∧j<ops.size
 bidne:∀ j1 j2 b,s.bids.get j1=some (some b)→s.bids.get j2=some (some b)→j1=j2
variable {M0:RM} {ρ0:Ren} {w0:World} {k:Nat} {done rest:List Nat} {s:mR} {S:Nat→Prop} {ρ:Ren} {a:Act} {w:World}
theorem SV (ht:lF P nt ops ri) (hI:Cy P nt ops ri T0 M0 ρ0 w0 k done rest s S ρ a w) {i:Nat} {r:Row} (hr:ri.rows[i]?=some r) (hns:¬ S i) (hd:∀ e∈r.o.after.toList,Region.binds .any e=true→S e.on)
  (hok:qA ri r=true) : ∀ x∈r.o.op.operands,aA ρ (gI T0 ri.wr s.vals r.m x) (a.eval x):=by
 intro x hx
 have hx' : Bt ri r x=true:=by
  unfold qA at hok
  exact List.all_eq_true.1 hok x (by simpa using hx)
 cases x with
 | tmp t =>
   obtain ⟨h1,h2⟩:=hI.slot t
   simp only [gI,Act.eval]
   simp only [Bt] at hx'
   cases hw:ri.wr.get t with
   | none =>
     simp only
     exact h2 fun j hj=>by rw [hw] at hj; cases hj
   | some j =>
     rw [hw] at hx'
     simp only
     cases hb:Nat.testBit r.m j with
     | true =>
       simp only
       exact h1 j hw (ht.ahead hI.closed hr hd hb)
     | false =>
       simp only
       refine h2 fun j' hj'=>?_
       rw [hw] at hj'; cases hj'
       simp only [hb,Bool.false_or,Bool.or_eq_true] at hx'
       obtain ⟨e1,_⟩:=ht.row hr
       rcases hx' with hx' | hx'
       ·rw [bH hx',e1]; exact hns
       ·intro hS
        rw [cB,e1] at hx'
        obtain ⟨o,ho,_⟩:=ht.wrs t j hw
        exact hns (ht.y9 hI.closed hS ho hx')
 | const v =>
   simp only [gI,lJ,Act.eval]
   cases hv:jd v with
   | none=>exact .top _
   | some u=>exact jb hv
 | global g=>exact .top _
 | func f=>exact .fn _ _ _ _ _ rfl .nil .nil
theorem FV (ht:lF P nt ops ri) (hI:Cy P nt ops ri T0 M0 ρ0 w0 k done rest s S ρ a w) {i:Nat} {r:Row} (hr:ri.rows[i]?=some r) (hd:∀ e∈r.o.after.toList,Region.binds .any e=true→S e.on) {g:Option (AV × Bool)}
  (hg:guardOf ops ri.wr s.vals r=some g) : (N9 g→Region.wanted r.o (yielded ops a.tmps)=true)∧(EI g→Region.wanted r.o (yielded ops a.tmps)=false):=by
 unfold guardOf at hg
 unfold Region.wanted
 split at hg
 ·rename_i hgu; simp only [hgu]; cases hg
  exact ⟨fun _=>trivial,fun h=>h.elim⟩
 ·rename_i j want hgu
  simp only [hgu]
  split at hg <;> first | (cases hg; done) | skip
  rename_i d hdst
  split at hg <;> first | (cases hg; done) | skip
  rename_i j' hb hwr
  split at hg <;> first | (cases hg; done) | skip
  rename_i he
  cases hg
  have he:=bH he
  subst he
  have hv:=(hI.slot d).1 j' hwr (ht.ahead hI.closed hr hd hb)
  have hyv:yielded ops a.tmps j'=match a.tmps[d]? with | some (.bool b)=>some b | _=>none:=by
   unfold yielded; rw [hdst]; rfl
  have hget:∀ t:Bool,a.tmps.getD d undef=.bool t↔a.tmps[d]?=some (.bool t):=by
   intro t
   rw [Array.getD_eq_getD_getElem?]
   cases hx:a.tmps[d]? with
   | none=>simp [undef]
   | some y=>simp
  have off:(∀ b,a.tmps.getD d undef=.bool b→b≠want)→(yielded ops a.tmps j' == some want)=false:=by
   intro hn
   rw [hyv]
   cases hx:a.tmps[d]? with
   | none=>rfl
   | some y =>
     cases y <;> try rfl
     rename_i b
     have:=hn b ((hget b).2 hx)
     simpa using this
  constructor
  ·intro hon
   simp only [N9] at hon
   rw [hon] at hv
   have hc:=(bg hv).1
   rw [hyv,(hget want).1 hc]; simp
  ·intro hoff
   simp only [EI] at hoff
   refine off fun b hb'=>?_
   rcases hoff with hu | ⟨b',hu,hne⟩
   ·rw [hu] at hv
    obtain ⟨vs,hc,hrl⟩:=y5 hv
    rw [hc] at hb'; cases hb'
   ·rw [hu] at hv
    rw [(bg hv).1] at hb'; cases hb'; exact hne
def Kk (P:Program) (ops:Array Oper) (T0:Tree AV) (ri:RI) (k:Nat) (s:mR) (K:mR→Prop) : List Nat→Prop
 | []=>K s
 | x :: rest=>∃ r,nth ri.rows x=some r∧wL (guardOf ops ri.wr s.vals r) (jE P r.o (gI T0 ri.wr s.vals r.m) s.M) (fun k=>k .undef s.M)
    (fun v M'=>JA P ops T0 ri k ri.rows { vals:=s.vals.set x v,M:=M',bids:=s.bids } (uq P ops T0 ri (k + 1) rest { vals:=s.vals.set x v,M:=M',bids:=s.bids } K))
theorem Ee (ht:lF P nt ops ri) {K:mR→Prop} {es:List Nat} (hf:Fr s.M) (hbd:∀ j b,s.bids.get j=some (some b)→b<s.M.next) (h:uq P ops T0 ri k es s K) :
  ∃ s1,Kk P ops T0 ri k s1 K es∧QK P ops T0 ri k 0 s s1:=by
 cases es with
 | nil =>
   rw [uq] at h
   exact xB ht ri.rows 0 s rfl hf hbd h
 | cons x rest =>
   rw [uq] at h
   obtain ⟨s1,hk,hp⟩:=xB ht ri.rows 0 s rfl hf hbd h
   refine ⟨s1, ?_,hp⟩
   split at hk
   ·cases hk
   ·rename_i r hr
    exact ⟨r,hr,hk⟩
def Xf (P:Program) (ops:Array Oper) (T0:Tree AV) (ri:RI) (k:Nat) (s:mR) : Prop:=∀ r∈ri.rows,iN r.kd=false→jk ri.ms ri.es k r=true→rf P ops T0 ri.wr s r
theorem Ao {acc:List Nat} : ∀ (es:List Edge) (e:Edge),e∈es→Region.binds .any e=true→Nat.testBit (lW acc es) e.on=true∧∀ j,Nat.testBit ((nth acc e.on).getD 0) j=true→Nat.testBit (lW acc es) j=true
 | [],e,h,_=>by cases h
 | x :: es,e,h,hb=>by
   simp only [lW]
   rcases List.mem_cons.1 h with rfl | h
   ·rw [hb]
    simp only
    refine ⟨?_,fun j hj=>?_⟩
    ·rw [Nat.testBit_or,Nat.testBit_or,Nat.testBit_two_pow]; simp
    ·rw [Nat.testBit_or,Nat.testBit_or,hj]; simp
   ·obtain ⟨h1,h2⟩:=Ao (acc:=acc) es e h hb
    split
    ·refine ⟨?_,fun j hj=>?_⟩
     ·rw [Nat.testBit_or,h1]; simp
     ·rw [Nat.testBit_or,h2 j hj]; simp
    ·exact ⟨h1,h2⟩
theorem Ju (ht:lF P nt ops ri) {q:Nat} {r:Row} (hq:ri.rows[q]?=some r) : ∃ pre,(∀ i,i<q→nth pre i=ri.ms[i]?)∧r.m=lW pre r.o.after.toList:=by
 obtain ⟨g1,g2,g3,g4,g5⟩:=ht.row hq
 obtain ⟨pre,h1,h2,h3⟩:=(vK ops.toList []).2 q r.o g2
 simp only [List.length_nil,Nat.zero_add] at h1 h2 h3
 refine ⟨pre,fun i hi=>by rw [cB,h2 i hi,← ht.ms], ?_⟩
 rw [← ht.ms,g3] at h3
 exact Option.some.inj h3
theorem Gq (ht:lF P nt ops ri) {q:Nat} {r:Row} (hq:ri.rows[q]?=some r) {e:Edge} (he:e∈r.o.after.toList) (hb:Region.binds .any e=true) : Nat.testBit r.m e.on=true:=by
 obtain ⟨pre,_,h2⟩:=Ju ht hq
 rw [h2]; exact (Ao _ e he hb).1
theorem NL (ht:lF P nt ops ri) : ∀ (q:Nat) {i:Nat} {r:Row} {o:Oper},ri.rows[q]?=some r→Nat.testBit r.m i=true→ops.toList[i]?=some o→∀ {e:Edge},e∈o.after.toList→Region.binds .any e=true→Nat.testBit r.m e.on=true:=by
 intro q
 induction q using Nat.strongRecOn with
 | _ q ih =>
   intro i r o hq hi ho e he hb
   obtain ⟨g1,g2,g3,g4,g5⟩:=ht.row hq
   obtain ⟨pre,h1,h2⟩:=Ju ht hq
   have hi':=hi
   rw [h2] at hi'
   obtain ⟨e0,he0,hb0,hcase⟩:=vz _ hi'
   have hlt:=ht.edges q r.o g2 e0 he0 hb0
   obtain ⟨r0,hr0,_⟩:=ht.ex (j:=e0.on) (o:=ops.toList[e0.on]'(by have:=(List.getElem?_eq_some_iff.1 g2).1; omega)) (by simp)
   obtain ⟨k1,k2,k3,k4,k5⟩:=ht.row hr0
   have hsub:∀ j,Nat.testBit r0.m j=true→Nat.testBit r.m j=true:=by
    intro j hj
    rw [h2]
    refine (Ao _ e0 he0 hb0).2 j ?_
    rw [h1 e0.on hlt,k3]; exact hj
   rcases hcase with rfl | ⟨m,hm,hmi⟩
   ·rw [k2] at ho; cases ho
    exact hsub _ (Gq ht hr0 he hb)
   ·rw [← cB,h1 e0.on hlt,k3] at hm
    cases hm
    exact hsub _ (ih e0.on hlt hr0 hmi ho he hb)
theorem zM {m m' : Nat} (h:∀ x,Nat.testBit m x=true→Nat.testBit m' x=true) : ∀ (es:List Nat) (i0 b b' : Nat),b≤b'→b'≤i0→kY m es i0 b≤kY m' es i0 b'
 | [],i0,b,b',hb,_=>by simpa [kY] using hb
 | x :: es,i0,b,b',hb,hi=>by
   simp only [kY]
   cases hm:Nat.testBit m x with
   | true =>
     rw [h x hm]
     exact zM h es (i0 + 1) _ _ (Nat.le_refl _) (Nat.le_refl _)
   | false =>
     cases hm' : Nat.testBit m' x with
     | true=>exact zM h es (i0 + 1) b (i0 + 1) (by omega) (Nat.le_refl _)
     | false=>exact zM h es (i0 + 1) b b' hb (by omega)
theorem UZ (ht:lF P nt ops ri) {listed:Array Bool} (hsz:listed.size=ops.size) (hI:Cy P nt ops ri T0 M0 ρ0 w0 k done rest s (dX listed) ρ a w) {i:Nat} {r:Row} (hi:i<ops.size) (hr:ri.rows[i]?=some r)
  (hd:∀ e∈r.o.after.toList,Region.binds .any e=true→dX listed e.on) (hk:iN r.kd=false) (hlev:r.lev≤k) {v:AV} {v' : Value} {ρ' : Ren} {w' : World} (hvi:s.vals.get i=some v) (hv:aA ρ' v v') (hle:ρ.le ρ')
  (hw:dM P ρ' s.M w') (hst:Step M0.lo M0.next ρ w ρ' w') (hbid:∀ j b,s.bids.get j=some (some b)→¬ dX (listed.setIfInBounds i true) j→ρ' b=none) :
  Cy P nt ops ri T0 M0 ρ0 w0 k done rest s (dX (listed.setIfInBounds i true)) ρ' (a.put r.o.dst v') w':=by
 have hS:∀ j,dX (listed.setIfInBounds i true) j↔dX listed j∨j=i:=qc (by omega)
 obtain ⟨e1,e2,_⟩:=ht.row hr
 refine ⟨hI.es,hI.len, ?_,fun x hx=>(hS x).2 (.inl (hI.dn x hx)), ?_, ?_, ?_, ?_, ?_,hw,hI.step.trans hst (Nat.le_refl _),hI.base,hI.next,fun j b hb=>⟨(hI.bid j b hb).1,(hI.bid j b hb).2.1,hbid j b hb,(hI.bid j b hb).2.2.2⟩,hI.bidne⟩
 ·intro j o ho hj e he hb
  rcases (hS j).1 hj with hj | rfl
  ·exact (hS _).2 (.inl (hI.closed j o ho hj e he hb))
  ·rw [e2] at ho; cases ho
   exact (hS _).2 (.inl (hd e he hb))
 ·intro x hx hl
  rcases (hS x).1 hl with hl | rfl
  ·exact hI.rs x hx hl
  ·have:x∈ri.es:=by rw [hI.es]; exact List.mem_append_right _ hx
   rw [ht.qo hr,hk] at this
   cases this
 ·intro j r' hr' hk' hj
  rcases (hS j).1 hj with hj | rfl
  ·exact hI.lev j r' hr' hk' hj
  ·rw [hr] at hr'; cases hr'; exact hlev
 ·cases hdst:r.o.dst <;> simp [Act.put,hI.size]
 ·cases hdst:r.o.dst <;> simp [Act.put,hI.defers]
 ·exact zx ht (fun t=>⟨fun j h1 h2=>((hI.slot t).1 j h1 h2).mono hle,fun h=>((hI.slot t).2 h).mono hle⟩) hI.size hr hv hvi hS
theorem Uj (ht:lF P nt ops ri) {listed:Array Bool} (hsz:listed.size=ops.size) {i:Nat} {rest' : List Nat} (hI:Cy P nt ops ri T0 M0 ρ0 w0 k done (i :: rest') s (dX listed) ρ a w) (hchk:Xf P ops T0 ri k s) {r:Row} (hi:i<ops.size) (hr:ri.rows[i]?=some r)
  (hd:∀ e∈r.o.after.toList,Region.binds .any e=true→dX listed e.on) (hnd:i ∉ rest') {v:AV} {v' : Value} {ρ' : Ren} {w' : World} {M' : RM} (hv:aA ρ' v v') {K:mR→Prop}
  (haft:After P s.M ρ w M' ρ' w') (hre:JA P ops T0 ri k ri.rows { vals:=s.vals.set i v,M:=M',bids:=s.bids } (uq P ops T0 ri (k + 1) rest' { vals:=s.vals.set i v,M:=M',bids:=s.bids } K)) :
  ∃ s3,Cy P nt ops ri T0 M0 ρ0 w0 (k + 1) (done++[i]) rest' s3 (dX (listed.setIfInBounds i true)) ρ' (a.put r.o.dst v') w'∧Xf P ops T0 ri (k + 1) s3∧Kk P ops T0 ri (k + 1) s3 K rest':=by
 have hS:∀ j,dX (listed.setIfInBounds i true) j↔dX listed j∨j=i:=qc (by omega)
 obtain ⟨e1,e2,e3,e4,e5⟩:=ht.row hr
 have hmem:i∈ri.es:=by rw [hI.es]; simp
 have hke:=(ht.qo hr).1 hmem
 have hle:=haft.le hI.wrel
 -- an alive row that was done does not look at the effect
 have hesk:ri.es[k]?=some i:=by
  rw [hI.es,List.getElem?_append_right (by rw [hI.len]; omega),hI.len]; simp
 have notin:∀ r'∈ri.rows,r'.lev≤k→Nat.testBit r'.m i=true→False:=by
  intro r' hr' hl hb
  obtain ⟨q,hq⟩:=List.mem_iff_getElem?.1 hr'
  obtain ⟨g1,g2,g3,g4,g5⟩:=ht.row hq
  have key:∀ (es:List Nat) (i0 best k:Nat),es[k]?=some i→i0 + k + 1≤kY r'.m es i0 best:=by
   intro es
   induction es with
   | nil=>intro i0 best k h; simp at h
   | cons x es ih =>
     intro i0 best k h
     simp only [kY]
     cases k with
     | zero =>
       simp at h; subst h
       rw [hb]
       simp only
       have mono:∀ (es:List Nat) (j best:Nat),best≤j→best≤kY r'.m es j best:=by
        intro es
        induction es with
        | nil=>intro j best _; exact Nat.le_refl _
        | cons y es ih2 =>
          intro j best hbj
          simp only [kY]
          split
          ·exact Nat.le_trans (by omega) (ih2 (j + 1) (j + 1) (Nat.le_refl _))
          ·exact ih2 (j + 1) best (by omega)
       exact mono es (i0 + 1) (i0 + 1) (Nat.le_refl _)
     | succ k =>
       split
       ·have:=ih (i0 + 1) (i0 + 1) k (by simpa using h); omega
       ·have:=ih (i0 + 1) best k (by simpa using h); omega
  have:=key ri.es 0 0 k hesk
  rw [← g4] at this
  omega
 obtain ⟨hstage,hrows⟩:=Fs (s0:=s) ri.rows hre fun r' hr' f1 f2 f3=>by
  refine ⟨hchk r' hr' f1 ?_,fun j hj=>?_,rfl⟩
  ·unfold jk at f3 ⊢
   rw [Bool.and_eq_true] at f3 ⊢
   refine ⟨bu.2 f2, ?_⟩
   have f4:=f3.2
   rw [List.all_eq_true] at f4 ⊢
   intro x hx
   refine f4 x ?_
   have:=List.take_subset_take_left ri.es (Nat.le_succ k)
   exact this hx
  ·simp only [Tree.bG]
   rw [if_neg]
   rintro rfl
   rcases hj with hj | hj
   ·exact notin r' hr' f2 hj
   ·obtain ⟨q,hq⟩:=List.mem_iff_getElem?.1 hr'
    obtain ⟨g1,_⟩:=ht.row hq
    have:q=j:=by omega
    subst this
    rw [hr] at hq; cases hq
    rw [f1] at hke; cases hke
 obtain ⟨s3,hcont,hp⟩:=Ee (s := { vals:=s.vals.set i v,M:=M',bids:=s.bids }) ht (haft.rel.fr) (fun j b hb=>Nat.lt_of_lt_of_le (hI.bid j b hb).2.1 haft.next) hstage
 have hkeep:∀ j,dX listed j∨j=i→s3.vals.get j=(s.vals.set i v).get j:=by
  intro j hj
  refine (hp.keep j fun r' hr' _=>?_).1
  rintro ⟨hl,hk'⟩
  rcases hj with hj | rfl
  ·have:=hI.lev j r' hr' hk' hj; omega
  ·rw [hr] at hr'; cases hr'; rw [hke] at hk'; cases hk'
 have hvi:s3.vals.get i=some v:=by rw [hkeep i (.inr rfl),Tree.bG,if_pos rfl]
 refine ⟨s3,⟨by rw [hI.es]; simp,by simp [hI.len], ?_, ?_, ?_, ?_, ?_, ?_, ?_,hp.rel _ _ haft.rel,hI.step.trans (haft.step.Od hI.base) hI.next, ?_, ?_, ?_, ?_⟩, ?_,hcont⟩
 ·intro j o ho hj e he hb
  rcases (hS j).1 hj with hj | rfl
  ·exact (hS _).2 (.inl (hI.closed j o ho hj e he hb))
  ·rw [e2] at ho; cases ho
   exact (hS _).2 (.inl (hd e he hb))
 ·intro x hx
  rcases List.mem_append.1 hx with hx | hx
  ·exact (hS x).2 (.inl (hI.dn x hx))
  ·simp at hx; subst hx; exact (hS x).2 (.inr rfl)
 ·intro x hx hl
  rcases (hS x).1 hl with hl | rfl
  ·exact hI.rs x (.tail _ hx) hl
  ·exact hnd hx
 ·intro j r' hr' hk' hj
  rcases (hS j).1 hj with hj | rfl
  ·have:=hI.lev j r' hr' hk' hj; omega
  ·rw [hr] at hr'; cases hr'; rw [hke] at hk'; cases hk'
 ·cases hdst:r.o.dst <;> simp [Act.put,hI.size]
 ·cases hdst:r.o.dst <;> simp [Act.put,hI.defers]
 ·refine zx ht (v:=v) (S:=dX listed) (fun t=>⟨fun j h1 h2=>?_,fun h=>((hI.slot t).2 h).mono hle⟩) hI.size hr hv hvi hS
  rw [hkeep j (.inl h2),Tree.bG]
  split
  ·rename_i e
   subst e
   exact absurd h2 (hI.rs j (.head _))
  ·exact ((hI.slot t).1 j h1 h2).mono hle
 ·rw [hp.sub.1,← hI.base]; exact haft.base
 ·exact Nat.le_trans hI.next (Nat.le_trans haft.next hp.next)
 ·intro j b hb
  rcases hp.bids j b hb with h | ⟨h,h',_,r',hr'⟩
  ·obtain ⟨b1,b2,b3,b4⟩:=hI.bid j b h
   refine ⟨b1,Nat.lt_of_lt_of_le b2 (Nat.le_trans haft.next hp.next),fun hj=>?_,b4⟩
   rw [haft.step.ext b b2]
   exact b3 fun hl=>hj ((hS j).2 (.inl hl))
  ·refine ⟨Nat.le_trans hI.next (Nat.le_trans haft.next h),h',fun _=>haft.rel.fresh h, ?_⟩
   obtain ⟨g1,g2,_⟩:=ht.row hr'
   have:=(List.getElem?_eq_some_iff.1 g2).1
   rw [Array.length_toList] at this
   exact this
 ·intro j1 j2 b h1 h2
  rcases Nat.lt_or_ge b M'.next with hlt | hge
  ·have q:∀ j,s3.bids.get j=some (some b)→s.bids.get j=some (some b):=by
    intro j hj
    rcases hp.bids j b hj with k | ⟨k1,_⟩
    ·exact k
    ·simp only at k1; omega
   exact hI.bidne j1 j2 b (q j1 h1) (q j2 h2)
  ·exact hp.bidne j1 j2 b h1 h2 hge
 ·intro r' hr' f1 f3
  obtain ⟨q,hq⟩:=List.mem_iff_getElem?.1 hr'
  obtain ⟨g1,g2,g3,g4,g5⟩:=ht.row hq
  have f3':=f3
  unfold jk at f3'
  rw [Bool.and_eq_true] at f3'
  have hl:=bC f3'.1
  by_cases he:r'.lev=k + 1
  ·exact hp.done q r' hq (Nat.zero_le _) he f1
  ·have hl' : r'.lev≤k:=by omega
   refine (hrows r' hr' f1 hl' f3).keep (fun j hj=>?_) ?_ hp.sub
   ·refine (hp.keep j fun r2 hr2 _=>?_).1
    rintro ⟨h1,h2⟩
    rcases hj with hj | hj
    ·
     have hjm:r2.lev≤r'.lev:=by
      obtain ⟨q1,q2,q3,q4,q5⟩:=ht.row hr2
      have sub:∀ x,Nat.testBit r2.m x=true→Nat.testBit r'.m x=true:=by
       intro x hx
       have hcl:Closed ops.toList (fun i=>Nat.testBit r'.m i=true∨i=q):=by
        intro i o ho hi e he' hb'
        rcases hi with hi | rfl
        ·exact .inl (NL ht _ hq hi ho he' hb')
        ·rw [g2] at ho; cases ho
         exact .inl (Gq ht hq he' hb')
       rcases ht.y9 hcl (.inl hj) q2 (by rw [q3]; exact hx) with h | h
       ·exact h
       ·subst h
        exfalso
        have hlt:j<x:=by
         have hc:Closed ops.toList (fun i=>i<x):=fun i o ho hi e he' hb'=>by have:=ht.edges i o ho e he' hb'; omega
         exact ht.ahead hc hq (fun e he' hb'=>ht.edges x r'.o g2 e he' hb') hj
        have hlt2:x<j:=by
         have hc:Closed ops.toList (fun i=>i<j):=fun i o ho hi e he' hb'=>by have:=ht.edges i o ho e he' hb'; omega
         exact ht.ahead hc hr2 (fun e he' hb'=>ht.edges j r2.o q2 e he' hb') hx
        omega
      rw [q4,g4]
      exact zM sub ri.es 0 0 0 (Nat.le_refl _) (Nat.le_refl _)
     omega
    ·have:q=j:=by omega
     subst this
     rw [hq] at hr2; cases hr2; omega
   ·refine (hp.keep r'.i fun r2 hr2 _=>?_).2
    rw [g1,hq] at hr2; cases hr2
    rintro ⟨h1,_⟩; omega
theorem Ri (hP:DZ P) (ht:lF P nt ops ri) (hslots:∀ r∈ri.rows,qA ri r=true) {Q:Exit→Act→World→Prop} {K:mR→Prop}
  (hQ:∀ s ρ' a' w',K s→Step M0.lo M0.next ρ0 w0 ρ' w'→eY ρ' nt (xN T0 s.vals ri.rows) a'→dM P ρ' s.M w'→s.M.base=M0.base→M0.next≤s.M.next→Q .normal a' w') :
  ∀ (fuel:Nat) (listed:Array Bool) (k:Nat) (done rest:List Nat) (s:mR) (ρ:Ren) (a:Act) (w:World),listed.size=ops.size→listed.toList.count false≤fuel →
    Cy P nt ops ri T0 M0 ρ0 w0 k done rest s (dX listed) ρ a w→Xf P ops T0 ri k s→Kk P ops T0 ri k s K rest→wpAny P .any ops Q fuel listed a w:=by
 have fin:∀ (listed:Array Bool) (k:Nat) (done rest:List Nat) (s:mR) (ρ:Ren) (a:Act) (w:World),listed.size=ops.size→(∀ i,i<ops.size→dX listed i) →
   Cy P nt ops ri T0 M0 ρ0 w0 k done rest s (dX listed) ρ a w→Kk P ops T0 ri k s K rest→Q .normal a w:=by
  intro listed k done rest s ρ a w hsz hall hI hcont
  have hrest:rest=[]:=by
   cases rest with
   | nil=>rfl
   | cons x rest =>
     have hx:x∈ri.es:=by rw [hI.es]; simp
     rw [ht.es,nU] at hx
     obtain ⟨j,o,hj,rfl,_⟩:=hx
     have:=(List.getElem?_eq_some_iff.1 hj).1
     exact absurd (hall (0 + j) (by simpa using this)) (hI.rs _ (.head _))
  subst hrest
  have hcont:K s:=hcont
  refine hQ s ρ a w hcont hI.step ⟨hI.size,fun t=>?_,hI.defers⟩ hI.wrel hI.base hI.next
  obtain ⟨g1,g2⟩:=hI.slot t
  refine zB t _ ri.rows T0 (fun r hr hd=>?_) ?_
  ·obtain ⟨q,hq⟩:=List.mem_iff_getElem?.1 hr
   obtain ⟨e1,e2,_⟩:=ht.row hq
   have hql:=(List.getElem?_eq_some_iff.1 e2).1
   have:=g1 r.i (ht.dst q r hq t hd).1 (by rw [e1]; exact hall q (by simpa using hql))
   exact this
  ·by_cases hex:∃ j,ri.wr.get t=some j
   ·obtain ⟨j,hj⟩:=hex
    obtain ⟨o,ho,hdo⟩:=ht.wrs t j hj
    obtain ⟨r,hr,rfl⟩:=ht.ex ho
    exact .inl ⟨r,List.mem_of_getElem? hr,hdo⟩
   ·exact .inr (g2 fun j hj=>absurd ⟨j,hj⟩ hex)
 intro fuel
 induction fuel with
 | zero =>
   intro listed k done rest s ρ a w hsz hcnt hI hchk hcont
   have hall:∀ i,i<ops.size→dX listed i:=fun i hi=>Gv (by omega) (by omega)
   refine ⟨?_,fin listed k done rest s ρ a w hsz hall hI hcont⟩
   rw [List.eq_nil_iff_forall_not_mem]
   intro i hi
   obtain ⟨h1,h2,_⟩:=xh hsz hi
   exact h2 (hall i h1)
 | succ fuel ih =>
   intro listed k done rest s ρ a w hsz hcnt hI hchk hcont
   refine ⟨fun hr=>fin listed k done rest s ρ a w hsz (Bb ht hsz hr) hI hcont,fun i hi=>?_⟩
   obtain ⟨hilt,hnl,o,ho,hd⟩:=xh hsz hi
   obtain ⟨r,hr,rfl⟩:=ht.ex (j:=i) (o:=o) (by rw [Array.getElem?_toList]; exact ho)
   obtain ⟨e1,e2,e3,e4,e5⟩:=ht.row hr
   have hrm:=List.mem_of_getElem? hr
   have he:=SV ht hI hr hnl hd (hslots r hrm)
   unfold wpOp
   simp only [ho]
   cases hk:iN r.kd with
   | false =>
     have hall:jk ri.ms ri.es k r=true:=by
      unfold jk
      rw [Bool.and_eq_true,List.all_eq_true]
      constructor
      ·rw [bu,e4]
       rcases vw (m:=r.m) ri.es 0 0 with h | ⟨q,x,a1,a2,a3⟩
       ·omega
       ·have hx:=ht.ahead hI.closed hr hd a2
        rw [a3]
        rcases Nat.lt_or_ge q k with h | h
        ·omega
        ·rw [hI.es,List.getElem?_append_right (by rw [hI.len]; exact h)] at a1
         exact absurd hx (hI.rs x (List.mem_of_getElem? a1))
      ·intro x hx
       rw [hI.es,List.take_left' hI.len] at hx
       rw [Bool.not_eq_true',← Bool.not_eq_true,e1,cB]
       intro hb
       have hxe:x∈ri.es:=by rw [hI.es]; exact List.mem_append_left _ hx
       rw [ht.es,nU] at hxe
       obtain ⟨j,o',hj,hxj,_⟩:=hxe
       rw [Nat.zero_add] at hxj; subst hxj
       exact hnl (ht.y9 hI.closed (hI.dn x hx) hj hb)
     have hlev:r.lev≤k:=by
      unfold jk at hall
      rw [Bool.and_eq_true] at hall
      exact bC hall.1
     have hok:=hchk r hrm hk hall
     have hnb:∀ j b,s.bids.get j=some (some b)→¬ dX (listed.setIfInBounds i true) j→ρ b=none:=fun j b hb hj =>
      (hI.bid j b hb).2.2.1 fun hl=>hj ((qc (by omega) j).2 (.inl hl))
     have next:∀ {v:AV} {v' : Value} {ρ' : Ren} {w' : World},s.vals.get i=some v→aA ρ' v v'→ρ.le ρ'→dM P ρ' s.M w'→Step M0.lo M0.next ρ w ρ' w' →
       (∀ j b,s.bids.get j=some (some b)→¬ dX (listed.setIfInBounds i true) j→ρ' b=none)→wpAny P .any ops Q fuel (listed.setIfInBounds i true) (a.put r.o.dst v') w':=by
      intro v v' ρ' w' hvi hv hle hw hst hb
      exact ih _ k done rest s ρ' _ w' (by simpa using hsz) (count_set (by omega) hnl hcnt) (UZ ht hsz hI hilt hr hd hk hlev hvi hv hle hw hst hb) hchk hcont
     have hrefl:ρ.le ρ:=fun _ _ h=>h
     obtain ⟨g,hg,hcase⟩:=hok
     obtain ⟨gon,goff⟩:=FV ht hI hr hd hg
     rw [e1] at hcase
     rcases hcase with ⟨hon,v,hvi,hkd⟩ | ⟨hoff,hvi⟩
     ·rw [gon hon]
      simp only [if_true]
      refine .inl ?_
      have val:kK P r.o (gI T0 ri.wr s.vals r.m) s.M v→r.o.wp P a w (wpAny P .any ops Q fuel (listed.setIfInBounds i true)) Q:=by
       intro hgv
       obtain ⟨v',h1,h2⟩:=hgv ρ w a.eval s.M (RM.Sub.refl _) hI.wrel he
       exact j5 r.o h1 (next hvi h2 hrefl hI.wrel (Step.refl _ _ _) hnb)
      cases hkk:r.kd with
      | pure=>rw [hkk] at hkd; exact val (hkd _)
      | read=>rw [hkk] at hkd; exact val hkd
      | qo=>rw [hkk] at hkd; exact hkd.elim
      | alloc =>
        rw [hkk] at hkd
        obtain ⟨x,mk,b,⟨y,hx,hle⟩,hbi,hy,hmk⟩:=hkd
        obtain ⟨d,ob,u,inf,hrun,hinf,hrel,hmkv⟩:=oV he hx w
        obtain ⟨b1,b2,b3,b4⟩:=hI.bid i b hbi
        have hbn:=b3 hnl
        have hd' : dM P ρ s.M (if d=true then w.drew else w):=by cases d <;> simp [hI.wrel,hI.wrel.drew]
        have hsz' : (if d=true then w.drew else w).heap.size=w.heap.size:=by cases d <;> simp
        have hst' : Step M0.lo M0.next ρ w ρ (if d=true then w.drew else w):=by cases d <;> simp [Step.refl,Step.drew]
        obtain ⟨h1,h2⟩:=Ry hd' (by omega) hbn b2 hy hle hrel
        replace h2:=h2.Od hI.base
        refine j5 r.o hrun (next hvi (hmk▸hmkv _ b (by simp [Ren.add])) (Ren.qR hbn) h1 (hst'.trans h2 b1) fun j b' hb' hj=>?_)
        have hne:b'≠b:=by
         intro e
         subst e
         have hji:j≠i:=fun e=>hj ((qc (by omega) j).2 (.inr e))
         exact hji (hI.bidne j i b' hb' hbi)
        unfold Ren.add
        rw [if_neg hne]
        exact hnb j b' hb' hj
     ·rw [goff hoff]
      simp only [Bool.false_eq_true,if_false]
      exact next hvi (.tup _ _ .nil) hrefl hI.wrel (Step.refl _ _ _) hnb
   | true =>
     have hie:i∈ri.es:=(ht.qo hr).2 hk
     rw [hI.es] at hie
     have hir:i∈rest:=by
      rcases List.mem_append.1 hie with h | h
      ·exact absurd (hI.dn i h) hnl
      ·exact h
     cases rest with
     | nil=>cases hir
     | cons x rest' =>
       have hxi:x=i:=by
        rcases List.mem_cons.1 hir with e | hm
        ·exact e.symm
        ·obtain ⟨l1,l2,hl⟩:=List.append_of_mem hm
         have:=ht.chain (done++x :: l1) i l2 (by rw [hI.es,hl]; simp) x (by simp)
         rw [e3] at this
         exact absurd (ht.ahead hI.closed hr hd this) (hI.rs x (.head _))
       subst hxi
       have hnd:x ∉ rest':=by
        intro hm
        obtain ⟨l1,l2,hl⟩:=List.append_of_mem hm
        have:=ht.chain (done++x :: l1) x l2 (by rw [hI.es,hl]; simp) x (by simp)
        rw [e3] at this
        exact hnl (ht.ahead hI.closed hr hd this)
       obtain ⟨r',hr',hgs⟩:=hcont
       rw [cB,hr] at hr'; cases hr'
       obtain ⟨g,hg,hcase⟩:=qJ hgs
       obtain ⟨gon,goff⟩:=FV ht hI hr hd hg
       have next:∀ {v:AV} {v' : Value} {ρ' : Ren} {w' : World} {M' : RM},aA ρ' v v'→After P s.M ρ w M' ρ' w' →
         JA P ops T0 ri k ri.rows { vals:=s.vals.set x v,M:=M',bids:=s.bids } (uq P ops T0 ri (k + 1) rest' { vals:=s.vals.set x v,M:=M',bids:=s.bids } K) →
         wpAny P .any ops Q fuel (listed.setIfInBounds x true) (a.put r.o.dst v') w':=by
        intro v v' ρ' w' M' hv haft hre
        obtain ⟨s3,h1,h2,h3⟩:=Uj ht hsz hI hchk hilt hr hd hnd hv haft hre
        exact ih _ (k + 1) _ rest' s3 ρ' _ w' (by simpa using hsz) (count_set (by omega) hnl hcnt) h1 h2 h3
       rcases hcase with ⟨hon,hn⟩ | ⟨hoff,hn⟩
       ·rw [gon hon]
        simp only [if_true]
        exact .inl (Oo (DX hP (fun _=>rfl) hn) hI.wrel he fun v v' M' ρ' w' haft hv hk=>next hv haft hk)
       ·rw [goff hoff]
        simp only [Bool.false_eq_true,if_false]
        exact next (.tup _ _ .nil) (After.refl hI.wrel) hn
theorem Fa {vals:Tree AV} {t:Nat} : ∀ (rows:List Row) (T:Tree AV),(∀ r∈rows,r.o.dst≠some t)→(xN T vals rows).get t=T.get t
 | [],T,_=>rfl
 | r :: rows,T,h=>by
   simp only [xN]
   cases hd:r.o.dst with
   | none=>exact Fa rows T fun r' hr'=>h r' (.tail _ hr')
   | some d =>
     simp only
     rw [Fa rows _ fun r' hr'=>h r' (.tail _ hr'),Tree.bG,if_neg]
     intro e; subst e
     exact h r (.head _) hd
theorem NK (hP:DZ P) {id:Nat} {T:Tree AV} {M:RM} {K:Tree AV→RM→Prop} {Q:Exit→Act→World→Prop} (hM:After P M0 ρ0 w0 M ρ w) (hA:eY ρ nt T a)
  (hQ:∀ T' M' ρ' a' w',After P M0 ρ0 w0 M' ρ' w'→eY ρ' nt T' a'→K T' M'→(∀ t,(∀ o∈ops.toList,o.dst≠some t)→T'.get t=T.get t)→Q .normal a' w') (h:Qk P nt ops T M K) : (Code.region id ops true).wp P Q a w:=by
 unfold Qk at h
 split at h <;> first | (cases h; done) | skip
 rename_i ri hri
 split at h <;> first | (cases h; done) | skip
 rename_i hslots
 have ht:=yP hri
 obtain ⟨s1,h1,hp⟩:=Ee ht hM.rel.fr (fun j b hb=>by simp [Tree.get] at hb) h
 have hno:∀ i,¬ dX (Array.replicate ops.size false) i:=by
  intro i h
  unfold dX at h
  simp only [Array.getD_eq_getD_getElem?,Array.getElem?_replicate] at h
  split at h <;> simp at h
 refine wp_region_any hP.mixed (Ri (M0:=M0) (ρ0:=ρ0) (w0:=w0) (T0:=T) hP ht (fun r hr=>List.all_eq_true.1 hslots r hr) (fun s ρ' a' w' k0 k1 k2 k3 k4 k5=>hQ _ _ ρ' a' w' ⟨k1,k3,k4,k5⟩ k2 k0 (fun t hnt=>Fa ri.rows T fun r hr=>by
   obtain ⟨q,hq⟩:=List.mem_iff_getElem?.1 hr
   exact hnt r.o (List.mem_of_getElem? (ht.row hq).2.1))) ops.size _ 0 [] ri.es s1 ρ a _ (by simp) (by simp) ?_ ?_ h1)
 ·refine ⟨rfl,rfl,fun i o _ hi=>absurd hi (hno i),(fun x hx=>by cases hx),fun x _=>hno x,fun j r _ _ hj=>absurd hj (hno j),hA.size,hA.defers,fun t=>⟨fun j _ hj=>absurd hj (hno j),fun _=>hA.val t⟩,hp.rel _ _ hM.rel.drew,hM.step.trans (Step.drew (n:=M0.next)) (Nat.le_refl _),by rw [hp.sub.1]; exact hM.base,Nat.le_trans hM.next hp.next,fun j b hb'=>?_,fun j1 j2 b b1 b2=>?_⟩
  ·rcases hp.bids j b hb' with h | ⟨h,h',_,r,hr⟩
   ·simp [Tree.get] at h
   ·refine ⟨Nat.le_trans hM.next h,h',fun _=>hM.rel.fresh h, ?_⟩
    obtain ⟨g1,g2,_⟩:=ht.row hr
    have:=(List.getElem?_eq_some_iff.1 g2).1
    rw [Array.length_toList] at this
    exact this
  ·rcases hp.bids j1 b b1 with h | ⟨h,_⟩
   ·simp [Tree.get] at h
   ·exact hp.bidne j1 j2 b b1 b2 h
 ·intro r hr hk hal
  obtain ⟨q,hq⟩:=List.mem_iff_getElem?.1 hr
  unfold jk at hal
  rw [Bool.and_eq_true] at hal
  exact hp.done q r hq (Nat.zero_le _) (by have:=bC hal.1; omega) hk
end
end Go.Ab
set_option linter.unusedVariables false
set_option linter.unusedSimpArgs false
namespace Go.Ab
open Go Go.RowKit
def Lt:Option Tmp→Nat
 | some d=>2 ^ d
 | none=>0
def RN:Operand→Nat
 | .tmp t=>2 ^ t
 | _=>0
def Tc:List Operand→Nat
 | []=>0
 | x :: xs=>RN x ||| Tc xs
def Uo (L m:Nat) : Nat:=L ^^^ (L &&& m)
def GD:List Oper→Nat
 | []=>0
 | o :: os=>Lt o.dst ||| GD os
def gF:Nat→Code→Nat
 | 0,_=>0
 | f + 1,c=>match c with
   | .region _ ops _=>GD ops.toList
   | .seq a b=>gF f a ||| gF f b
   | .cond _ a b=>gF f a ||| gF f b
   | .block _ c=>gF f c
   | .loop c=>gF f c
   | .scope c=>gF f c
   | _=>0
def NY:List Oper→Nat→Nat
 | [],L=>L
 | o :: os,L=>Uo (NY os L) (Lt o.dst) ||| Tc o.op.operands.toList
def Rc:List (Nat × Nat)→Nat→Nat
 | [],_=>0
 | (i,L) :: r,id=>match Nat.beq i id with
   | true=>L
   | false=>Rc r id
def gN (ret:Nat) : Nat→List (Nat × Nat)→Code→Nat→Nat
 | 0,_,_,_=>0
 | f + 1,env,c,L=>match c with
   | .skip=>L
   | .region _ ops _=>NY ops.toList L
   | .seq a b=>gN ret f env a (gN ret f env b L)
   | .cond c a b=>RN c ||| gN ret f env a L ||| gN ret f env b L
   | .block id c=>gN ret f ((id,L) :: env) c L
   | .loop c=>gN ret f env c (gN ret f env c 0)
   | .exit id=>Rc env id
   | .ret=>ret
   | .scope c=>gN ret f env c L
   | .label _=>L
   | _=>0
def cap2 (n:Nat) : Nat:=match n with | 0=>0 | 1=>1 | _=>2
def sD (id:Nat) : Nat→Code→Nat
 | 0,_=>2
 | f + 1,c=>match c with
   | .seq a b=>cap2 (sD id f a + sD id f b)
   | .cond _ a b=>cap2 (sD id f a + sD id f b)
   | .block _ c=>sD id f c
   | .loop c=>sD id f c
   | .exit i=>match Nat.beq i id with | true=>1 | false=>0
   | _=>0
def wD:Nat→Code→Nat
 | 0,_=>2
 | f + 1,c=>match c with
   | .skip=>1
   | .region _ _ _=>1
   | .seq a b=>cap2 (wD f a * wD f b)
   | .cond _ a b=>cap2 (wD f a + wD f b)
   | .block id c=>cap2 (wD f c + sD id f c)
   | .scope c=>wD f c
   | .label _=>1
   | _=>0
def zi (m:Nat) : Nat→Nat→List Nat
 | _,0=>[]
 | i,n + 1=>match Nat.testBit m i with
   | true=>i :: zi m (i + 1) n
   | false=>zi m (i + 1) n
def bitsOf (m nt:Nat) : List Nat:=zi m 0 nt
def yB (T:Tree AV) : List Nat→List AV
 | []=>[]
 | t :: ts=>(T.get t).getD .top :: yB T ts
def aa:List AV→Nat→AV
 | [],_=>.top
 | x :: _,0=>x
 | _ :: xs,n + 1=>aa xs n
def zV (T:Tree AV) : List Nat→Tree AV
 | []=>T
 | t :: ts=>zV (T.set t .top) ts
def KI (T:Tree AV) (xs:List AV) : Nat→List Nat→Tree AV
 | _,[]=>T
 | i,t :: ts=>KI (T.set t (aa xs i)) xs (i + 1) ts
def zY (T:Tree AV) (asg vs:List Nat) (xs:List AV) : Tree AV:=KI (zV T asg) xs 0 vs
def ay (x:AV) (p q:Prop) : Prop :=
 match x with
 | .sc (.bool b)=>(b=true→p)∧(b=false→q)
 | _=>False
def bX (f:(List AV→RM→Prop)→Prop) (g:List AV→RM→Prop) : Prop:=f g
def aU (body:(List AV→RM→Prop)→List AV→RM→Prop) (xs:List AV) (M:RM) : Prop :=
 ∃ (I:Nat→List AV→RM→Prop) (n:Nat),I n xs M∧∀ m ys M',I m ys M'→body (fun zs M''=>∃ m',m'<m∧I m' zs M'') ys M'
abbrev K3:=Ex→Tree AV→RM→Prop
def wpC (P:Program) (nt ret:Nat) : Nat→Code→List (Nat × Nat)→Nat→Tree AV→RM→K3→Prop
 | 0,_,_,_,_,_,_=>False
 | f + 1,c,env,L,T,M,K=>match c with
   | .skip=>K .normal T M
   | .region _ ops false=>II P nt ops ops.toList T M (fun T' M'=>K .normal T' M')
   | .region _ ops true=>Qk P nt ops T M (fun T' M'=>K .normal T' M')
   | .seq a b=>match Nat.ble (wD f a) 1 with
     | true=>wpC P nt ret f a env (gN ret f env b L) T M (fun e T' M'=>match e with
       | .normal=>wpC P nt ret f b env L T' M' K
       | e=>K e T' M')
     | false=>bX (fun J=>wpC P nt ret f a env (gN ret f env b L) T M (fun e T' M'=>match e with
       | .normal=>J (yB T' (bitsOf (gF f a &&& gN ret f env b L) nt)) M'
       | e=>K e T' M'))
       (fun xs M'=>wpC P nt ret f b env L (zY T (bitsOf (gF f a) nt) (bitsOf (gF f a &&& gN ret f env b L) nt) xs) M' K)
   | .cond c a b=>ay (lJ T c) (wpC P nt ret f a env L T M K) (wpC P nt ret f b env L T M K)
   | .block id c=>wpC P nt ret f c ((id,L) :: env) L T M (fun e T' M'=>match e with
     | .exit i=>match Nat.beq i id with
       | true=>K .normal T' M'
       | false=>K (.exit i) T' M'
     | e=>K e T' M')
   | .loop c=>aU (fun next xs M'=>wpC P nt ret f c env (gN ret f env c (gN ret f env c 0)) (zY T (bitsOf (gF f c) nt) (bitsOf (gF f c &&& gN ret f env c (gN ret f env c 0)) nt) xs) M'
     (fun e T' M'=>match e with
      | .normal=>next (yB T' (bitsOf (gF f c &&& gN ret f env c (gN ret f env c 0)) nt)) M'
      | e=>K e T' M'))
     (yB T (bitsOf (gF f c &&& gN ret f env c (gN ret f env c 0)) nt)) M
   | .exit id=>K (.exit id) T M
   | .ret=>K .ret T M
   | .scope c=>wpC P nt ret f c env L T M K
   | .label _=>K .normal T M
   | _=>False
def TZ (P:Program) (T:Tree AV) (M:RM) (r:ResultVar) (K:AV→Prop) : Prop :=
 match r with
 | .tmp t=>K ((T.get t).getD .top)
 | .cell a t=>match iE P t with
   | some false=>ax M ((T.get a).getD .top) K
   | some true=>match bE P t with
     | some n=>aB M ((T.get a).getD .top) n K
     | none=>False
   | none=>False
def TT (P:Program) (T:Tree AV) (M:RM) : List ResultVar→(List AV→Prop)→Prop
 | [],K=>K []
 | r :: rs,K=>TZ P T M r (fun v=>TT P T M rs (fun vs=>K (v :: vs)))
def WR (Q:ah) (M:RM) : List AV→Prop
 | [v]=>Q v M
 | vs=>Q (.tup vs) M
def Ho:List ResultVar→Nat
 | []=>0
 | .tmp t :: rs=>2 ^ t ||| Ho rs
 | .cell a _ :: rs=>2 ^ a ||| Ho rs
def RO (P:Program) (fn:Func) (c:Code) (args:List AV) (M:RM) (Q:ah) : Prop :=
 wpC P (args.length + (fn.ntmps - args.length)) (Ho fn.results.toList) 1000 c [] 0 (Tree.ofList args 0 .leaf) M
  (fun e T M'=>match e with
   | .exit _=>False
   | _=>TT P T M' fn.results.toList (WR Q M'))
section
variable {P:Program} {nt ret:Nat}
def PX (P:Program) (nt:Nat) (M0:RM) (ρ0:Ren) (w0:World) (T:Tree AV) (asg:Nat) (K:K3) (e:Exit) (a:Act) (w:World) : Prop :=
 ∃ x T' M' ρ',e=I8 x∧After P M0 ρ0 w0 M' ρ' w∧eY ρ' nt T' a∧(∀ t,Nat.testBit asg t=false→T'.get t=T.get t)∧K x T' M'
theorem Mx {T:Tree AV} : ∀ (vs:List Nat) (i:Nat),aa (yB T vs) i=match vs[i]? with | some t=>(T.get t).getD .top | none=>.top
 | [],i=>by simp [yB,aa]
 | t :: vs,0=>by simp [yB,aa]
 | t :: vs,i + 1=>by simp [yB,aa,Mx vs i]
theorem BG:∀ (asg:List Nat) (T:Tree AV) (t:Nat),(zV T asg).get t=if t∈asg then some .top else T.get t
 | [],T,t=>by simp [zV]
 | d :: asg,T,t=>by
   simp only [zV,BG asg,Tree.bG,List.mem_cons]
   by_cases h1:t∈asg
   ·simp [h1]
   ·by_cases h2:t=d <;> simp [h1,h2]
theorem EW:∀ (vs:List Nat) (T:Tree AV) (xs:List AV) (i t:Nat),(t ∉ vs∧(KI T xs i vs).get t=T.get t)∨∃ j,vs[j]?=some t∧(KI T xs i vs).get t=some (aa xs (i + j))
 | [],T,xs,i,t=>.inl ⟨by simp,rfl⟩
 | d :: vs,T,xs,i,t=>by
   simp only [KI]
   rcases EW vs (T.set d (aa xs i)) xs (i + 1) t with ⟨h1,h2⟩ | ⟨j,h1,h2⟩
   ·rw [Tree.bG] at h2
    by_cases e:t=d
    ·rw [if_pos e] at h2
     exact .inr ⟨0,by simp [e],h2⟩
    ·rw [if_neg e] at h2
     exact .inl ⟨by simp [e,h1],h2⟩
   ·exact .inr ⟨j + 1,by simpa using h1,by rw [h2]; congr 2; omega⟩
theorem Au {m:Nat} : ∀ (n i t:Nat),t∈zi m i n↔i≤t∧t<i + n∧Nat.testBit m t=true
 | 0,i,t=>by simp [zi]; omega
 | n + 1,i,t=>by
   simp only [zi]
   split
   ·rename_i h
    rw [List.mem_cons,Au n (i + 1) t]
    constructor
    ·rintro (rfl | ⟨a,b,c⟩)
     ·exact ⟨Nat.le_refl _,by omega,h⟩
     ·exact ⟨by omega,by omega,c⟩
    ·rintro ⟨a,b,c⟩
     by_cases e:t=i
     ·exact .inl e
     ·exact .inr ⟨by omega,by omega,c⟩
   ·rename_i h
    rw [Au n (i + 1) t]
    constructor
    ·rintro ⟨a,b,c⟩; exact ⟨by omega,by omega,c⟩
    ·rintro ⟨a,b,c⟩
     have:t≠i:=fun e=>by subst e; rw [h] at c; cases c
     exact ⟨by omega,by omega,c⟩
theorem vk {m n t:Nat} : t∈bitsOf m n↔t<n∧Nat.testBit m t=true:=by
 unfold bitsOf; rw [Au]; simp
theorem BB {ρ:Ren} {T T' : Tree AV} {a:Act} {asg:Nat} {vs:List Nat} (h:eY ρ nt T' a) (hge:∀ t,nt≤t→aA ρ ((T.get t).getD .top) undef) (hk:∀ t,Nat.testBit asg t=false→T'.get t=T.get t) : eY ρ nt (zY T (bitsOf asg nt) vs (yB T' vs)) a:=by
 refine ⟨h.size,fun t=>?_,h.defers⟩
 unfold zY
 rcases EW vs (zV T (bitsOf asg nt)) (yB T' vs) 0 t with ⟨_,h2⟩ | ⟨j,h1,h2⟩
 ·rw [h2,BG]
  split
  ·exact .top _
  ·rename_i hm
   by_cases hb:Nat.testBit asg t=true
   ·have hge' : nt≤t:=by
     rcases Nat.lt_or_ge t nt with hlt | hge
     ·exact absurd (vk.2 ⟨hlt,hb⟩) hm
     ·exact hge
    have hv:a.tmps.getD t undef=undef:=by
     rw [Array.getD_eq_getD_getElem?,Array.getElem?_eq_none (by rw [h.size]; exact hge')]; rfl
    rw [hv]; exact hge t hge'
   ·rw [← hk t (by simpa using hb)]
    exact h.val t
 ·rw [h2,Nat.zero_add,Mx,h1]
  exact h.val t
theorem Fy {T:Tree AV} {asg:Nat} {vs:List Nat} {xs:List AV} (hvs:∀ t∈vs,Nat.testBit asg t=true) (t:Nat) (h:Nat.testBit asg t=false) : (zY T (bitsOf asg nt) vs xs).get t=T.get t:=by
 unfold zY
 rcases EW vs (zV T (bitsOf asg nt)) xs 0 t with ⟨_,h2⟩ | ⟨j,h1,h2⟩
 ·rw [h2,BG,if_neg]
  intro hm
  rw [(vk.1 hm).2] at h; cases h
 ·have:=hvs t (List.mem_of_getElem? h1)
  rw [h] at this; cases this
theorem eY.ge {ρ:Ren} {T:Tree AV} {a:Act} (h:eY ρ nt T a) : ∀ t,nt≤t→aA ρ ((T.get t).getD .top) undef:=by
 intro t ht
 have:=h.val t
 rw [Array.getD_eq_getD_getElem?,Array.getElem?_eq_none (by rw [h.size]; exact ht)] at this
 exact this
theorem DI {c:Code} {Q:Exit→Act→World→Prop} : ∀ {n m:Nat} {a:Act} {w:World},n≤m→Code.rounds P c Q n a w→Code.rounds P c Q m a w
 | 0,_,_,_,_,h=>h.elim
 | n + 1,m + 1,a,w,hle,h=>by
   rw [rounds_succ] at h ⊢
   refine wp_mono h fun e a' w' hp=>?_
   cases e with
   | normal=>exact DI (Nat.le_of_succ_le_succ hle) hp
   | exit id=>exact hp
   | ret=>exact hp
   | goto l=>exact hp
   | panic c=>exact hp
   | outgrown=>exact hp
theorem zF {t:Nat} : ∀ (l:List Oper),Nat.testBit (GD l) t=false→∀ o∈l,o.dst≠some t
 | [],_,o,ho=>by cases ho
 | x :: l,h,o,ho=>by
   simp only [GD,Nat.testBit_or,Bool.or_eq_false_iff] at h
   rcases List.mem_cons.1 ho with rfl | ho
   ·intro e
    rw [e] at h
    simp [Lt,Nat.testBit_two_pow] at h
   ·exact zF l h.2 o ho
theorem Rt {ρ:Ren} {x:AV} {u:Value} {p q:Prop} (h:ay x p q) (hx:aA ρ x u) : ∃ b,u=.bool b∧(b=true→p)∧(b=false→q):=by
 unfold ay at h
 split at h <;> first | (cases h; done) | skip
 rename_i b
 exact ⟨b,(bg hx).1,h.1,h.2⟩
theorem Ti (hP:DZ P) : ∀ (f:Nat) (c:Code) (env:List (Nat × Nat)) (L:Nat) (T:Tree AV) (M:RM) (K:K3),wpC P nt ret f c env L T M K →
  ∀ (M0:RM) (ρ0:Ren) (w0:World) (ρ:Ren) (a:Act) (w:World),After P M0 ρ0 w0 M ρ w→eY ρ nt T a→c.wp P (PX P nt M0 ρ0 w0 T (gF f c) K) a w:=by
 intro f
 induction f with
 | zero=>intro c env L T M K h; exact h.elim
 | succ f ih =>
   intro c env L T M K h M0 ρ0 w0 ρ a w hM hA
   cases c with
   | skip=>exact wp_skip ⟨.normal,T,M,ρ,rfl,hM,hA,fun _ _=>rfl,h⟩
   | region id ops d =>
     cases d with
     | false =>
       refine wp_region ?_
       have:=Ay (nt:=nt) hP (ops:=ops) (Q:=PX P nt M0 ρ0 w0 T (gF (f + 1) (.region id ops false)) K) (K:=fun T' M'=>K .normal T' M') (M0:=M0) (ρ0:=ρ0) (w0:=w0) (T0:=T)
        (fun T' M' ρ' a' w' k1 k2 k3 k4=>⟨.normal,T',M',ρ',rfl,k1,k2,fun t ht=>k4 t (zF _ ht),k3⟩) ops.toList 0 (by simp) hA hM (fun _ _=>rfl) h
       rw [Array.length_toList,← List.range_eq_range'] at this
       exact this
     | true =>
       exact NK (nt:=nt) (T:=T) hP hM hA (fun T' M' ρ' a' w' k1 k2 k3 k4=>⟨.normal,T',M',ρ',rfl,k1,k2,fun t ht=>k4 t (zF _ ht),k3⟩) h
   | seq c1 c2 =>
     simp only [wpC] at h
     refine wp_seq ?_
     split at h
     ·refine wp_mono (ih c1 _ _ _ _ _ h M0 ρ0 w0 ρ a w hM hA) fun e a' w' hp=>?_
      obtain ⟨x,T1,M1,ρ1,rfl,k1,k2,k3,k4⟩:=hp
      cases x with
      | normal =>
        refine wp_mono (ih c2 _ _ _ _ _ k4 M0 ρ0 w0 ρ1 a' w' k1 k2) fun e a2 w2 hp=>?_
        obtain ⟨x,T2,M2,ρ2,he,q1,q2,q3,q4⟩:=hp
        exact ⟨x,T2,M2,ρ2,he,q1,q2,fun t ht=>by
         simp only [gF,Nat.testBit_or,Bool.or_eq_false_iff] at ht
         rw [q3 t ht.2,k3 t ht.1],q4⟩
      | exit i=>exact ⟨.exit i,T1,M1,ρ1,rfl,k1,k2,fun t ht=>by
        simp only [gF,Nat.testBit_or,Bool.or_eq_false_iff] at ht
        exact k3 t ht.1,k4⟩
      | ret=>exact ⟨.ret,T1,M1,ρ1,rfl,k1,k2,fun t ht=>by
        simp only [gF,Nat.testBit_or,Bool.or_eq_false_iff] at ht
        exact k3 t ht.1,k4⟩
     ·unfold bX at h
      refine wp_mono (ih c1 _ _ _ _ _ h M0 ρ0 w0 ρ a w hM hA) fun e a' w' hp=>?_
      obtain ⟨x,T1,M1,ρ1,rfl,k1,k2,k3,k4⟩:=hp
      have hge:∀ t,nt≤t→aA ρ1 ((T.get t).getD .top) undef:=fun t ht=>by
       have h1:=k2.ge t ht
       by_cases hb:Nat.testBit (gF f c1) t=false
       ·rw [k3 t hb] at h1; exact h1
       ·have h0:=hA.ge t ht
        have hu:∀ (ρ ρ' : Ren) (x:AV),aA ρ x undef→aA ρ' x undef:=by
         intro ρ ρ' x hx
         unfold undef at hx ⊢
         cases hx with
         | top=>exact .top _
         | sc v p=>exact .sc _ p
         | tup xs vs a=>cases a; exact .tup _ _ .nil
        exact hu _ _ _ h0
      cases x with
      | normal =>
        refine wp_mono (ih c2 _ _ _ _ _ k4 M0 ρ0 w0 ρ1 a' w' k1 (BB k2 hge k3)) fun e a2 w2 hp=>?_
        obtain ⟨x,T2,M2,ρ2,he,q1,q2,q3,q4⟩:=hp
        refine ⟨x,T2,M2,ρ2,he,q1,q2,fun t ht=>?_,q4⟩
        simp only [gF,Nat.testBit_or,Bool.or_eq_false_iff] at ht
        rw [q3 t ht.2]
        refine Fy (fun t' ht'=>?_) t ht.1
        have:=(vk.1 ht').2
        rw [Nat.testBit_and,Bool.and_eq_true] at this
        exact this.1
      | exit i=>exact ⟨.exit i,T1,M1,ρ1,rfl,k1,k2,fun t ht=>by
        simp only [gF,Nat.testBit_or,Bool.or_eq_false_iff] at ht
        exact k3 t ht.1,k4⟩
      | ret=>exact ⟨.ret,T1,M1,ρ1,rfl,k1,k2,fun t ht=>by
        simp only [gF,Nat.testBit_or,Bool.or_eq_false_iff] at ht
        exact k3 t ht.1,k4⟩
   | cond cnd c1 c2 =>
     simp only [wpC] at h
     obtain ⟨b,hb,h1,h2⟩:=Rt h (wY hA cnd)
     cases b with
     | true =>
       refine wp_cond_true hb (wp_mono (ih c1 _ _ _ _ _ (h1 rfl) M0 ρ0 w0 ρ a w hM hA) fun e a' w' hp=>?_)
       obtain ⟨x,T1,M1,ρ1,he,k1,k2,k3,k4⟩:=hp
       exact ⟨x,T1,M1,ρ1,he,k1,k2,fun t ht=>by
         simp only [gF,Nat.testBit_or,Bool.or_eq_false_iff] at ht
         exact k3 t ht.1,k4⟩
     | false =>
       refine wp_cond_false hb (wp_mono (ih c2 _ _ _ _ _ (h2 rfl) M0 ρ0 w0 ρ a w hM hA) fun e a' w' hp=>?_)
       obtain ⟨x,T1,M1,ρ1,he,k1,k2,k3,k4⟩:=hp
       exact ⟨x,T1,M1,ρ1,he,k1,k2,fun t ht=>by
         simp only [gF,Nat.testBit_or,Bool.or_eq_false_iff] at ht
         exact k3 t ht.2,k4⟩
   | block id c1 =>
     simp only [wpC] at h
     refine wp_block (wp_mono (ih c1 _ _ _ _ _ h M0 ρ0 w0 ρ a w hM hA) fun e a' w' hp=>?_)
     obtain ⟨x,T1,M1,ρ1,rfl,k1,k2,k3,k4⟩:=hp
     cases x with
     | normal=>exact ⟨.normal,T1,M1,ρ1,rfl,k1,k2,k3,k4⟩
     | ret=>exact ⟨.ret,T1,M1,ρ1,rfl,k1,k2,k3,k4⟩
     | exit i =>
       simp only at k4
       split at k4
       ·rename_i he
        have he:=bH he
        subst he
        simp only [I8,Exit.inBlock,if_true]
        exact ⟨.normal,T1,M1,ρ1,rfl,k1,k2,k3,k4⟩
       ·rename_i he
        have he:=xE he
        simp only [I8,Exit.inBlock,if_neg he]
        exact ⟨.exit i,T1,M1,ρ1,rfl,k1,k2,k3,k4⟩
   | loop c1 =>
     simp only [wpC] at h
     obtain ⟨I,n,hI,hbody⟩:=h
     have hvs:∀ t∈bitsOf (gF f c1 &&& gN ret f env c1 (gN ret f env c1 0)) nt,Nat.testBit (gF f c1) t=true:=fun t' ht'=>by
      have:=(vk.1 ht').2
      rw [Nat.testBit_and,Bool.and_eq_true] at this
      exact this.1
     generalize hv:bitsOf (gF f c1 &&& gN ret f env c1 (gN ret f env c1 0)) nt=vs at hI hbody hvs
     have hu:∀ (ρ ρ' : Ren) (x:AV),aA ρ x undef→aA ρ' x undef:=by
      intro ρ ρ' x hx
      unfold undef at hx ⊢
      cases hx with
      | top=>exact .top _
      | sc v p=>exact .sc _ p
      | tup xs vs a=>cases a; exact .tup _ _ .nil
     have hge:∀ (ρ1:Ren) t,nt≤t→aA ρ1 ((T.get t).getD .top) undef:=fun ρ1 t ht=>hu _ _ _ (hA.ge t ht)
     have key:∀ (m:Nat) (ys:List AV) (M1:RM) (ρ1:Ren) (a1:Act) (w1:World),I m ys M1→After P M0 ρ0 w0 M1 ρ1 w1→eY ρ1 nt (zY T (bitsOf (gF f c1) nt) vs ys) a1 →
       Code.rounds P c1 (PX P nt M0 ρ0 w0 T (gF (f + 1) (.loop c1)) K) (m + 1) a1 w1:=by
      intro m
      induction m using Nat.strongRecOn with
      | _ m ihm =>
        intro ys M1 ρ1 a1 w1 hIm hM1 hA1
        rw [rounds_succ]
        refine wp_mono (ih c1 _ _ _ _ _ (hbody m ys M1 hIm) M0 ρ0 w0 ρ1 a1 w1 hM1 hA1) fun e a' w' hp=>?_
        obtain ⟨x,T2,M2,ρ2,rfl,k1,k2,k3,k4⟩:=hp
        have k3' : ∀ t,Nat.testBit (gF f c1) t=false→T2.get t=T.get t:=fun t ht=>by rw [k3 t ht]; exact Fy hvs t ht
        cases x with
        | normal =>
          obtain ⟨m',hlt,hI'⟩:=k4
          exact DI (by omega) (ihm m' hlt _ M2 ρ2 a' w' hI' k1 (BB k2 (hge ρ2) k3'))
        | exit i=>exact ⟨.exit i,T2,M2,ρ2,rfl,k1,k2,k3',k4⟩
        | ret=>exact ⟨.ret,T2,M2,ρ2,rfl,k1,k2,k3',k4⟩
     exact wp_loop_rounds _ (key n _ M ρ a w hI hM (BB hA (hge ρ) fun _ _=>rfl))
   | exit id=>exact wp_exit ⟨.exit id,T,M,ρ,rfl,hM,hA,fun _ _=>rfl,h⟩
   | ret=>exact wp_ret ⟨.ret,T,M,ρ,rfl,hM,hA,fun _ _=>rfl,h⟩
   | rangeFunc=>simp [wpC] at h
   | scope c1 =>
     simp only [wpC] at h
     refine wp_scope_straight (wp_mono (ih c1 _ _ _ _ _ h M0 ρ0 w0 ρ a w hM hA) fun e a' w' hp=>?_)
     obtain ⟨x,T1,M1,ρ1,rfl,k1,k2,k3,k4⟩:=hp
     cases x with
     | normal=>exact ⟨.normal,T1,M1,ρ1,rfl,k1,k2,k3,k4⟩
     | exit i=>exact ⟨.exit i,T1,M1,ρ1,rfl,k1,k2,k3,k4⟩
     | ret=>exact ⟨.ret,T1,M1,ρ1,rfl,k1,k2,k3,k4⟩
   | label l=>exact wp_label ⟨.normal,T,M,ρ,rfl,hM,hA,fun _ _=>rfl,h⟩
   | goto=>simp [wpC] at h
   | refuse=>simp [wpC] at h
theorem Py {ρ:Ren} {T:Tree AV} {M:RM} {a:Act} {w:World} (hA:eY ρ nt T a) (hw:dM P ρ M w) {r:ResultVar} {K:AV→Prop} (h:TZ P T M r K) :
  ∃ v v',(rM a.tmps r).run P w=.ok v' w∧aA ρ v v'∧K v:=by
 cases r with
 | tmp t=>exact ⟨_,_,rfl,hA.val t,h⟩
 | cell x t =>
   simp only [TZ] at h
   have hv:=hA.val x
   split at h <;> first | (cases h; done) | skip
   ·rename_i ha
    obtain ⟨b,p,v,hx,hl,hk⟩:=h
    rw [hx] at hv
    obtain ⟨i,hb,hc⟩:=dV hv
    obtain ⟨u,hu,hcell⟩:=Jw hw hb hl
    refine ⟨v,u, ?_,hu,hk⟩
    simp only [rM,hc,asAddr,Sem.run_bind,Sem.run_pure,Result.andThen_ok,loadVar,gm ha,Bool.false_eq_true,if_false,load,Sem.run,hcell]
   ·rename_i ha
    split at h <;> first | (cases h; done) | skip
    rename_i n hs
    obtain ⟨b,p,xs,hx,hl,hk⟩:=h
    rw [hx] at hv
    obtain ⟨i,hb,hc⟩:=dV hv
    obtain ⟨vs,hr,hlen,_,hrun⟩:=RM.kU (P:=P) hw hb hl
    exact ⟨.agg xs,.agg ⟨vs⟩,by simp only [rM,hc,asAddr,Sem.run_bind,Sem.run_pure,Result.andThen_ok,loadVar,gm ha,if_true,dE hs,hrun],.agg _ _ hr,hk⟩
theorem zO {ρ:Ren} {T:Tree AV} {M:RM} {a:Act} {w:World} (hA:eY ρ nt T a) (hw:dM P ρ M w) : ∀ (rs:List ResultVar) (K:List AV→Prop),TT P T M rs K →
  ∃ vs us,(rs.mapM (rM a.tmps)).run P w=.ok us w∧bn ρ vs us∧K vs
 | [],K,h=>⟨[],[],by simp,.nil,h⟩
 | r :: rs,K,h=>by
   obtain ⟨v,v',h1,h2,h3⟩:=Py hA hw h
   obtain ⟨vs,us,h4,h5,h6⟩:=zO hA hw rs _ h3
   refine ⟨v :: vs,v' :: us, ?_,.cons _ _ _ _ h2 h5,h6⟩
   simp only [List.mapM_cons,Sem.run_bind,h1,Result.andThen_ok,h4,Sem.run_pure]
theorem Ia (hP:DZ P) {f:FuncId} {fn:Func} {c:Code} {args:List AV} {M:RM} {Q:ah} (hfn:P.funcs[f]?=some fn) (hbody:fn.body=some c) (h:RO P fn c args M Q) : fT P f args M Q:=by
 refine ⟨⟨fn,c,hfn,hbody⟩,fun ρ w us hargs hw=>?_⟩
 have hlen:=hargs.length
 have hA:eY ρ (args.length + (fn.ntmps - args.length)) (Tree.ofList args 0 .leaf) { tmps:=⟨us⟩++Array.replicate (fn.ntmps - (⟨us⟩ : Array Value).size) undef,defers:=[] } := by
  refine ⟨by simp [hlen],fun t=>?_,rfl⟩
  rw [Tree.jF]
  by_cases ht:t<args.length
  ·rw [if_pos (by omega),Nat.sub_zero]
   obtain ⟨u,hu,hv⟩:=hargs.get (n:=t) (x:=args[t]) (by simp [ht])
   rw [List.getElem?_eq_getElem ht]
   simp only [Option.getD_some]
   have:((⟨us⟩ : Array Value)++Array.replicate (fn.ntmps - (⟨us⟩ : Array Value).size) undef).getD t undef=u:=by
    rw [Array.getD_eq_getD_getElem?,Array.getElem?_append_left (by simp; omega)]
    simp [hu]
   rw [this]; exact hv
  ·rw [if_neg (by omega)]
   exact .top _
 refine calls_of_wp hfn hbody (wp_mono (Ti hP 1000 c [] 0 _ M _ h M ρ w ρ _ w (After.refl hw) hA) fun e a w' hp=>?_)
 obtain ⟨x,T',M',ρ',rfl,k1,k2,k3,k4⟩:=hp
 have key:(∃ vs us,(fn.results.toList.mapM (rM a.tmps)).run P w'=.ok us w'∧bn ρ' vs us∧WR Q M' vs) →
   a.defers=[]∧∃ v,(results fn a.tmps).run P w'=.ok v w'∧∃ v' v_1 M'_1 ρ'_1,Ending.returned v=.returned v'∧After P M ρ w M'_1 ρ'_1 w'∧aA ρ'_1 v_1 v'∧Q v_1 M'_1:=by
  rintro ⟨vs,us,h1,h2,h3⟩
  have hres:(results fn a.tmps).run P w'=.ok (if h:(⟨us⟩ : Array Value).size=1 then (⟨us⟩ : Array Value)[0] else .tuple ⟨us⟩) w':=by
   have e:results fn a.tmps=(fn.results.mapM (rM a.tmps) >>= fun vs=>pure (if h:vs.size=1 then vs[0] else .tuple vs)):=rfl
   rw [e,Array.mapM_eq_mapM_toList]
   simp only [Sem.run_bind,Sem.run_map,h1,Result.andThen_ok,Sem.run_pure]
  refine ⟨k2.defers,_,hres, ?_⟩
  cases h2 with
  | nil=>exact ⟨_,_,M',ρ',rfl,k1,.tup _ _ .nil,h3⟩
  | cons x v xs vs2 hv htl =>
    cases htl with
    | nil=>exact ⟨_,x,M',ρ',rfl,k1,hv,h3⟩
    | cons y u ys us2 hu htl2=>exact ⟨_,_,M',ρ',rfl,k1,.tup _ _ (.cons _ _ _ _ hv (.cons _ _ _ _ hu htl2)),h3⟩
 cases x with
 | normal=>exact key (zO k2 k1.rel _ _ k4)
 | ret=>exact key (zO k2 k1.rel _ _ k4)
 | exit id=>exact k4.elim
abbrev aj:=List AV→RM→ah→Prop
def IP (P:Program) (fn:Func) (args:List AV) (M:RM) (Q:ah) : Prop :=
 match fn.body with
 | some c=>RO P fn c args M Q
 | none=>False
theorem Rx (hP:DZ P) {f:FuncId} {fn:Func} {args:List AV} {M:RM} {Q:ah} (hfn:P.funcs[f]?=some fn) (h:IP P fn args M Q) : fT P f args M Q:=by
 unfold IP at h
 split at h
 ·rename_i c hc; exact Ia hP hfn hc h
 ·cases h
end
end Go.Ab
set_option linter.unusedVariables false
set_option linter.unusedSimpArgs false
namespace Go.Ab
open Go Go.RowKit
def RM.cell (M:RM) (b o:Nat) : Option AV:=(M.cells b).bind (·[o]?)
section
variable {M M' : RM} {K:AV→Prop} {KQ:ah}
theorem GJ {b o:Nat} {v:AV} : M.loads b o 1=some [v]↔M.cell b o=some v:=by
 unfold RM.loads RM.cell
 cases hc:M.cells b with
 | none=>simp
 | some l =>
   simp only [Option.bind_some]
   constructor
   ·intro h
    split at h
    ·rename_i hlt
     have h1:=Option.some.inj h
     have:((l.drop o).take 1)[0]?=some v:=by rw [h1]; rfl
     rw [List.getElem?_take,if_pos (by omega),List.getElem?_drop] at this
     simpa using this
    ·cases h
   ·intro h
    have hlt:=(List.getElem?_eq_some_iff.1 h).1
    rw [if_pos (by omega)]
    congr 1
    rw [List.drop_eq_getElem_cons hlt]
    simp only [List.take_succ_cons,List.take_zero]
    congr 1
    exact (List.getElem?_eq_some_iff.1 h).2
@[go_sem] theorem jL (b o:Nat) : ax M (.ptr b o) K=∃ v,M.cell b o=some v∧K v:=by
 apply propext; unfold ax
 constructor
 ·rintro ⟨b',o',v,h,hl,hk⟩; cases h; exact ⟨v,GJ.1 hl,hk⟩
 ·rintro ⟨v,hl,hk⟩; exact ⟨b,o,v,rfl,GJ.2 hl,hk⟩
@[go_sem] theorem gK (b o n:Nat) : aB M (.ptr b o) n K=∃ vs,M.loads b o n=some vs∧K (.agg vs):=by
 apply propext; unfold aB
 constructor
 ·rintro ⟨b',o',v,h,hl,hk⟩; cases h; exact ⟨v,hl,hk⟩
 ·rintro ⟨v,hl,hk⟩; exact ⟨b,o,v,rfl,hl,hk⟩
@[go_sem] theorem vg (b p:Nat) (x:AV) (n:Nat) (K:RM→Prop) : aD M (.ptr b p) x n K=(x.cells.length=n∧∃ M',M.stores b p x.cells=some M'∧K M'):=by
 apply propext; unfold aD
 constructor
 ·rintro ⟨b',o',M',h,h1,h2,hk⟩; cases h; exact ⟨h1,M',h2,hk⟩
 ·rintro ⟨h1,M',h2,hk⟩; exact ⟨b,p,M',rfl,h1,h2,hk⟩
def OG (k:IntKind) (a b:Int) : Int:=k.wrap (BitVec.ofInt k.bits a &&& BitVec.ofInt k.bits b).toNat
def ZZ (k:IntKind) (a b:Int) : Int:=k.wrap (BitVec.ofInt k.bits a ||| BitVec.ofInt k.bits b).toNat
def OQ (k:IntKind) (a b:Int) : Int:=k.wrap (BitVec.ofInt k.bits a ^^^ BitVec.ofInt k.bits b).toNat
def VV (k:IntKind) (a b:Int) : Int:=k.wrap (BitVec.ofInt k.bits a &&& ~~~BitVec.ofInt k.bits b).toNat
def QE (k:IntKind) (a b:Int) : Int:=k.wrap (a * 2 ^ (min b.toNat k.bits))
def Mj (k:IntKind) (a b:Int) : Int:=a.fdiv (2 ^ (min b.toNat k.bits))
section
variable (k:IntKind) (a b:Int)
theorem gM {op:BinOp} {v:Value} (h:wy op k a b=some v) : af op (N k a) (N k b) K=K (.sc v):=by
 apply propext; unfold af
 constructor
 ·rintro ⟨k',a',b',u,h1,h2,h3,hk⟩; cases h1; cases h2; rw [h] at h3; cases h3; exact hk
 ·intro hk; exact ⟨k,a,b,v,rfl,rfl,h,hk⟩
@[go_sem] theorem dm:af .add (N k a) (N k b) K=K (N k (k.wrap (a + b))):=gM k a b rfl
@[go_sem] theorem fJ:af .sub (N k a) (N k b) K=K (N k (k.wrap (a - b))):=gM k a b rfl
@[go_sem] theorem pO:af .mul (N k a) (N k b) K=K (N k (k.wrap (a * b))):=gM k a b rfl
@[go_sem] theorem Aj:af .and (N k a) (N k b) K=K (N k (OG k a b)):=gM k a b rfl
@[go_sem] theorem ZO:af .or (N k a) (N k b) K=K (N k (ZZ k a b)):=gM k a b rfl
@[go_sem] theorem sW:af .xor (N k a) (N k b) K=K (N k (OQ k a b)):=gM k a b rfl
@[go_sem] theorem XR:af .andNot (N k a) (N k b) K=K (N k (VV k a b)):=gM k a b rfl
@[go_sem] theorem df:af .eql (N k a) (N k b) K=K (Bo (a == b)):=gM k a b rfl
@[go_sem] theorem iJ:af .neq (N k a) (N k b) K=K (Bo (a != b)):=gM k a b rfl
@[go_sem] theorem dF:af .lss (N k a) (N k b) K=K (Bo (decide (a<b))):=gM k a b rfl
@[go_sem] theorem jT:af .leq (N k a) (N k b) K=K (Bo (decide (a≤b))):=gM k a b rfl
@[go_sem] theorem gH:af .gtr (N k a) (N k b) K=K (Bo (decide (a > b))):=gM k a b rfl
@[go_sem] theorem fw:af .geq (N k a) (N k b) K=K (Bo (decide (a ≥ b))):=gM k a b rfl
@[go_sem] theorem jo:af .quo (N k a) (N k b) K=(b≠0∧K (N k (k.wrap (a.tdiv b)))):=by
 apply propext; unfold af wy
 constructor
 ·rintro ⟨k',a',b',u,h1,h2,h3,hk⟩; cases h1; cases h2
  simp only at h3
  split at h3
  ·cases h3
  ·cases h3; exact ⟨‹_›,hk⟩
 ·rintro ⟨h0,hk⟩; exact ⟨k,a,b,_,rfl,rfl,by simp only [if_neg h0],hk⟩
@[go_sem] theorem TH:af .rem (N k a) (N k b) K=(b≠0∧K (N k (a.tmod b))):=by
 apply propext; unfold af wy
 constructor
 ·rintro ⟨k',a',b',u,h1,h2,h3,hk⟩; cases h1; cases h2
  simp only at h3
  split at h3
  ·cases h3
  ·cases h3; exact ⟨‹_›,hk⟩
 ·rintro ⟨h0,hk⟩; exact ⟨k,a,b,_,rfl,rfl,by simp only [if_neg h0],hk⟩
variable (l:IntKind)
@[go_sem] theorem yO:xe .shl (N k a) (N l b) K=(0≤b∧K (N k (QE k a b))):=by
 apply propext; unfold xe Gp
 constructor
 ·rintro ⟨k',a',l',b',u,h1,h2,h3,hk⟩; cases h1; cases h2
  split at h3
  ·cases h3
  ·cases h3; exact ⟨by omega,hk⟩
 ·rintro ⟨h0,hk⟩; exact ⟨k,a,l,b,_,rfl,rfl,by rw [if_neg (by omega)]; rfl,hk⟩
@[go_sem] theorem ze:xe .shr (N k a) (N l b) K=(0≤b∧K (N k (Mj k a b))):=by
 apply propext; unfold xe Gp
 constructor
 ·rintro ⟨k',a',l',b',u,h1,h2,h3,hk⟩; cases h1; cases h2
  split at h3
  ·cases h3
  ·cases h3; exact ⟨by omega,hk⟩
 ·rintro ⟨h0,hk⟩; exact ⟨k,a,l,b,_,rfl,rfl,by rw [if_neg (by omega)]; rfl,hk⟩
@[go_sem] theorem ZP {l:IntKind} {a:Int} {K:AV→Prop} : Qb (N l a) K=K (St (Utf8.encode a).data.toList):=by
 apply propext; unfold Qb
 constructor
 ·rintro ⟨l',n,h,hk⟩; cases h; exact hk
 ·intro h; exact ⟨_,_,rfl,h⟩
@[go_sem] theorem jB:kD k (N l a) K=K (N k (k.wrap a)):=by
 apply propext; unfold kD
 constructor
 ·rintro ⟨l',n,h,hk⟩; cases h; exact hk
 ·intro hk; exact ⟨l,a,rfl,hk⟩
@[go_sem] theorem SX (mx:Bool) : Hm mx (N k a) (N k b) K=K (N k (if mx then (if b > a then b else a) else (if b<a then b else a))):=by
 apply propext; unfold Hm
 constructor
 ·rintro ⟨k',a',b',h1,h2,hk⟩; cases h1; cases h2; exact hk
 ·intro hk; exact ⟨k,a,b,rfl,rfl,hk⟩
@[go_sem] theorem ZV:Ua (N k a) K=K (N k (k.wrap (0 - a))):=by
 apply propext; unfold Ua
 constructor
 ·rintro ⟨k',a',h1,hk⟩; cases h1; exact hk
 ·intro hk; exact ⟨k,a,rfl,hk⟩
end
@[go_sem] theorem bB (b:Bool) : dD (Bo b) K=K (Bo (!b)):=by
 apply propext; unfold dD
 constructor
 ·rintro ⟨b',h,hk⟩; cases h; exact hk
 ·intro hk; exact ⟨b,rfl,hk⟩
@[go_sem] theorem X8 (neg a b:Bool) : Dv neg (Bo a) (Bo b) K=K (Bo ((a == b) != neg)):=by
 apply propext; unfold Dv
 constructor
 ·rintro ⟨a',b',h,h',hk⟩; cases h; cases h'; exact hk
 ·intro hk; exact ⟨a,b,rfl,rfl,hk⟩
@[go_sem] theorem LV (t:Bool) (a b:AV) : aM (Bo t) a b K=K (if t then a else b):=by
 apply propext; unfold aM
 constructor
 ·rintro ⟨t',h,hk⟩; cases h; exact hk
 ·intro hk; exact ⟨t,rfl,hk⟩
@[go_sem] theorem LQ (b:Bool) (p q:Prop) : ay (Bo b) p q=((b=true→p)∧(b=false→q)):=rfl
@[go_sem] theorem Yj {α:Type} (b want:Bool) (f g:α→Prop) (k:α) : lT (Bo b) want f g k=if b=want then f k else g k:=rfl
@[go_sem] theorem Xj {α:Type} (want:Bool) (f g:α→Prop) (k:α) : lT .undef want f g k=g k:=rfl
@[go_sem] theorem aJ (b o:Nat) : bQ (.ptr b o) K=K (.ptr b o):=by
 apply propext; unfold bQ
 constructor
 ·rintro ⟨b',o',h,hk⟩; cases h; exact hk
 ·intro hk; exact ⟨b,o,rfl,hk⟩
@[go_sem] theorem aY (b o n:Nat) : aI (.ptr b o) n K=K (.ptr b (o + n)):=by
 apply propext; unfold aI
 constructor
 ·rintro ⟨b',o',h,hk⟩; cases h; exact hk
 ·intro hk; exact ⟨b,o,rfl,hk⟩
@[go_sem] theorem mW (b p len:Nat) (cap:Cap) (k:IntKind) (n:Int) (size:Nat) : au (.slc b p len cap) (N k n) size K=(0≤n∧n<len∧K (.ptr b (p + n.toNat * size))):=by
 apply propext; unfold au
 constructor
 ·rintro ⟨b',p',l',c',k',n',h,h',h0,h1,hk⟩; cases h; cases h'; exact ⟨h0,h1,hk⟩
 ·rintro ⟨h0,h1,hk⟩; exact ⟨b,p,len,cap,k,n,rfl,rfl,h0,h1,hk⟩
@[go_sem] theorem wK (b p:Nat) (k:IntKind) (n:Int) (len size:Nat) : Ca (.ptr b p) (N k n) len size K=(0≤n∧n<len∧K (.ptr b (p + n.toNat * size))):=by
 apply propext; unfold Ca
 constructor
 ·rintro ⟨b',p',k',n',h,h',h0,h1,hk⟩; cases h; cases h'; exact ⟨h0,h1,hk⟩
 ·rintro ⟨h0,h1,hk⟩; exact ⟨b,p,k,n,rfl,rfl,h0,h1,hk⟩
@[go_sem] theorem YA (cs:List AV) (off:Nat) : Ps (.agg cs) off K=∃ v,cs[off]?=some v∧K v:=by
 apply propext; unfold Ps
 constructor
 ·rintro ⟨cs',v,h,h1,hk⟩; cases h; exact ⟨v,h1,hk⟩
 ·rintro ⟨v,h1,hk⟩; exact ⟨cs,v,rfl,h1,hk⟩
@[go_sem] theorem YI (cs:List AV) (off n:Nat) : O4 (.agg cs) off n K=(off + n≤cs.length∧K (.agg ((cs.drop off).take n))):=by
 apply propext; unfold O4
 constructor
 ·rintro ⟨cs',h,h1,hk⟩; cases h; exact ⟨h1,hk⟩
 ·rintro ⟨h1,hk⟩; exact ⟨cs,rfl,h1,hk⟩
@[go_sem] theorem Yo (cs:List AV) (k:IntKind) (n:Int) (len:Nat) : P5 (.agg cs) (N k n) len K=(0≤n∧n<len∧∃ v,cs[n.toNat]?=some v∧K v):=by
 apply propext; unfold P5
 constructor
 ·rintro ⟨cs',k',n',v,h,h',h0,h1,h2,hk⟩; cases h; cases h'; exact ⟨h0,h1,v,h2,hk⟩
 ·rintro ⟨h0,h1,v,h2,hk⟩; exact ⟨cs,k,n,v,rfl,rfl,h0,h1,h2,hk⟩
@[go_sem] theorem Sv (cs:List AV) (k:IntKind) (n:Int) (len size:Nat) : Kj (.agg cs) (N k n) len size K=(0≤n∧n<len∧n.toNat * size + size≤cs.length∧K (.agg ((cs.drop (n.toNat * size)).take size))):=by
 apply propext; unfold Kj
 constructor
 ·rintro ⟨cs',k',n',h,h',h0,h1,h2,hk⟩; cases h; cases h'; exact ⟨h0,h1,h2,hk⟩
 ·rintro ⟨h0,h1,h2,hk⟩; exact ⟨cs,k,n,rfl,rfl,h0,h1,h2,hk⟩
@[go_sem] theorem VQ (s:List UInt8) (k:IntKind) (n:Int) : Lv (St s) (N k n) K=(0≤n∧∃ b,s[n.toNat]?=some b∧K (N .u8 b.toNat)):=by
 apply propext; unfold Lv
 constructor
 ·rintro ⟨s',k',n',b,h,h',h0,h1,hk⟩; cases h; cases h'; exact ⟨h0,b,h1,hk⟩
 ·rintro ⟨h0,b,h1,hk⟩; exact ⟨s,k,n,b,rfl,rfl,h0,h1,hk⟩
@[go_sem] theorem KZ (vs:List AV) (i:Nat) : dJ (.tup vs) i K=∃ v,vs[i]?=some v∧K v:=by
 apply propext; unfold dJ
 constructor
 ·rintro ⟨cs',v,h,h1,hk⟩; cases h; exact ⟨v,h1,hk⟩
 ·rintro ⟨v,h1,hk⟩; exact ⟨vs,v,rfl,h1,hk⟩
@[go_sem] theorem dY (v:AV) : iX (some v) K=K v:=by
 apply propext; unfold iX
 constructor
 ·rintro ⟨v',h,hk⟩; cases h; exact hk
 ·intro hk; exact ⟨v,rfl,hk⟩
@[go_sem] theorem lm (b o n:Nat) (c:Cap) : cK (.slc b o n c) K=K (N .i64 n):=by
 apply propext; unfold cK
 constructor
 ·rintro ⟨n',h,hk⟩; cases h; exact hk
 ·intro hk; exact ⟨n,rfl,hk⟩
@[go_sem] theorem U7 (b:Nat) : cK (.emp b) K=K (N .i64 0):=by
 apply propext; unfold cK
 constructor
 ·rintro ⟨n',h,hk⟩; cases h; exact hk
 ·intro hk; exact ⟨0,rfl,hk⟩
@[go_sem] theorem EC:cK (.sc (.slice none 0 0)) K=K (N .i64 0):=by
 apply propext; unfold cK
 constructor
 ·rintro ⟨n',h,hk⟩; cases h; exact hk
 ·intro hk; exact ⟨0,rfl,hk⟩
@[go_sem] theorem kI (s:List UInt8) : mE (St s) K=K (N .i64 s.length):=by
 apply propext; unfold mE
 constructor
 ·rintro ⟨s',h,hk⟩; cases h; exact hk
 ·intro hk; exact ⟨s,rfl,hk⟩
@[go_sem] theorem VL (b o n c:Nat) : yc (.slc b o n (.ex c)) K=K (N .i64 c):=by
 apply propext; unfold yc
 constructor
 ·rintro ⟨n',h,hk⟩; cases h; exact hk
 ·intro hk; exact ⟨c,rfl,hk⟩
@[go_sem] theorem Zb:yc (.sc (.slice none 0 0)) K=K (N .i64 0):=by
 apply propext; unfold yc
 constructor
 ·rintro ⟨n',h,hk⟩; cases h; exact hk
 ·intro hk; exact ⟨0,rfl,hk⟩
@[go_sem] theorem Zn (s:List UInt8) : isStr (St s) K=K (St s):=by
 apply propext; unfold isStr
 constructor
 ·rintro ⟨s',h,hk⟩; cases h; exact hk
 ·intro hk; exact ⟨s,rfl,hk⟩
@[go_sem] theorem XQ {x:AV} {s:List UInt8} (h:Px M x=some s) : Lb M x K=K (St s):=by
 apply propext; unfold Lb
 constructor
 ·rintro ⟨s',h',hk⟩; rw [h] at h'; cases h'; exact hk
 ·intro hk; exact ⟨s,h,hk⟩
theorem qG {op:BinOp} {a b:List UInt8} {v:AV} (h:zt op a b=some v) : iO op (St a) (St b) K=K v:=by
 apply propext; unfold iO
 constructor
 ·rintro ⟨a',b',u,h1,h2,h3,hk⟩; cases h1; cases h2; rw [h] at h3; cases h3; exact hk
 ·intro hk; exact ⟨a,b,v,rfl,rfl,h,hk⟩
@[go_sem] theorem mZ (a b:List UInt8) : iO .eql (St a) (St b) K=K (Bo (a == b)):=by rw [← lc]; exact qG rfl
@[go_sem] theorem vR (a b:List UInt8) : iO .neq (St a) (St b) K=K (Bo (a != b)):=by rw [bne,← lc]; exact qG rfl
@[go_sem] theorem UN (a b:List UInt8) : iO .lss (St a) (St b) K=K (Bo (Op.bytesLess a b)):=qG rfl
@[go_sem] theorem Ze (a b:List UInt8) : iO .leq (St a) (St b) K=K (Bo (Op.bytesLess a b || a == b)):=by rw [← lc]; exact qG rfl
@[go_sem] theorem Uz (a b:List UInt8) : iO .gtr (St a) (St b) K=K (Bo (!(Op.bytesLess a b || a == b))):=by rw [← lc]; exact qG rfl
@[go_sem] theorem YQ (a b:List UInt8) : iO .geq (St a) (St b) K=K (Bo (!Op.bytesLess a b)):=qG rfl
@[go_sem] theorem Y2 (a b:List UInt8) : iO .add (St a) (St b) K=(a.length + b.length≤9223372036854775807∧K (St (a++b))):=by
 apply propext; unfold iO
 constructor
 ·rintro ⟨a',b',u,h1,h2,h3,hk⟩; cases h1; cases h2
  simp only [zt] at h3
  split at h3
  ·rename_i hb; cases h3; exact ⟨bC hb,hk⟩
  ·cases h3
 ·rintro ⟨h0,hk⟩; exact ⟨a,b,_,rfl,rfl,by simp only [zt,bu.2 h0],hk⟩
theorem lC {neg:Bool} {tag:Nat} {x y:AV} {r:Bool} (ht:Ki x=tag) (h:Da x y=some r) : jC neg tag x y K=K (Bo (r != neg)):=by
 apply propext; unfold jC
 constructor
 ·rintro ⟨_,r',h',hk⟩; rw [h] at h'; cases h'; exact hk
 ·intro hk; exact ⟨ht,r,h,hk⟩
@[go_sem] theorem Jj (neg:Bool) : jC neg 2 (.sc (.slice none 0 0)) (.sc (.slice none 0 0)) K=K (Bo (!neg)):=(lC (tag:=2) (r:=true) rfl rfl).trans (by cases neg <;> rfl)
@[go_sem] theorem Jg (neg:Bool) (b:Nat) : jC neg 2 (.emp b) (.sc (.slice none 0 0)) K=K (Bo neg):=(lC (tag:=2) (r:=false) rfl rfl).trans (by cases neg <;> rfl)
@[go_sem] theorem GX (neg:Bool) (b o n:Nat) (c:Cap) : jC neg 2 (.slc b o n c) (.sc (.slice none 0 0)) K=K (Bo neg):=(lC (tag:=2) (r:=false) rfl rfl).trans (by cases neg <;> rfl)
@[go_sem] theorem VD (neg:Bool) (b o:Nat) : jC neg 1 (.ptr b o) (.sc (.pointer none)) K=K (Bo neg):=(lC (tag:=1) (r:=false) rfl rfl).trans (by cases neg <;> rfl)
@[go_sem] theorem Vr (neg:Bool) : jC neg 1 (.sc (.pointer none)) (.sc (.pointer none)) K=K (Bo (!neg)):=(lC (tag:=1) (r:=true) rfl rfl).trans (by cases neg <;> rfl)
@[go_sem] theorem Wp (neg:Bool) (b:Nat) : jC neg 3 (.map b) (.sc (.map none)) K=K (Bo neg):=(lC (tag:=3) (r:=false) rfl rfl).trans (by cases neg <;> rfl)
@[go_sem] theorem Ws (neg:Bool) (f:Fn) (xs ys:List AV) : jC neg 4 (.fn f xs ys) (.sc .nilFunc) K=K (Bo neg):=(lC (tag:=4) (r:=false) rfl rfl).trans (by cases neg <;> rfl)
@[go_sem] theorem OV (neg:Bool) (ks:List Nat) (cs ds:List AV) : mG neg ks (.agg cs) (.agg ds) K=(cs.length=ks.length∧ds.length=ks.length∧∃ r,dW ks cs ds=some r∧K (Bo (r != neg))):=by
 apply propext; unfold mG
 constructor
 ·rintro ⟨a',b',r,h1,h2,h3,h4,h5,hk⟩; cases h1; cases h2; exact ⟨h3,h4,r,h5,hk⟩
 ·rintro ⟨h3,h4,r,h5,hk⟩; exact ⟨cs,ds,r,rfl,rfl,h3,h4,h5,hk⟩
@[go_sem] theorem Y5 (C:FuncId→aj) (g:FuncId) (first cap args:List AV) : bN C (.fn (.func g) first cap) args M KQ=C g (first++args++cap) M KQ:=by
 apply propext; unfold bN
 constructor
 ·rintro ⟨g',f',c',h,hk⟩; cases h; exact hk
 ·intro hk; exact ⟨g,first,cap,rfl,hk⟩
@[go_sem] theorem ja (cs:List AV) (parts:List (Nat × Nat × AV)) : jA cs parts K=∃ cs',wX cs parts=some cs'∧K (.agg cs'):=rfl
@[go_sem] theorem bi (x:RB) (mk:Nat→AV) : bZ x mk M KQ=KQ (mk M.next) (M.push x):=rfl
@[go_sem] theorem qb (x:RB) (mk:Nat→AV) (k:KR) : xM x mk M k=k (mk M.next) (M.push x) (some M.next):=rfl
@[go_sem] theorem su (f:(List AV→RM→Prop)→Prop) (g:List AV→RM→Prop) : bX f g=f g:=rfl
@[go_sem] theorem Yk (x:AV) (xs:List AV) : aa (x :: xs) 0=x:=rfl
@[go_sem] theorem Yg (x:AV) (xs:List AV) (n:Nat) : aa (x :: xs) (n + 1)=aa xs n:=rfl
@[go_sem] theorem Pg (b:Nat) (x:RB) (mk:Nat→AV) (v:AV) : CZ (some b) M x mk v=(M.heap b=some x∧mk b=v):=rfl
end
section
variable {M M' : RM}
theorem RM.xn {b:Nat} {l:List AV} {opn:Bool} {el fz:Nat} (h:M.heap b=some (.row l opn el fz)) : M.cells b=some l:=by simp [RM.cells,h]
theorem RM.Uq {b o:Nat} {l:List AV} {opn:Bool} {el fz:Nat} (h:M.heap b=some (.row l opn el fz)) : M.cell b o=l[o]?:=by simp [RM.cell,RM.xn h]
theorem RM.dG {b o k:Nat} {l:List AV} {opn:Bool} {el fz:Nat} (h:M.heap b=some (.row l opn el fz)) (hk:o + k≤l.length) : M.loads b o k=some ((l.drop o).take k):=by
 simp [RM.loads,RM.xn h,hk]
theorem RM.Ah {b o:Nat} {l vs:List AV} {opn:Bool} {el fz:Nat} (h:M.heap b=some (.row l opn el fz)) (h1:o + vs.length≤l.length) (h2:fz≤o) (h3:vs.all oneCell=true) :
  M.stores b o vs=some (M.put b (.row (l.take o++vs++l.drop (o + vs.length)) opn el fz)):=by
 simp only [RM.stores,h]
 rw [if_pos ⟨h1,h2,h3⟩]
structure ag (bs:List Nat) (M M' : RM) : Prop where
 base:M'.base=M.base
 next:M.next≤M'.next
 heap:∀ c,c<M.next→c ∉ bs→M'.heap c=M.heap c
theorem ag.refl (bs:List Nat) (M:RM) : ag bs M M:=⟨rfl,Nat.le_refl _,fun _ _ _=>rfl⟩
theorem ag.trans {bs:List Nat} {M1 M2:RM} (h:ag bs M M1) (k:ag bs M1 M2) : ag bs M M2 :=
 ⟨k.base.trans h.base,Nat.le_trans h.next k.next,fun c hc hb=>(k.heap c (Nat.lt_of_lt_of_le hc h.next) hb).trans (h.heap c hc hb)⟩
theorem ag.push {bs:List Nat} (h:ag bs M M') (x:RB) : ag bs M (M'.push x) :=
 ⟨h.base,Nat.le_succ_of_le h.next,fun c hc hb=>by
  have:=h.next
  simp only [RM.push]; rw [if_neg (by omega)]; exact h.heap c hc hb⟩
theorem ag.put {bs:List Nat} (h:ag bs M M') {b:Nat} (x:RB) (hb:M.next≤b∨b∈bs) : ag bs M (M'.put b x) :=
 ⟨h.base,h.next,fun c hc hcb=>by
  simp only [RM.put]; rw [if_neg]
  ·exact h.heap c hc hcb
  ·rintro rfl; rcases hb with hb | hb
   ·omega
   ·exact hcb hb⟩
theorem ag.del {bs:List Nat} (h:ag bs M M') {b:Nat} (hb:M.next≤b∨b∈bs) : ag bs M (M'.del b) :=
 ⟨h.base,h.next,fun c hc hcb=>by
  simp only [RM.del]; rw [if_neg]
  ·exact h.heap c hc hcb
  ·rintro rfl; rcases hb with hb | hb
   ·omega
   ·exact hcb hb⟩
theorem ag.mono {bs cs:List Nat} (h:ag bs M M') (hs:∀ b∈bs,b∈cs) : ag cs M M':=⟨h.base,h.next,fun c hc hb=>h.heap c hc fun h=>hb (hs c h)⟩
theorem ag.dB {bs:List Nat} {M1 M2:RM} {cs:List Nat} (h:ag bs M M1) (k:ag cs M1 M2) (hn:∀ c∈cs,M.next≤c∨c∈bs) : ag bs M M2 :=
 ⟨k.base.trans h.base,Nat.le_trans h.next k.next,fun c hc hb=>by
  rw [k.heap c (Nat.lt_of_lt_of_le hc h.next) (fun hm=>by rcases hn c hm with h1 | h1; omega; exact hb h1),h.heap c hc hb]⟩
theorem ag.cells {bs:List Nat} (h:ag bs M M') {b:Nat} (hlt:b<M.next) (hb:b ∉ bs) : M'.cells b=M.cells b:=by
 simp only [RM.cells,h.heap b hlt hb,RM.lo,h.base]
theorem ag.cell {bs:List Nat} (h:ag bs M M') {b o:Nat} (hlt:b<M.next) (hb:b ∉ bs) : M'.cell b o=M.cell b o:=by
 simp only [RM.cell,h.cells hlt hb]
theorem ag.loads {bs:List Nat} (h:ag bs M M') {b o k:Nat} (hlt:b<M.next) (hb:b ∉ bs) : M'.loads b o k=M.loads b o k:=by
 simp only [RM.loads,h.cells hlt hb]
@[go_sem] theorem RM.Yv (x:RB) : (M.push x).next=M.next + 1:=rfl
@[go_sem] theorem RM.Zz (b:Nat) (x:RB) : (M.put b x).next=M.next:=rfl
@[go_sem] theorem RM.Zl (b:Nat) : (M.del b).next=M.next:=rfl
@[go_sem] theorem RM.aQ (x:RB) : (M.push x).heap M.next=some x:=by simp [RM.push]
theorem RM.Ul {x:RB} {c:Nat} (h:c≠M.next) : (M.push x).heap c=M.heap c:=by simp [RM.push,h]
@[go_sem] theorem RM.sV (b:Nat) (x:RB) : (M.put b x).heap b=some x:=by simp [RM.put]
end
end Go.Ab
set_option linter.unusedVariables false
set_option linter.unusedSimpArgs false
namespace Go.Ab
open Go Go.RowKit
abbrev bJ:AV:=.sc (.slice none 0 0)
inductive aN (M:RM) (size:Nat) : AV→List AV→Nat→Prop
 | nil:aN M size bJ [] 0
 | emp (b:Nat) : aN M size (.emp b) [] 0
 | slc (b o n:Nat) (cap:Cap) (cs:List AV) : b<M.next→M.loads b o (n * size)=some cs→aN M size (.slc b o n cap) cs n
section
variable {M M' : RM} {size:Nat} {v:AV} {cs:List AV} {n:Nat}
theorem Cv {b o k:Nat} {cs:List AV} (h:M.loads b o k=some cs) : cs.length=k:=by
 unfold RM.loads at h
 split at h <;> first | (cases h; done) | skip
 split at h <;> first | (cases h; done) | skip
 rename_i hle
 have:=Option.some.inj h
 rw [← this,List.length_take,List.length_drop]; omega
theorem QZ {b o k:Nat} {cs:List AV} (h:M.loads b o k=some cs) (i:Nat) (hi:i<k) : M.cell b (o + i)=cs[i]?:=by
 unfold RM.loads at h
 unfold RM.cell
 split at h <;> first | (cases h; done) | skip
 rename_i l hl
 split at h <;> first | (cases h; done) | skip
 cases h
 simp only [hl,Option.bind_some]
 rw [List.getElem?_take,if_pos hi,List.getElem?_drop]
theorem uh {b o k:Nat} {cs:List AV} (h:M.loads b o k=some cs) (i j:Nat) (hij:i + j≤k) : M.loads b (o + i) j=some ((cs.drop i).take j):=by
 unfold RM.loads at h ⊢
 cases hl:M.cells b with
 | none=>rw [hl] at h; cases h
 | some l =>
   rw [hl] at h
   simp only at h ⊢
   split at h
   ·rename_i hle
    have h:=Option.some.inj h
    subst h
    rw [if_pos (by omega),List.drop_take,List.drop_drop,List.take_take]
    congr 2
    omega
   ·cases h
theorem FQ {b o:Nat} {l:List AV} (h:M.cells b=some l) (ho:o≤l.length) : M.loads b o 0=some []:=by
 simp [RM.loads,h,ho]
theorem aN.length (h:aN M size v cs n) : cs.length=n * size:=by
 cases h with
 | nil=>exact (Nat.zero_mul _).symm
 | emp=>exact (Nat.zero_mul _).symm
 | slc b o n cap cs hb0 hl=>exact Cv hl
theorem aN.len (h:aN M size v cs n) {K:AV→Prop} : cK v K=K (N .i64 n):=by
 cases h with
 | nil=>exact EC
 | emp b=>exact U7 b
 | slc b o n cap cs hb0 hl=>exact lm b o n cap
theorem aN.oh (h:aN M size v cs n) (zs:List AV) : oh M size zs false v=some (n,cs):=by
 cases h with
 | nil=>rfl
 | emp b=>rfl
 | slc b o n cap cs hb0 hl=>simp only [Go.Ab.oh,hl]
theorem aN.pos (h:aN M size v cs n) (hn:0<n) : ∃ b o cap,v=.slc b o n cap∧b<M.next∧M.loads b o (n * size)=some cs:=by
 cases h with
 | nil=>omega
 | emp b=>omega
 | slc b o n cap cs hb0 hl=>exact ⟨b,o,cap,rfl,hb0,hl⟩
def aH:AV→List Nat
 | .slc b _ _ _=>[b]
 | _=>[]
theorem aN.keep {bs:List Nat} (h:aN M size v cs n) (hk:ag bs M M') (hb:∀ b∈aH v,b ∉ bs) : aN M' size v cs n:=by
 cases h with
 | nil=>exact .nil
 | emp b=>exact .emp b
 | slc b o n cap cs hb0 hl =>
   exact .slc b o n cap cs (Nat.lt_of_lt_of_le hb0 hk.next) (by rw [hk.loads hb0 (hb b (by simp [aH]))]; exact hl)
inductive Own (M:RM) (base el size:Nat) : AV→List AV→Nat→Prop
 | nil:Own M base el size bJ [] 0
 | ex0 (b o:Nat) : base≤b→b<M.next→(∃ l,M.cells b=some l∧o≤l.length)→Own M base el size (.slc b o 0 (.ex 0)) [] 0
 | op (b n:Nat) (cs:List AV) : base≤b→b<M.next→M.heap b=some (.row cs true el 0)→cs.length=n * size→Own M base el size (.slc b 0 n (.op size)) cs n
theorem Own.lG {base el:Nat} (h:Own M base el size v cs n) : aN M size v cs n:=by
 cases h with
 | nil=>exact .nil
 | ex0 b o hb hlt hc =>
   obtain ⟨l,hl,ho⟩:=hc
   exact .slc b o 0 _ [] hlt (by rw [Nat.zero_mul]; exact FQ hl ho)
 | op b n cs hb hlt hh hl =>
   refine .slc b 0 n _ cs hlt ?_
   rw [RM.dG hh (by omega)]
   simp [← hl]
theorem Own.blk {base el:Nat} (h:Own M base el size v cs n) : ∀ b∈aH v,base≤b∧b<M.next:=by
 cases h with
 | nil=>intro b hb; simp [aH] at hb
 | ex0 b o hb hlt hc=>intro c hc; simp [aH] at hc; subst hc; exact ⟨hb,hlt⟩
 | op b n cs hb hlt hh hl=>intro c hc; simp [aH] at hc; subst hc; exact ⟨hb,hlt⟩
theorem Own.keep {base el:Nat} {bs:List Nat} (h:Own M base el size v cs n) (hk:ag bs M M') (hb:∀ b∈aH v,b ∉ bs) : Own M' base el size v cs n:=by
 cases h with
 | nil=>exact .nil
 | ex0 b o h1 hlt hc=>exact .ex0 b o h1 (Nat.lt_of_lt_of_le hlt hk.next) (by rw [hk.cells hlt (hb b (by simp [aH]))]; exact hc)
 | op b n cs h1 hlt hh hl=>exact .op b n cs h1 (Nat.lt_of_lt_of_le hlt hk.next) (by rw [hk.heap b hlt (hb b (by simp [aH]))]; exact hh) hl
theorem Own.mono {base base' el:Nat} (h:Own M base el size v cs n) (hb:base'≤base) : Own M base' el size v cs n:=by
 cases h with
 | nil=>exact .nil
 | ex0 b o h1 hlt hc=>exact .ex0 b o (Nat.le_trans hb h1) hlt hc
 | op b n cs h1 hlt hh hl=>exact .op b n cs (Nat.le_trans hb h1) hlt hh hl
theorem CW {base el bytes:Nat} {zs:List AV} {zeros:Bool} {x:AV} {m:Nat} {ds:List AV} {K:ah} (h:Own M base el size v cs n) (hbase:base≤M.next) (hs:1≤size) (hx:oh M size zs zeros x=some (m,ds)) (hd:ds.length=m * size)
  (h1:ds.all oneCell=true) (hb:(n + m) * bytes≤140737488355328) (hb2:n + m≤140737488355328)
  (hK:∀ v' M',Own M' base el size v' (cs++ds) (n + m)→ag (aH v) M M'→M.next≤M'.next→(v'=v∨∀ b∈aH v',M.next≤b)→K v' M') : appW el size bytes zs zeros v x M K:=by
 have hmb:m * bytes≤140737488355328:=Nat.le_trans (Nat.mul_le_mul_right _ (by omega)) hb
 refine ⟨m,ds,hx,hmb,by omega, ?_⟩
 cases h with
 | nil =>
   by_cases hm:m=0
   ·subst hm
    have:ds=[]:=List.eq_nil_of_length_eq_zero (by simpa using hd)
    subst this
    exact ⟨bJ,M,by simp [pR],hK _ _ .nil (ag.refl _ _) (Nat.le_refl _) (.inl rfl)⟩
   ·refine ⟨.slc M.next 0 m (.op size),M.push (.row ds true el 0),by simp only [pR,if_neg hm,h1,if_true],hK _ _ ?_ ((ag.refl _ _).push _) (by simp [RM.push]) (.inr fun b hb=>by simp [aH] at hb; omega)⟩
    simp only [List.nil_append,Nat.zero_add]
    exact .op _ _ _ hbase (by simp [RM.push]) (RM.aQ _) hd
 | ex0 b o hb0 hlt hc =>
   obtain ⟨l,hl,ho⟩:=hc
   by_cases hm:m=0
   ·subst hm
    have:ds=[]:=List.eq_nil_of_length_eq_zero (by simpa using hd)
    subst this
    exact ⟨_,M,by simp [pR],hK _ _ (.ex0 b o hb0 hlt ⟨l,hl,ho⟩) (ag.refl _ _) (Nat.le_refl _) (.inl rfl)⟩
   ·refine ⟨.slc M.next 0 m (.op size),M.push (.row ds true el 0), ?_,hK _ _ ?_ ((ag.refl _ _).push _) (by simp [RM.push]) (.inr fun b hb=>by simp [aH] at hb; omega)⟩
    ·have hl0:M.loads b o (0 * size)=some []:=by rw [Nat.zero_mul]; exact FQ hl ho
     simp only [pR,if_neg hm]
     rw [if_neg (by omega),hl0]
     simp only [Nat.zero_add,List.nil_append]
     rw [if_pos ⟨hmb,by omega,h1⟩]
    ·simp only [List.nil_append,Nat.zero_add]
     exact .op _ _ _ hbase (by simp [RM.push]) (RM.aQ _) hd
 | op b n cs hb0 hlt hh hl =>
   by_cases hm:m=0
   ·subst hm
    have:ds=[]:=List.eq_nil_of_length_eq_zero (by simpa using hd)
    subst this
    exact ⟨_,M,by simp [pR],hK _ _ (by simpa using .op b n cs hb0 hlt hh hl) (ag.refl _ _) (Nat.le_refl _) (.inl rfl)⟩
   ·have hpos:1≤m * size:=Nat.mul_pos (by omega) hs
    have hsum:(n + m) * size=n * size + m * size:=Nat.add_mul _ _ _
    refine ⟨.slc M.next 0 (n + m) (.op size),(M.del b).push (.row (cs++ds) true el 0), ?_,hK _ _ ?_ (((ag.refl _ _).del (.inr (by simp [aH]))).push _) (by simp [RM.push,RM.del]) (.inr fun b hb=>by simp [aH] at hb; omega)⟩
    ·simp only [pR,if_neg hm,hh,and_self,if_true]
     rw [if_neg (by omega),if_pos ⟨trivial,hb,hb2,trivial,hl,Nat.zero_le _,h1⟩]
    ·exact .op _ _ _ (show base≤M.next from hbase) (by simp [RM.push,RM.del]) (by simp [RM.push,RM.del]) (by rw [List.length_append,hl,hd,hsum])
theorem aN.Da (h:aN M size v cs n) (neg:Bool) : (v=bJ∧∀ K:AV→Prop,jC neg 2 v bJ K=K (Bo (!neg)))∨(v≠bJ∧∀ K:AV→Prop,jC neg 2 v bJ K=K (Bo neg)):=by
 cases h with
 | nil=>exact .inl ⟨rfl,fun _=>Jj neg⟩
 | emp b=>exact .inr ⟨by (intro h; cases h),fun _=>Jg neg b⟩
 | slc b o n cap cs hb0 hl=>exact .inr ⟨by (intro h; cases h),fun _=>GX neg b o n cap⟩
theorem Own.lit {base el T:Nat} (M:RM) (h:base≤M.next) : Own (M.push (.row [] false T 0)) base el size (.slc M.next 0 0 (.ex 0)) [] 0 :=
 .ex0 _ _ h (by simp [RM.push]) ⟨[],by simp [RM.cells,RM.push],Nat.le_refl _⟩
end
end Go.Ab
set_option maxRecDepth 4000
set_option linter.unusedVariables false
set_option linter.unusedSimpArgs false
namespace Go.Ab
open Go
theorem wrap_u8 (n:Nat) : IntKind.wrap .u8 (n:Int)=((n % 256:Nat) : Int):=by
 simp only [IntKind.wrap,IntKind.bits,IntKind.signed,IntKind.max,IntKind.min]
 simp
theorem wrap_u64 (n:Nat) : IntKind.wrap .u64 (n:Int)=((n % 18446744073709551616:Nat) : Int):=by
 simp only [IntKind.wrap,IntKind.bits,IntKind.signed,IntKind.max,IntKind.min]
 simp
theorem OW {n:Int} (h0:0≤n) (h:n<256) : IntKind.wrap .u8 n=n:=by
 obtain ⟨m,rfl⟩:=Int.eq_ofNat_of_zero_le h0
 rw [wrap_u8,Nat.mod_eq_of_lt (by omega)]
theorem gV {n:Int} (h0:0≤n) (h:n<18446744073709551616) : IntKind.wrap .u64 n=n:=by
 obtain ⟨m,rfl⟩:=Int.eq_ofNat_of_zero_le h0
 rw [wrap_u64,Nat.mod_eq_of_lt (by omega)]
theorem aW {n:Int} (h0 : -9223372036854775808≤n) (h:n<9223372036854775808) : IntKind.wrap .i64 n=n:=by
 rw [IntKind.wrap_i64]; omega
theorem Wi (k:Nat) (a b:Nat) : (BitVec.ofInt k (a:Int) &&& BitVec.ofInt k (b:Int)).toNat=(a &&& b) % 2 ^ k:=by
 rw [BitVec.toNat_and,BitVec.ofInt_natCast,BitVec.ofInt_natCast,BitVec.toNat_ofNat,BitVec.toNat_ofNat,← Nat.and_mod_two_pow]
theorem Wl (k:Nat) (a b:Nat) : (BitVec.ofInt k (a:Int) ^^^ BitVec.ofInt k (b:Int)).toNat=(a ^^^ b) % 2 ^ k:=by
 rw [BitVec.toNat_xor,BitVec.ofInt_natCast,BitVec.ofInt_natCast,BitVec.toNat_ofNat,BitVec.toNat_ofNat,← Nat.xor_mod_two_pow]
theorem UD (a b:Nat) : ((a:Int).fdiv (b:Int))=((a / b:Nat) : Int):=by
 rw [Int.fdiv_eq_ediv_of_nonneg _ (by omega)]; rfl
def uX:IntKind→Nat
 | .u8=>8 | .u16=>16 | .u32=>32 | _=>64
def zK:IntKind→Bool
 | .u8 | .u16 | .u32 | .u64=>true
 | _=>false
theorem Fq {k:IntKind} (h:zK k=true) (n:Nat) : k.wrap (n:Int)=((n % 2 ^ uX k:Nat) : Int):=by
 cases k <;> simp [zK] at h <;> (simp only [IntKind.wrap,IntKind.bits,IntKind.signed,uX]; simp)
theorem LB (k:IntKind) (h:zK k=true) : k.bits=uX k:=by cases k <;> simp [zK] at h <;> rfl
theorem EL {k:IntKind} (h:zK k=true) (a b:Nat) : OG k a b=(((a &&& b) % 2 ^ uX k:Nat) : Int):=by
 unfold OG
 rw [Wi,Fq h,LB k h,Nat.mod_mod]
theorem Ty {k:IntKind} (h:zK k=true) (a b:Nat) : OQ k a b=(((a ^^^ b) % 2 ^ uX k:Nat) : Int):=by
 unfold OQ
 rw [Wl,Fq h,LB k h,Nat.mod_mod]
theorem Fe (k:IntKind) (a b:Nat) (hb:b≤k.bits) : Mj k a b=((a / 2 ^ b:Nat) : Int):=by
 unfold Mj
 rw [Int.toNat_natCast,Nat.min_eq_left hb,← UD,Int.natCast_pow]; rfl
theorem K5 {k:IntKind} (h:zK k=true) (a b:Nat) (hb:b≤k.bits) : QE k a b=((a * 2 ^ b % 2 ^ uX k:Nat) : Int):=by
 unfold QE
 rw [Int.toNat_natCast,Nat.min_eq_left hb,← Fq h,Int.natCast_mul,Int.natCast_pow]
 rfl
end Go.Ab
set_option linter.unusedVariables false
set_option linter.unusedSimpArgs false
namespace Go.Ab
open Go Go.RowKit
section
variable {P:Program}
theorem dM.opened {ρ:Ren} {M:RM} {w:World} {b n:Nat} {l:List AV} {el:Nat} {u:Value} (hw:dM P ρ M w) (hh:M.heap b=some (.row l true el 0)) (hl:l.length=n) (hv:aA ρ (.slc b 0 n (.op 1)) u) :
  ∃ c,n≤c∧aA ρ (.slc b 0 n (.ex c)) u∧dM P ρ (M.put b (.row (l++List.replicate (c - n) .top) true el 0)) w:=by
 obtain ⟨A,hA⟩:=hw
 obtain ⟨k,i,hb,hp,he,hk,rfl⟩:=wm hv
 rcases hA.blk b _ hh with ⟨y,hy,hle⟩ | ⟨_,e0,_⟩
 ·cases y <;> first | exact hle.elim | skip
  rename_i nn tree zs opn elem fz
  obtain ⟨r1,rfl,rfl,rfl,r5⟩:=hle
  obtain ⟨ob,hob,cs,fr,rfl,hrow⟩:=hA.rel.blk b i _ hb hy
  obtain ⟨h0,hcs,hels⟩:=hrow.opn rfl
  have hk0:k=0:=by
   rcases Nat.eq_zero_or_pos k with e | e
   ·exact e
   ·have:0<k * i.esz:=Nat.mul_pos e h0
    omega
  subst hk0
  have hsh:=hrow.sh0
  rw [← he,Nat.mul_one,hsh,Nat.zero_add] at hcs
  refine ⟨i.capN,by omega, ?_,⟨{ A with heap:=A.heap.set b (.row i.capN (Tree.ofList (l++List.replicate (i.capN - n) .top) 0 .leaf) [] true elem 0) },hA.next,⟨hA.rel.dom,fun b' i' x hb' hx=>?_,fun b1 b2 i1 i2 x1 x2 p1 p2 g1 g2 e=>?_,fun b' x hx=>?_,fun b' i' x hb' hx=>?_,hA.rel.inv⟩,hA.size,fun c x hx=>?_,hA.old⟩⟩
  ·have:=aA.slcS (ρ:=ρ) b 0 n i.capN i hb
   rw [Nat.zero_mul] at *
   simpa using this
  ·simp only [Tree.bG] at hx
   by_cases e:b'=b
   ·subst e
    rw [if_pos rfl] at hx
    cases hx
    rw [hb] at hb'; cases hb'
    refine ⟨_,hob,cs,fr,rfl,⟨by rw [hsh]; omega,fun j x hj=>?_,fun j h1 h2=>hrow.free j h1 h2,hrow.mark,fun _=>⟨h0,by rw [hsh,← he]; omega,hels⟩,hsh⟩⟩
    obtain ⟨hjlt,hj2⟩:=jO hj
    rw [Tree.jF] at hj2
    split at hj2
    ·rename_i hlt
     rw [Nat.sub_zero] at hj2
     by_cases hjl:j<l.length
     ·rw [List.getElem?_append_left hjl] at hj2
      exact hrow.val j x (r5 j x hj2)
     ·rw [List.getElem?_append_right (by omega),List.getElem?_replicate] at hj2
      split at hj2
      ·cases hj2
       exact ⟨cs[j]'(by omega),by rw [hsh,Nat.zero_add]; simp,.top _⟩
      ·cases hj2
    ·simp [Tree.get] at hj2
   ·rw [if_neg e] at hx
    exact hA.rel.blk b' i' x hb' hx
  ·have q:∀ {b1 x1},(A.heap.set b (bU.row i.capN (Tree.ofList (l++List.replicate (i.capN - n) .top) 0 .leaf) [] true elem 0)).get b1=some x1→∃ y,A.heap.get b1=some y:=by
    intro b1 x1 h
    rw [Tree.bG] at h
    by_cases e:b1=b
    ·subst e; exact ⟨_,hy⟩
    ·rw [if_neg e] at h; exact ⟨_,h⟩
   obtain ⟨y1,e1⟩:=q g1
   obtain ⟨y2,e2⟩:=q g2
   exact hA.rel.sep _ _ _ _ _ _ p1 p2 e1 e2 e
  ·simp only [Tree.bG] at hx
   by_cases e:b'=b
   ·subst e; exact hA.rel.top _ _ hy
   ·rw [if_neg e] at hx; exact hA.rel.top _ _ hx
  ·simp only [Tree.bG] at hx
   by_cases e:b'=b
   ·subst e; exact hA.rel.lo _ _ _ hb' hy
   ·rw [if_neg e] at hx; exact hA.rel.lo _ _ _ hb' hx
  ·simp only [RM.put] at hx
   simp only [Tree.bG]
   by_cases e:c=b
   ·subst e
    rw [if_pos rfl] at hx ⊢
    cases hx
    refine .inl ⟨_,rfl,by simp; omega,rfl,rfl,rfl,fun j v hj=>?_⟩
    have hjl:=(List.getElem?_eq_some_iff.1 hj).1
    exact tQ (by simp at hjl; omega) (by rw [Tree.jF,if_pos (by omega)]; simpa using hj)
   ·rw [if_neg e] at hx ⊢
    exact hA.blk c x hx
 ·cases e0
theorem fT.U0 {f:FuncId} {b n:Nat} {l:List AV} {el:Nat} {rest:List AV} {M:RM} {Q:ah} (hP:CP P f) (hh:M.heap b=some (.row l true el 0)) (hl:l.length=n)
  (h:∀ c,n≤c→fT P f (.slc b 0 n (.ex c) :: rest) (M.put b (.row (l++List.replicate (c - n) .top) true el 0)) Q) : fT P f (.slc b 0 n (.op 1) :: rest) M Q:=by
 refine ⟨hP,fun ρ w us hargs hw=>?_⟩
 cases hargs with
 | cons _ u _ us hv hr =>
 obtain ⟨c,hc,hv',hw'⟩:=hw.opened hh hl hv
 refine ((h c hc).2 ρ w (u :: us) (.cons _ _ _ _ hv' hr) hw').mono fun e w' hR=>?_
 obtain ⟨v',v,M',ρ',rfl,k1,k2,k3⟩:=hR
 exact ⟨v',v,M',ρ',rfl,⟨k1.step,k1.rel,k1.base,k1.next⟩,k2,k3⟩
end
end Go.Ab
set_option linter.unusedVariables false
set_option linter.unusedSimpArgs false
namespace Go.Ab
open Go Go.RowKit
def RM.old (base:Base) (w:World) : RM where
 next:=base.n
 heap:=fun b=>if b<base.n then (match w.heap[b]? with | some (.cells c _ _)=>some (.ro c) | _=>none) else none
 base:=base
def KL (n:Nat) : Ren:=fun b=>if b<n then some ⟨b,0,0,0⟩ else none
theorem Tn {P:Program} {base:Base} {w:World} (hn:base.n=w.heap.size) (hi:base.inv w) : dM P (KL base.n) (RM.old base w) w:=by
 refine ⟨{ next:=base.n,heap:=.leaf },rfl,⟨fun b i h=>?_,fun b i x _ h=>by simp [Tree.get] at h,fun b _ i _ x _ _ _ h=>by simp [Tree.get] at h,fun b x h=>by simp [Tree.get] at h,fun b i x _ h=>by simp [Tree.get] at h,hi⟩,by simp [RM.old,RM.lo,hn],fun b x h=>.inr ?_,fun c hc=>by have hc' : c<base.n:=hc; simp only [KL]; rw [if_pos hc']⟩
 ·simp only [KL] at h
  split at h <;> first | (cases h; done) | skip
  cases h
  exact ⟨by assumption,by rw [← hn]; assumption⟩
 ·simp only [RM.old] at h
  split at h <;> first | (cases h; done) | skip
  rename_i hlt
  split at h <;> first | (cases h; done) | skip
  rename_i c el fr hh
  cases h
  exact ⟨c,rfl,hlt,el,fr,hh⟩
theorem RM.Td {base:Base} {w:World} {b:Nat} {c:Array Value} {el:TypeId} {fr:_} (hb:b<base.n) (h:w.heap[b]?=some (.cells c el fr)) : (RM.old base w).cells b=some (c.toList.map (pU base.n)):=by
 simp only [RM.cells,RM.old,if_pos hb,h]
def mh (lo:Nat) : Value→AV
 | .agg cs=>.agg (cs.toList.map (pU lo))
 | v=>pU lo v
theorem KJ {ρ:Ren} {lo:Nat} (h:∀ c,c<lo→ρ c=some ⟨c,0,0,0⟩) : ∀ (vs:List Value),bn ρ (vs.map (pU lo)) vs
 | []=>.nil
 | v :: vs=>.cons _ _ _ _ (Ez h v) (KJ h vs)
theorem Vh {ρ:Ren} {lo:Nat} (h:∀ c,c<lo→ρ c=some ⟨c,0,0,0⟩) (v:Value) : aA ρ (mh lo v) v:=by
 unfold mh
 split
 ·exact .agg _ _ (KJ h _)
 ·exact Ez h v
theorem JS {ρ:Ren} {lo:Nat} (h:∀ c,c<lo→ρ c=some ⟨c,0,0,0⟩) : ∀ (vs:List Value),bn ρ (vs.map (mh lo)) vs
 | []=>.nil
 | v :: vs=>.cons _ _ _ _ (Vh h v) (JS h vs)
theorem fT.close {P:Program} {f:FuncId} {base:Base} {w:World} {us:Array Value} (hn:base.n=w.heap.size) (hi:base.inv w)
  (h:fT P f (us.toList.map (mh base.n)) (RM.old base w) fun v _=>v=Bo true) :
  Calls P f us w fun e w'=>e=.returned (.bool true)∧Below w.heap.size w w':=by
 have hr:=Tn (P:=P) hn hi
 refine ((h.2 (KL base.n) w us.toList (JS (fun c hc=>by simp only [KL]; rw [if_pos hc]) _) hr)).mono fun e w' hR=>?_
 obtain ⟨v',v,M',ρ',rfl,k1,k2,rfl⟩:=hR
 obtain ⟨rfl,_⟩:=bg k2
 refine ⟨rfl,k1.step.os,k1.step.tape,k1.step.output,k1.step.size,fun k hk=>k1.step.low k ?_⟩
 show k<base.n
 rw [hn]; exact hk
def BN:Option TypeDesc→Bool
 | some .bool | some (.int _) | some .string | some (.slice _) | some (.struct _) | some (.array _ _)=>false
 | _=>true
inductive Fits (P:Program) (M:RM) : TypeId→List AV→Prop
 | bool (t:TypeId) (b:Bool) : P.underlying t=some .bool→Fits P M t [Bo b]
 | int (t:TypeId) (k:IntKind) (n:Int) : P.underlying t=some (.int k)→k.min≤n→n≤k.max→Fits P M t [N k n]
 | str (t:TypeId) (s:List UInt8) : P.underlying t=some .string→s.length≤reachBytes→Fits P M t [St s]
 | nils (t e:TypeId) : P.underlying t=some (.slice e)→Fits P M t [bJ]
 | emp (t e:TypeId) (b:Nat) : P.underlying t=some (.slice e)→Fits P M t [.emp b]
 | slc (t e:TypeId) (b o n c:Nat) (cs:List AV) : P.underlying t=some (.slice e)→b<M.next→n≤c→c * P.bytesOf e≤reachBytes→M.loads b o (n * P.cellsOf e)=some cs →
   (∀ i,i<n→Fits P M e ((cs.drop (i * P.cellsOf e)).take (P.cellsOf e)))→Fits P M t [.slc b o n (.ex c)]
 | struct (t:TypeId) (fs:Array Field) (cs:List AV) : P.underlying t=some (.struct fs)→cs.length=P.cellsOf t →
   (∀ (i:Nat) (f:Field),fs[i]?=some f→Fits P M f.type ((cs.drop f.offset).take (P.cellsOf f.type)))→Fits P M t cs
 | array (t e:TypeId) (n:Nat) (cs:List AV) : P.underlying t=some (.array n e)→cs.length=P.cellsOf t →
   (∀ i,i<n→Fits P M e ((cs.drop (i * P.cellsOf e)).take (P.cellsOf e)))→Fits P M t cs
 | other (t:TypeId) (cs:List AV) : BN (P.underlying t)=true→Fits P M t cs
 | zero (t e:TypeId) (cs:List AV) : P.underlying t=some (.slice e)→P.cellsOf e=0→Fits P M t cs
theorem AR (a:Addr) : a.add 0=a:=by simp [Addr.add]
theorem u6 {w:World} {base:Nat} {a:Addr} {n:Nat} {cs:List Value} (h:w.cells? base a n=some cs) : cs.length=n∧∀ i,i<n→w.cell? (a.add i)=cs[i]?:=by
 unfold World.cells? at h
 split at h
 ·exact ⟨by simpa using mapM_some_length h,fun i hi=>mapM_some_get h i i (by simp [hi])⟩
 ·cases h
theorem cell?_at {w:World} {a:Addr} {v:Value} (h:w.cell? a=some v) : ∃ c el fr,w.heap[a.block]?=some (.cells c el fr)∧a.spot=none∧a.off<c.size∧c[a.off]?=some v:=by
 unfold World.cell? at h
 split at h
 ·rename_i c el fr hh
  split at h
  ·cases h
  ·rename_i hs
   exact ⟨c,el,fr,hh,by simpa using hs,(Array.getElem?_eq_some_iff.1 h).1,h⟩
 ·cases h
section
variable {H:Type} {enc:TypeId × Value→H} {P:Program} {base:Base} {w:World}
theorem sU {e:TypeId} {ds:List (DataW H)} {d:DataW H} (hd:d∈ds) {x:Nat} (hx:x∈d.weights P e) : x∈DataW.weightsAll P e ds:=by
 induction ds with
 | nil=>cases hd
 | cons y ys ih =>
   simp only [DataW.weightsAll,List.mem_append]
   rcases List.mem_cons.1 hd with rfl | hd
   ·exact .inl hx
   ·exact .inr (ih hd)
theorem wT {x:Nat} : ∀ (ts:List TypeId) (ds:List (DataW H)) (i:Nat) (t:TypeId) (d:DataW H),ts[i]?=some t→ds[i]?=some d→x∈d.weights P t→x∈DataW.weightsEach P ts ds
 | [],_,_,_,_,h,_,_=>by simp at h
 | _ :: _,[],_,_,_,_,h,_=>by simp at h
 | t :: ts,d :: ds,0,t',d',h,h',hx=>by
   simp at h h'; subst h h'
   simp only [DataW.weightsEach,List.mem_append]; exact .inl hx
 | t :: ts,d :: ds,i + 1,t',d',h,h',hx=>by
   simp only [DataW.weightsEach,List.mem_append]
   exact .inr (wT ts ds i t' d' (by simpa using h) (by simpa using h') hx)
theorem KM (hn:base.n=w.heap.size) {held:Bool} : ∀ (fuel:Nat) (t:TypeId) (cs:List Value) (x:DataW H × List MemPlace),DataW.trod enc P w 0 (fun _=>true) held fuel t cs=some x →
  (∀ y∈x.1.weights P t,y≤reachBytes)→Fits P (RM.old base w) t (cs.map (pU base.n)):=by
 intro fuel
 induction fuel with
 | zero=>intro t cs x h; simp [DataW.trod] at h
 | succ m ih =>
   intro t cs x h hw
   cases hu:P.underlying t with
   | none=>exact .other _ _ (by rw [hu]; rfl)
   | some d =>
     cases d with
     | bool =>
       obtain ⟨b,rfl,rfl⟩:=DataW.trod_bool hu h
       exact .bool t b hu
     | int k =>
       obtain ⟨n,rfl,rfl,hwf⟩:=DataW.trod_int hu h
       simp only [Lit.wf,Bool.and_eq_true,decide_eq_true_eq] at hwf
       exact .int t k n hu hwf.1 hwf.2
     | string =>
       obtain ⟨s,rfl,rfl,_⟩:=DataW.trod_string hu h
       exact .str t s.data.toList hu (hw _ (by simp [DataW.weights]))
     | slice e =>
       rcases DataW.trod_slice hu h with ⟨rfl,rfl⟩ | ⟨a,len,cap,elems,rest,n,hm,rfl,rfl,_,hlc,_,hel,hget,hrest,_⟩
       ·exact .nils t e hu
       ·cases hm
        rcases Nat.eq_zero_or_pos (P.cellsOf e) with hz | hz
        ·exact .zero t e _ hu hz
        rcases Nat.eq_zero_or_pos cap with hc | hc
        ·have hl0:len=0:=by omega
         subst hc hl0
         exact .emp t e 0 hu
        ·obtain ⟨hr1,hr2⟩:=hrest rfl
         have every:∀ i,i<cap→∃ es y,w.cells? 0 (a.add (i * P.cellsOf e)) (P.cellsOf e)=some es∧DataW.trod enc P w 0 (fun _=>true) held m e es=some y∧(y∈elems∨y∈rest):=by
          intro i hi
          by_cases hil:i<len
          ·have h1:=hget i hil
           have h2:elems[i]?=some (elems[i]'(by omega)):=by simp [hel,hil]
           rw [h2] at h1
           obtain ⟨es,e1,e2⟩:=Option.bind_eq_some_iff.1 h1
           exact ⟨es,_,e1,e2,.inl (List.getElem_mem _)⟩
          ·have h1:=hr2 (i - len) (by omega)
           rw [show len + (i - len)=i by omega] at h1
           have h2:rest[i - len]?=some (rest[i - len]'(by omega)):=by
            rw [List.getElem?_eq_getElem]
           rw [h2] at h1
           obtain ⟨es,e1,e2⟩:=Option.bind_eq_some_iff.1 h1
           exact ⟨es,_,e1,e2,.inr (List.getElem_mem _)⟩
         obtain ⟨es0,_,k0,_,_⟩:=every 0 hc
         obtain ⟨kl0,kg0⟩:=u6 k0
         have hc0:=kg0 0 hz
         rw [List.getElem?_eq_getElem (by omega)] at hc0
         obtain ⟨c,el,fr,hh,hsp,_,_⟩:=cell?_at hc0
         obtain ⟨b,o,sp⟩:=a
         rw [Nat.zero_mul,AR,AR] at hh hsp
         simp only at hh hsp
         subst hsp
         have hblt:b<base.n:=by rw [hn]; exact (Array.getElem?_eq_some_iff.1 hh).1
         have hlast:o + cap * P.cellsOf e≤c.size:=by
          obtain ⟨es1,_,k1,_,_⟩:=every (cap - 1) (by omega)
          obtain ⟨kl1,kg1⟩:=u6 k1
          have hc1:=kg1 (P.cellsOf e - 1) (by omega)
          rw [List.getElem?_eq_getElem (by omega)] at hc1
          obtain ⟨c',el',fr',hh',_,hlt,_⟩:=cell?_at hc1
          rw [eF,eF] at hh' hlt
          simp only at hh' hlt
          rw [hh] at hh'
          cases hh'
          have:cap * P.cellsOf e=(cap - 1) * P.cellsOf e + P.cellsOf e:=by
           rw [← Nat.succ_mul]; congr 1; omega
          omega
         have habs:pU base.n (.slice (some ⟨b,o,none⟩) len cap)=.slc b o len (.ex cap):=by
          obtain ⟨cap,rfl⟩ : ∃ k,cap=k + 1:=⟨cap - 1,by omega⟩
          simp only [pU,if_pos hblt]
         have hcells:=RM.Td hblt hh
         have hle:len * P.cellsOf e≤cap * P.cellsOf e:=Nat.mul_le_mul_right _ hlc
         have hload:(RM.old base w).loads b o (len * P.cellsOf e)=some (((c.toList.map (pU base.n)).drop o).take (len * P.cellsOf e)):=by
          simp only [RM.loads,hcells]
          rw [if_pos (by simp; omega)]
         simp only [List.map_cons,List.map_nil,habs]
         refine .slc t e b o len cap _ hu hblt hlc ?_ hload fun i hi=>?_
         ·have:=hw ((elems.length + rest.length) * P.bytesOf e) (by simp [DataW.weights,hu])
          rwa [hel,hr1,show len + (cap - len)=cap by omega] at this
         ·obtain ⟨es,y,k1,k2,k3⟩:=every i (by omega)
          have hlen:=(u6 k1).1
          have hes:((((c.toList.map (pU base.n)).drop o).take (len * P.cellsOf e)).drop (i * P.cellsOf e)).take (P.cellsOf e)=es.map (pU base.n):=by
           have hii:i * P.cellsOf e + P.cellsOf e≤len * P.cellsOf e:=by rw [← Nat.succ_mul]; exact Nat.mul_le_mul_right _ hi
           apply List.ext_getElem?
           intro j
           by_cases hj:j<P.cellsOf e
           ·have hg:=(u6 k1).2 j hj
            rw [List.getElem?_take,if_pos hj,List.getElem?_drop,List.getElem?_take,if_pos (by omega),List.getElem?_drop,List.getElem?_map,List.getElem?_map,← hg]
            rw [eF,eF]
            simp only [World.cell?,hh]
            rw [Array.getElem?_toList]
            simp [Nat.add_assoc]
           ·rw [List.getElem?_eq_none (by simp; omega),List.getElem?_eq_none (by simp; omega)]
          rw [hes]
          refine ih e es y k2 fun z hz=>hw z ?_
          simp only [DataW.weights,hu,List.mem_cons,List.mem_append]
          rcases k3 with k3 | k3
          ·exact .inr (.inl (sU (List.mem_map_of_mem k3) hz))
          ·exact .inr (.inr (sU (List.mem_map_of_mem k3) hz))
     | struct fs =>
       obtain ⟨xs,n,hm,rfl,hl,hxl,hget⟩:=DataW.trod_struct hu h
       cases hm
       refine .struct t fs _ hu (by simpa using hl) fun i f hf=>?_
       have h1:=hget i f hf
       have hi:i<fs.size:=(Array.getElem?_eq_some_iff.1 hf).1
       rw [List.getElem?_eq_getElem (by omega)] at h1
       rw [← List.map_drop,← List.map_take]
       refine ih _ _ _ h1 fun z hz=>hw z ?_
       simp only [DataW.weights,hu]
       refine wT _ _ i f.type _ (by simp [hf]) (by rw [List.getElem?_map,List.getElem?_eq_getElem (by omega)]; rfl) hz
     | array n e =>
       obtain ⟨xs,m',hm,rfl,hl,hxl,hget⟩:=DataW.trod_array hu h
       cases hm
       refine .array t e n _ hu (by simpa using hl) fun i hi=>?_
       have h1:=hget i hi
       rw [List.getElem?_eq_getElem (by omega)] at h1
       rw [← List.map_drop,← List.map_take]
       refine ih _ _ _ h1 fun z hz=>hw z ?_
       simp only [DataW.weights,hu]
       exact sU (List.mem_map_of_mem (List.getElem_mem _)) hz
     | _=>exact .other _ _ (by rw [hu]; rfl)
end
section
variable {P:Program} {M:RM} {t:TypeId} {cs:List AV}
theorem Fits.H9 (h:Fits P M t cs) {k:IntKind} (hu:P.underlying t=some (.int k)) : ∃ n:Int,cs=[N k n]∧k.min≤n∧n≤k.max:=by
 cases h with
 | int _ k' n h1 h2 h3=>rw [hu] at h1; cases h1; exact ⟨n,rfl,h2,h3⟩
 | _=>simp_all [BN]
theorem Fits.pY (h:Fits P M t cs) (hu:P.underlying t=some .string) : ∃ s,cs=[St s]∧s.length≤reachBytes:=by
 cases h with
 | str _ s h1 h2=>exact ⟨s,rfl,h2⟩
 | _=>simp_all [BN]
theorem Fits.Gw (h:Fits P M t cs) {fs:Array Field} (hu:P.underlying t=some (.struct fs)) : cs.length=P.cellsOf t∧∀ (i:Nat) (f:Field),fs[i]?=some f→Fits P M f.type ((cs.drop f.offset).take (P.cellsOf f.type)):=by
 cases h with
 | struct _ fs' _ h1 h2 h3=>rw [hu] at h1; cases h1; exact ⟨h2,h3⟩
 | _=>simp_all [BN]
theorem Fits.Jk (h:Fits P M t cs) {e:TypeId} (hu:P.underlying t=some (.slice e)) (hz:0<P.cellsOf e) :
  ∃ v n ds,cs=[v]∧aN M (P.cellsOf e) v ds n∧n * P.bytesOf e≤reachBytes∧∀ i,i<n→Fits P M e ((ds.drop (i * P.cellsOf e)).take (P.cellsOf e)):=by
 cases h with
 | nils _ e' h1=>exact ⟨_,0,[],rfl,.nil,by simp,fun i hi=>absurd hi (by omega)⟩
 | emp _ e' b h1=>exact ⟨_,0,[],rfl,.emp b,by simp,fun i hi=>absurd hi (by omega)⟩
 | slc _ e' b o n c ds h1 h2 h3 h4 h5 h6 =>
   rw [hu] at h1; cases h1
   exact ⟨_,n,ds,rfl,.slc b o n _ ds h2 h5,Nat.le_trans (Nat.mul_le_mul_right _ h3) h4,h6⟩
 | zero _ e' _ h1 h2=>rw [hu] at h1; cases h1; omega
 | _=>simp_all [BN]
theorem JK {α:Type} {size:Nat} (enc:α→List AV) (p:α→Prop) (hs:∀ a,(enc a).length=size) : ∀ (n:Nat) (ds:List AV),ds.length=n * size→(∀ i,i<n→∃ a,p a∧(ds.drop (i * size)).take size=enc a) →
  ∃ xs:List α,xs.length=n∧ds=xs.flatMap enc∧∀ x∈xs,p x
 | 0,ds,hl,_=>⟨[],rfl,by simpa using hl,by simp⟩
 | n + 1,ds,hl,h=>by
   obtain ⟨a,pa,ha⟩:=h 0 (by omega)
   simp only [Nat.zero_mul,List.drop_zero] at ha
   have hl' : (ds.drop size).length=n * size:=by rw [List.length_drop,hl,Nat.succ_mul]; omega
   obtain ⟨xs,h1,h2,h3⟩:=JK enc p hs n (ds.drop size) hl' fun i hi=>by
    obtain ⟨b,pb,hb⟩:=h (i + 1) (by omega)
    refine ⟨b,pb, ?_⟩
    rw [List.drop_drop,← hb,Nat.succ_mul,Nat.add_comm]
   refine ⟨a :: xs,by simp [h1], ?_,fun x hx=>?_⟩
   ·rw [List.flatMap_cons,← h2,← ha,List.take_append_drop]
   ·rcases List.mem_cons.1 hx with rfl | hx
    ·exact pa
    ·exact h3 x hx
end
def Im (P:Program) (t:TypeId) : Bool :=
 match P.underlying t with
 | some (.struct _) | some (.array _ _)=>true
 | _=>false
def mg (P:Program) (M:RM) (t:TypeId) (v:AV) : Prop :=
 match Im P t with
 | true=>∃ cs,v=.agg cs∧Fits P M t cs
 | false=>Fits P M t [v]
theorem mg.agg {P:Program} {M:RM} {t:TypeId} {v:AV} (h:mg P M t v) (ha:Im P t=true) : ∃ cs,v=.agg cs∧Fits P M t cs:=by
 unfold mg at h; rw [ha] at h; exact h
theorem mg.one {P:Program} {M:RM} {t:TypeId} {v:AV} (h:mg P M t v) (ha:Im P t=false) : Fits P M t [v]:=by
 unfold mg at h; rw [ha] at h; exact h
section
variable {H:Type} {enc:TypeId × Value→H} {P:Program} {base:Base} {w:World}
theorem LU {r:Reach} {b:Nat} {t:TypeId} {cs:Array Value} (h:Cell.okWide P w r b t (.agg cs)) : False:=by
 unfold Cell.okWide at h
 split at h <;> first | (rename_i e _; cases e; done) | skip
 all_goals first | (rename_i e; cases e; done) | skip
 unfold Cell.ok at h
 split at h <;> first | exact h | simp_all
theorem Vd (hn:base.n=w.heap.size) {r:Reach} {b:Nat} {held:Bool} {t:TypeId} {v:Value} {d:DataW H} {ps:List MemPlace} (hv:Value.okWide P w r b t v) (h:DataW.Trod enc P w 0 (fun _=>true) held t v d ps)
  (hw:∀ y∈d.weights P t,y≤reachBytes) : mg P (RM.old base w) t (mh base.n v):=by
 obtain ⟨fuel,hf⟩:=h
 have hfit:=KM hn fuel t _ _ hf hw
 unfold mg
 cases ha:Im P t with
 | true =>
   have:∃ cs,v=.agg cs:=by
    unfold Value.okWide at hv
    unfold Im at ha
    split at hv
    ·obtain ⟨cs,h,_⟩:=hv; exact ⟨cs,h⟩
    ·obtain ⟨cs,h,_⟩:=hv; exact ⟨cs,h⟩
    ·split at ha <;> simp_all
   obtain ⟨cs,rfl⟩:=this
   exact ⟨_,rfl,hfit⟩
 | false =>
   have hc:Cell.okWide P w r b t v:=by
    unfold Value.okWide at hv
    unfold Im at ha
    split at hv
    ·simp_all
    ·simp_all
    ·exact hv
   have:v.cells.toList=[v]∧mh base.n v=pU base.n v:=by
    cases v with
    | agg cs=>exact (LU hc).elim
    | _=>exact ⟨rfl,rfl⟩
   rw [this.1] at hfit
   rw [this.2]
   exact hfit
theorem Lc (hn:base.n=w.heap.size) {r:Reach} {b:Nat} {held:Bool} : ∀ {ts:List TypeId} {vs:List Value} {ds:List (DataW H)} {ps:List MemPlace},DataW.TrodAll enc P w 0 (fun _=>true) held ts vs ds ps →
  (∀ (j:Nat) t v,ts[j]?=some t→vs[j]?=some v→Value.okWide P w r b t v)→(∀ y∈DataW.weightsEach P ts ds,y≤reachBytes) →
  ∀ (j:Nat) t v,ts[j]?=some t→vs[j]?=some v→mg P (RM.old base w) t (mh base.n v)
 | [],_,_,_,_,_,_,j,t,v,h,_=>by simp at h
 | t0 :: ts,vs,ds,ps,h,hv,hw,j,t,v,hj,hvj=>by
   cases vs with
   | nil=>simp at hvj
   | cons v0 vs =>
   cases ds with
   | nil=>exact h.elim
   | cons d ds =>
   obtain ⟨p,q,h1,h2,_⟩:=h
   cases j with
   | zero =>
     simp at hj hvj; subst hj hvj
     exact Vd hn (hv 0 _ _ rfl rfl) h1 fun y hy=>hw y (by simp [DataW.weightsEach,hy])
   | succ j =>
     exact Lc hn h2 (fun j t v a b=>hv (j + 1) t v (by simpa using a) (by simpa using b)) (fun y hy=>hw y (by simp [DataW.weightsEach,hy])) j t v (by simpa using hj) (by simpa using hvj)
theorem Bd (hl:laidOutB P=true) {W W' : World} {sp:Nat→Bool} (hb:Below W.heap.size W W') : ∀ {ts:List TypeId} {vs:List Value} {ds:List (DataW H)} {ps:List MemPlace},
  (∀ t∈ts,P.readableRec t=true∧t<P.types.size)→DataW.TrodAll enc P W 0 (fun _=>true) true ts vs ds ps→(∀ p∈ps,p.block<W.heap.size)→(∀ p∈ps,sp p.block=true)→DataW.TrodAll enc P W' 0 sp true ts vs ds ps
 | [],vs,ds,ps,_,h,_,_=>by
   cases vs <;> cases ds <;> first | exact h | exact h.elim
 | t :: ts,vs,ds,ps,hr,h,hlt,hsp=>by
   cases vs with
   | nil=>cases ds <;> exact h.elim
   | cons v vs =>
   cases ds with
   | nil=>exact h.elim
   | cons d ds =>
   obtain ⟨p,q,h1,h2,rfl⟩:=h
   have hrt:=hr t (List.mem_cons_self ..)
   exact ⟨p,q,WideElems.Trod_stays hl hrt.1 hrt.2 h1 (fun x hx=>hb.same (hlt x (List.mem_append_left _ hx))) (fun x hx=>hsp x (List.mem_append_left _ hx)),
    Bd hl hb (fun t ht=>hr t (List.mem_cons_of_mem _ ht)) h2 (fun x hx=>hlt x (List.mem_append_right _ hx)) (fun x hx=>hsp x (List.mem_append_right _ hx)),rfl⟩
end
end Go.Ab
set_option linter.unusedVariables false
set_option linter.unusedSimpArgs false
namespace Go.Ab
open Go Go.RowKit
def RB.cells (lo:Nat) : RB→Option (List AV)
 | .row l _ _ _=>some l
 | .ro c=>some (c.toList.map (pU lo))
 | _=>none
@[go_sem] theorem RB.xn (lo:Nat) (l:List AV) (p:Bool) (e f:Nat) : RB.cells lo (.row l p e f)=some l:=rfl
theorem RM.EJ (M:RM) (b:Nat) : M.cells b=(M.heap b).bind (RB.cells M.lo):=by
 unfold RM.cells RB.cells
 cases M.heap b with
 | none=>rfl
 | some x=>cases x <;> rfl
def vS (l:Option (List AV)) (o k:Nat) : Option (List AV) :=
 match l with
 | some l=>if o + k≤l.length then some ((l.drop o).take k) else none
 | none=>none
@[go_sem] theorem XT (l:List AV) (o k:Nat) : vS (some l) o k=if o + k≤l.length then some ((l.drop o).take k) else none:=rfl
theorem RM.E5 (M:RM) (b o k:Nat) : M.loads b o k=vS (M.cells b) o k:=rfl
section
variable {M M' : RM}
@[go_sem] theorem RM.Tm (x:RB) (c:Nat) : (M.push x).heap c=if c=M.next then some x else M.heap c:=rfl
@[go_sem] theorem RM.heap_put (b:Nat) (x:RB) (c:Nat) : (M.put b x).heap c=if c=b then some x else M.heap c:=rfl
@[go_sem] theorem RM.Zh (b:Nat) (c:Nat) : (M.del b).heap c=if c=b then none else M.heap c:=rfl
@[go_sem] theorem RM.Yn (x:RB) : (M.push x).base=M.base:=rfl
@[go_sem] theorem RM.YT (b:Nat) (x:RB) : (M.put b x).base=M.base:=rfl
@[go_sem] theorem RM.Zp (b:Nat) : (M.del b).base=M.base:=rfl
theorem RM.Gc (x:RB) (c:Nat) : (M.push x).cells c=if c=M.next then x.cells M.lo else M.cells c:=by
 simp only [RM.EJ,RM.Tm]
 split <;> rfl
theorem RM.JB (b:Nat) (x:RB) (c:Nat) : (M.put b x).cells c=if c=b then x.cells M.lo else M.cells c:=by
 simp only [RM.EJ,RM.heap_put]
 split <;> rfl
@[go_sem] theorem RM.Yx (x:RB) (c o:Nat) : (M.push x).cell c o=if c=M.next then (x.cells M.lo).bind (·[o]?) else M.cell c o:=by
 simp only [RM.cell,RM.Gc]
 split <;> rfl
@[go_sem] theorem RM.Y3 (b:Nat) (x:RB) (c o:Nat) : (M.put b x).cell c o=if c=b then (x.cells M.lo).bind (·[o]?) else M.cell c o:=by
 simp only [RM.cell,RM.JB]
 split <;> rfl
@[go_sem] theorem RM.X0 (x:RB) (c o k:Nat) : (M.push x).loads c o k=if c=M.next then vS (x.cells M.lo) o k else M.loads c o k:=by
 simp only [RM.E5,RM.Gc]
 split <;> rfl
@[go_sem] theorem RM.YH (b:Nat) (x:RB) (c o k:Nat) : (M.put b x).loads c o k=if c=b then vS (x.cells M.lo) o k else M.loads c o k:=by
 simp only [RM.E5,RM.JB]
 split <;> rfl
def nW (l:List AV) (fz o:Nat) (vs:List AV) : Option (List AV) :=
 if o + vs.length≤l.length∧fz≤o∧vs.all oneCell=true then some (l.take o++vs++l.drop (o + vs.length)) else none
theorem nJ {l vs:List AV} {fz o:Nat} (h1:o + vs.length≤l.length) (h2:fz≤o) (h3:vs.all oneCell=true) : nW l fz o vs=some (l.take o++vs++l.drop (o + vs.length)):=if_pos ⟨h1,h2,h3⟩
@[go_sem] theorem JV {l vs:List AV} (h:vs.length=l.length) (h3:vs.all oneCell=true) : nW l 0 0 vs=some vs:=by
 rw [nJ (by omega) (Nat.le_refl _) h3]
 simp [h]
theorem RM.xC {b o:Nat} {vs l:List AV} {p:Bool} {e f:Nat} (h:M.heap b=some (.row l p e f)) : M.stores b o vs=(nW l f o vs).map fun l'=>M.put b (.row l' p e f):=by
 simp only [RM.stores,h,nW]
 split <;> rfl
theorem RM.UR {x y:RB} : (M.push x).put M.next y=M.push y:=by
 simp only [RM.put,RM.push]
 congr 1
 funext c
 split <;> rfl
theorem RM.KX {x y:RB} {b:Nat} (hb:b≠M.next) : (M.push x).put b y=(M.put b y).push x:=by
 simp only [RM.put,RM.push]
 congr 1
 funext c
 by_cases h1:c=b
 ·subst h1; simp [hb]
 ·simp [h1]
theorem RM.Gd {l vs:List AV} {p:Bool} {e f o:Nat} : (M.push (.row l p e f)).stores M.next o vs=(nW l f o vs).map fun l'=>M.push (.row l' p e f):=by
 rw [RM.xC (RM.aQ _)]
 congr 1
 funext l'
 exact RM.UR
theorem RM.Ga {M:RM} {b o:Nat} {vs:List AV} : M.stores b o vs=match M.heap b with
  | some (.row l p e f)=>(nW l f o vs).map fun l'=>M.put b (.row l' p e f)
  | _=>none:=by
 cases h:M.heap b with
 | none=>simp [RM.stores,h]
 | some x =>
   cases x with
   | row l p e f=>rw [RM.xC h]
   | _=>simp [RM.stores,h]
@[go_sem] theorem RM.GN {x:RB} {vs:List AV} {c o:Nat} (hc:c≠M.next) : (M.push x).stores c o vs=(M.stores c o vs).map (·.push x):=by
 rw [RM.Ga,RM.Ga,RM.Ul hc]
 split
 ·simp only [Option.map_map]
  congr 1
  funext l'
  exact RM.KX hc
 ·rfl
@[go_sem] theorem RM.XP {l vs:List AV} {p:Bool} {e f c o:Nat} : (M.push (.row l p e f)).stores c o vs =
  if c=M.next then (nW l f o vs).map fun l'=>M.push (.row l' p e f) else (M.stores c o vs).map (·.push (.row l p e f)):=by
 split
 ·rename_i h; subst h; exact RM.Gd
 ·rename_i h; exact RM.GN h
@[go_sem] theorem RM.Vo {b o:Nat} {l vs:List AV} {p:Bool} {e f:Nat} : (M.put b (.row l p e f)).stores b o vs=(nW l f o vs).map fun l'=>M.put b (.row l' p e f):=by
 rw [RM.xC (RM.sV _ _)]
 congr 1
 funext l'
 simp only [RM.put]
 congr 1
 funext c
 split <;> rfl
@[go_sem] theorem ZT {α:Type} (a:α) (K:α→Prop) : (∃ x,some a=some x∧K x)=K a:=by simp
@[go_sem] theorem XN {α β:Type} (f:α→β) (x:α) : (some x).map f=some (f x):=rfl
attribute [go_sem] Int.natCast_nonneg Int.toNat_natCast Nat.mul_one true_implies false_implies Bool.false_eq_true Bool.true_eq_false Bool.not_true Bool.not_false Bool.and_self Bool.and_true Bool.true_and Nat.le_refl List.append_nil List.nil_append if_true if_false Nat.lt_irrefl Nat.add_one_ne_zero true_and and_true Nat.zero_add Nat.add_zero List.drop_zero List.getElem?_cons_zero List.getElem?_cons_succ Option.bind_some List.take_succ_cons List.take_zero List.drop_succ_cons List.drop_nil List.take_nil
attribute [go_sem] gz List.all_cons List.all_nil List.length_cons List.length_nil
@[go_sem] theorem YB (cs:List AV) : (AV.agg cs).cells=cs:=rfl
@[go_sem] theorem Y4 (v:Value) : (AV.sc v).cells=[.sc v]:=rfl
@[go_sem] theorem Ym (b o:Nat) : (AV.ptr b o).cells=[.ptr b o]:=rfl
@[go_sem] theorem YD (b o n:Nat) (c:Cap) : (AV.slc b o n c).cells=[.slc b o n c]:=rfl
@[go_sem] theorem Yy (b:Nat) : (AV.emp b).cells=[.emp b]:=rfl
@[go_sem] theorem Yf (b:Nat) : (AV.map b).cells=[.map b]:=rfl
@[go_sem] theorem YN (f:Fn) (xs ys:List AV) : (AV.fn f xs ys).cells=[.fn f xs ys]:=rfl
@[go_sem] theorem Lr (v:Value) : oneCell (.sc v)=true:=rfl
@[go_sem] theorem ZN (b o:Nat) : oneCell (.ptr b o)=true:=rfl
@[go_sem] theorem ZQ (b o n:Nat) (c:Cap) : oneCell (.slc b o n c)=true:=rfl
@[go_sem] theorem ZU (b:Nat) : oneCell (.emp b)=true:=rfl
@[go_sem] theorem ZR (b:Nat) : oneCell (.map b)=true:=rfl
@[go_sem] theorem ZW (f:Fn) (xs ys:List AV) : oneCell (.fn f xs ys)=true:=rfl
end
theorem RM.Uv {M:RM} {b:Nat} {l:List AV} {p:Bool} {e f:Nat} (h:M.heap b=some (.row l p e f)) (o k:Nat) : M.loads b o k=vS (some l) o k:=by rw [RM.E5,RM.xn h]
theorem RM.cell_of {M:RM} {b:Nat} {l:List AV} {p:Bool} {e f:Nat} (h:M.heap b=some (.row l p e f)) (o:Nat) : M.cell b o=l[o]?:=RM.Uq h
theorem RM.ul {M:RM} {b:Nat} {l:List AV} {p:Bool} {e f:Nat} (h:M.heap b=some (.row l p e f)) (o:Nat) (vs:List AV) : M.stores b o vs=(nW l f o vs).map fun l'=>M.put b (.row l' p e f):=RM.xC h
theorem ag.aK {bs:List Nat} {M M' : RM} (h:ag bs M M') {b:Nat} {x:RB} (hh:M.heap b=some x) (hlt:b<M.next) (hb:b ∉ bs) : M'.heap b=some x:=by rw [h.heap b hlt hb,hh]
end Go.Ab
set_option linter.unusedVariables false
set_option linter.unusedSimpArgs false
namespace Go.Ab
open Go Go.RowKit
def QM (tab run:fu) : fu:=fun f args A=>match tab f args A with
 | some r=>some r
 | none=>run f args A
def CR (P:Program) (X:Ext) (tab:fu) (L:Nat) : Nat→fu
 | 0,_,_,_=>none
 | n + 1,f,args,A=>match has X.split f with
   | true=>Li (Kl P X L (QM tab (CR P X tab L n))) f args A
   | false=>Kl P X L (QM tab (CR P X tab L n)) f args A
inductive ZY where
 | val (v:AV)
 | rows (n:Nat) (v:AV) (bs:List (Nat × bU)) (n' : Nat)
structure aL where
 args:List AV
 fp:List (Nat × bU):=[]
 dead:List Nat:=[]
 nx:Nat:=0
 ans:ZY
def uA:Tree bU→List (Nat × bU)→Tree bU
 | t,[]=>t
 | t,(b,x) :: r=>uA (t.set b x) r
def Br:Tree bU→List Nat→Tree bU
 | t,[]=>t
 | t,b :: r=>Br (t.del b) r
def Db (A:AW) : List (Nat × bU)→Bool
 | []=>true
 | (b,x) :: r=>match A.heap.get b with
   | some y=>Al x y && Db A r
   | none=>false
def Va (A:AW) (e:aL) : Option (AV × AW) :=
 match Db A e.fp with
 | false=>none
 | true=>match e.ans with
   | .val v=>some (v,A)
   | .rows n v bs n'=>match Nat.beq n A.next with
     | true=>some (v,{ next:=n',heap:=uA (Br A.heap e.dead) bs })
     | false=>none
def Dt:List aL→List AV→AW→Option (AV × AW)
 | [],_,_=>none
 | e :: es,args,A=>match oZ e.args args with
   | true=>match Va A e with
     | some r=>some r
     | none=>Dt es args A
   | false=>Dt es args A
abbrev Table:=List (Nat × List aL)
def zL:Table→fu
 | [],_,_,_=>none
 | (g,es) :: T,f,args,A=>match Nat.beq g f with
   | true=>match Dt es args A with
     | some r=>some r
     | none=>zL T f args A
   | false=>zL T f args A
def GR:List Nat→Nat→Bool
 | [],_=>false
 | k :: ks,b=>match Nat.beq k b with
   | true=>true
   | false=>GR ks b
mutual
def within (ks:List Nat) : AV→Bool
 | .sc _ | .top | .atl _=>true
 | .ptr b _ | .slc b _ _ _ | .emp b | .map b=>GR ks b
 | .fn _ xs ys=>mM ks xs && mM ks ys
 | .ifc _ x=>within ks x
 | .agg xs | .tup xs=>mM ks xs
def mM (ks:List Nat) : List AV→Bool
 | []=>true
 | x :: xs=>within ks x && mM ks xs
end
theorem nY {b:Nat} : ∀ {ks:List Nat},GR ks b=true↔b∈ks
 | []=>by simp [GR]
 | k :: ks=>by
   simp only [GR]
   split
   ·rename_i h
    simp [bH h]
   ·rename_i h
    rw [nY,List.mem_cons]
    constructor
    ·exact .inr
    ·rintro (e | e)
     ·exact absurd e.symm (xE h)
     ·exact e
mutual
theorem nO {ρ ρ' : Ren} {ks:List Nat} (hk:∀ b∈ks,∀ i,ρ b=some i→ρ' b=some i) : ∀ (x:AV) {v:Value},within ks x=true→aA ρ x v→aA ρ' x v
 | .top,v,_,_=>.top v
 | .atl k,v,_,hr=>by cases hr; exact .atl _ _ (by assumption)
 | .sc u,v,_,hr=>by cases hr; exact .sc _ (by assumption)
 | .ptr b o,v,h,hr=>by
   simp only [within] at h
   cases hr with
   | ptr _ _ i e=>exact .ptr _ _ i (hk b (nY.1 h) i e)
 | .slc b o l c,v,h,hr=>by
   simp only [within] at h
   cases hr with
   | slcS _ _ _ c i e=>exact .slcS _ _ _ c i (hk b (nY.1 h) i e)
   | slcO _ k _ i e q=>exact .slcO _ k _ i (hk b (nY.1 h) i e) q
 | .emp b,v,h,hr=>by
   simp only [within] at h
   cases hr with
   | emp _ a c=>exact .emp _ a c
 | .map b,v,h,hr=>by
   simp only [within] at h
   cases hr with
   | map _ i e=>exact .map _ i (hk b (nY.1 h) i e)
 | .fn f xs ys,v,h,hr=>by
   simp only [within,Bool.and_eq_true] at h
   cases hr with
   | fn _ _ _ us vs p a b=>exact .fn f xs ys us vs p (mJ hk xs h.1 a) (mJ hk ys h.2 b)
 | .ifc t x,v,h,hr=>by
   simp only [within] at h
   cases hr with
   | ifc _ _ v a=>exact .ifc t x v (nO hk x h a)
 | .agg xs,v,h,hr=>by
   simp only [within] at h
   cases hr with
   | agg _ vs a=>exact .agg xs vs (mJ hk xs h a)
 | .tup xs,v,h,hr=>by
   simp only [within] at h
   cases hr with
   | tup _ vs a=>exact .tup xs vs (mJ hk xs h a)
theorem mJ {ρ ρ' : Ren} {ks:List Nat} (hk:∀ b∈ks,∀ i,ρ b=some i→ρ' b=some i) : ∀ (xs:List AV) {vs:List Value},mM ks xs=true→bn ρ xs vs→bn ρ' xs vs
 | [],vs,_,hr=>by cases hr; exact .nil
 | x :: xs,vs,h,hr=>by
   simp only [mM,Bool.and_eq_true] at h
   cases hr with
   | cons _ v _ vs a b=>exact .cons x v xs vs (nO hk x h.1 a) (mJ hk xs h.2 b)
end
def yQ (p:AV→Bool) : Tree AV→Bool
 | .leaf=>true
 | .node l v r=>(match v with
   | some x=>p x
   | none=>true) && yQ p l && yQ p r
theorem xI {p:AV→Bool} : ∀ {t:Tree AV} {k:Nat} {x:AV},yQ p t=true→t.get k=some x→p x=true
 | .leaf,k,x,_,h=>by simp [Tree.get] at h
 | .node l v r,k,x,ha,h=>by
   simp only [yQ,Bool.and_eq_true] at ha
   simp only [Tree.get] at h
   split at h
   ·rw [h] at ha; exact ha.1.1
   ·split at h
    ·exact xI ha.1.2 h
    ·exact xI ha.2 h
def FT (ks:List Nat) : List (AV × AV × Nat)→Bool
 | []=>true
 | (k,v,_) :: es=>within ks k && within ks v && FT ks es
def Ke (ks:List Nat) : bU→Bool
 | .row _ t zs _ _ _=>yQ (within ks) t && mM ks zs
 | .map es _=>FT ks es
 | .iter m _ _ _=>match m with
   | some b=>GR ks b
   | none=>true
 | .siter _ _=>true
theorem Eb {ks:List Nat} : ∀ {xs:List AV},mM ks xs=true→∀ x∈xs,within ks x=true
 | [],_,x,h=>by cases h
 | y :: ys,h,x,hx=>by
   simp only [mM,Bool.and_eq_true] at h
   rcases List.mem_cons.1 hx with e | hx
   ·rw [e]; exact h.1
   ·exact Eb h.2 x hx
theorem N8 {β:Type} : ∀ {l:List β} {n:Nat} {x:β},nth l n=some x→x∈l
 | [],_,_,h=>by simp [nth] at h
 | y :: ys,0,x,h=>by simp [nth] at h; simp [h]
 | y :: ys,n + 1,x,h=>by
   simp only [nth] at h
   exact List.mem_cons_of_mem _ (N8 h)
theorem RH {tree:Tree AV} {zs:List AV} {n k:Nat} {x:AV} (h:cellAt tree zs n k=some x) : tree.get k=some x∨x∈zs:=by
 unfold cellAt at h
 split at h
 ·cases h
 ·split at h
  ·rename_i v hv
   cases h
   exact .inl hv
  ·split at h
   ·cases h
   ·cases h
    exact .inr (List.mem_cons_self ..)
   ·exact .inr (N8 h)
theorem dP.restrict {ρ ρ' : Ren} {ks:List Nat} (hk:∀ b∈ks,∀ i,ρ b=some i→ρ' b=some i) : ∀ {es:List (AV × AV × Nat)} {fs:List MapEntry},FT ks es=true→dP ρ es fs→dP ρ' es fs
 | [],[],_,_=>trivial
 | [],_ :: _,_,h=>h.elim
 | _ :: _,[],_,h=>h.elim
 | (a,b,n) :: es,f :: fs,h,⟨h1,h2,h3,h4⟩=>by
   simp only [FT,Bool.and_eq_true] at h
   exact ⟨nO hk a h.1.1 h1,nO hk b h.1.2 h2,h3,dP.restrict hk h.2 h4⟩
theorem iD.restrict {P:Program} {ρ ρ' : Ren} {ks:List Nat} (hk:∀ b∈ks,∀ i,ρ b=some i→ρ' b=some i) {i:gq} : ∀ {x:bU} {o:Obj},Ke ks x=true→iD P ρ i x o→iD P ρ' i x o
 | .row n t zs opn el fz,o,h,⟨c,fr,e,k⟩=>by
   simp only [Ke,Bool.and_eq_true] at h
   refine ⟨c,fr,e,k.size,fun j x hx=>?_,k.free,k.mark,k.opn,k.sh0⟩
   obtain ⟨v,h1,h2⟩:=k.val j x hx
   refine ⟨v,h1,nO hk x ?_ h2⟩
   rcases RH hx with hx | hx
   ·exact xI h.1 hx
   ·exact Eb h.2 x hx
 | .map es clock,o,h,⟨fs,e,k⟩=>⟨fs,e,dP.restrict hk h k⟩
 | .iter m since seen st,o,h,⟨m',e,k⟩=>by
   refine ⟨m',e, ?_⟩
   cases m with
   | none=>exact k
   | some b =>
     obtain ⟨j,h1,h2⟩:=k
     exact ⟨j,hk b (nY.1 h) j h1,h2⟩
 | .siter s pos,o,h,k=>k
section
variable {P:Program} {X:Ext}
theorem F6 {base:Base} {tab run:fu} (ht:jw P base tab) (hr:jw P base run) : jw P base (QM tab run):=by
 intro f args A v A' h
 unfold QM at h
 split at h
 ·rename_i r hr'
  cases h
  exact ht f args A v A' hr'
 ·exact hr f args A v A' h
theorem xO {base:Base} (hng:Ba P X) (hm:P.follows .mixedOrders=true) {tab:fu} (ht:jw P base tab) (L:Nat) : ∀ n,jw P base (CR P X tab L n)
 | 0=>by intro f args A v A' h; simp [CR] at h
 | n + 1=>by
   intro f args A v A' h
   simp only [CR] at h
   split at h
   ·exact MH (DR hng hm L (F6 ht (xO hng hm ht L n))) f args A v A' h
   ·exact DR hng hm L (F6 ht (xO hng hm ht L n)) f args A v A' h
def OD (P:Program) (I:World→Prop) (f:Nat) (e:aL) : Prop :=
 ∀ (base:Base),(∀ w,base.inv w→I w)→∀ A v A',Va A e=some (v,A')→∀ (ρ:Ren) (w:World) (us:List Value),bn ρ e.args us→bI P base ρ A w→base≤w.heap.size →
   Calls P f ⟨us⟩ w fun r w'=>∃ ρ' v',r=.returned v'∧Step base A.next ρ w ρ' w'∧bI P base ρ' A' w'∧A.next≤A'.next∧aA ρ' v v'
def gW (P:Program) (I:World→Prop) (T:Table) : Prop:=∀ g∈T,∀ e∈g.2,OD P I g.1 e
theorem ym {base:Base} {I:World→Prop} (hI:∀ w,base.inv w→I w) {f:Nat} : ∀ (es:List aL),(∀ e∈es,OD P I f e)→∀ {args A v A'},Dt es args A=some (v,A')→∀ (ρ:Ren) (w:World) (us:List Value),bn ρ args us→bI P base ρ A w→base≤w.heap.size →
  Calls P f ⟨us⟩ w fun r w'=>∃ ρ' v',r=.returned v'∧Step base A.next ρ w ρ' w'∧bI P base ρ' A' w'∧A.next≤A'.next∧aA ρ' v v'
 | [],_,args,A,v,A',h=>by simp [Dt] at h
 | e :: es,hes,args,A,v,A',h=>by
   simp only [Dt] at h
   split at h
   ·rename_i hq
    have hq:=nH _ _ hq
    subst hq
    split at h
    ·rename_i r hr
     cases h
     exact hes e (List.mem_cons_self ..) base hI A v A' hr
    ·exact ym hI es (fun e he=>hes e (List.mem_cons_of_mem _ he)) h
   ·exact ym hI es (fun e he=>hes e (List.mem_cons_of_mem _ he)) h
theorem yg {base:Base} {I:World→Prop} (hI:∀ w,base.inv w→I w) : ∀ (T:Table),gW P I T→jw P base (zL T)
 | [],_=>by intro f args A v A' h; simp [zL] at h
 | (g,es) :: T,hT=>by
   intro f args A v A' h
   have hrest:=yg hI T (fun g hg=>hT g (List.mem_cons_of_mem _ hg))
   simp only [zL] at h
   split at h
   ·rename_i hq
    have hq:=bH hq
    subst hq
    split at h
    ·rename_i r hr
     cases h
     exact ym hI es (hT (g,es) (List.mem_cons_self ..)) hr
    ·exact hrest g args A v A' h
   ·exact hrest f args A v A' h
theorem uV:∀ (bs:List (Nat × bU)) (t:Tree bU) {k:Nat} {x:bU},(uA t bs).get k=some x→(k,x)∈bs∨(t.get k=some x∧∀ y,(k,y) ∉ bs)
 | [],t,k,x,h=>.inr ⟨h,fun y hy=>by cases hy⟩
 | (b,y) :: r,t,k,x,h=>by
   simp only [uA] at h
   rcases uV r _ h with h | ⟨h,hn⟩
   ·exact .inl (List.mem_cons_of_mem _ h)
   ·rw [Tree.bG] at h
    split at h
    ·rename_i e
     cases h
     subst e
     exact .inl (List.mem_cons_self ..)
    ·rename_i hne
     refine .inr ⟨h,fun z hz=>?_⟩
     rcases List.mem_cons.1 hz with e | hz
     ·cases e; exact hne rfl
     ·exact hn z hz
theorem zR:∀ (ds:List Nat) (t:Tree bU) {k:Nat} {x:bU},(Br t ds).get k=some x→t.get k=some x∧k ∉ ds
 | [],t,k,x,h=>⟨h,by simp⟩
 | d :: r,t,k,x,h=>by
   simp only [Br] at h
   obtain ⟨h1,h2⟩:=zR r _ h
   rw [Tree.rY] at h1
   split at h1
   ·cases h1
   ·rename_i hne
    exact ⟨h1,by simp only [List.mem_cons,not_or]; exact ⟨hne,h2⟩⟩
theorem Cn {A:AW} : ∀ (l:List (Nat × bU)),Db A l=true→∀ b x,(b,x)∈l→A.heap.get b=some x
 | [],_,b,x,hm=>by cases hm
 | (c,y) :: r,h,b,x,hm=>by
   simp only [Db] at h
   split at h <;> first | (cases h; done) | skip
   rename_i z hz
   rw [Bool.and_eq_true] at h
   rcases List.mem_cons.1 hm with e | hm
   ·cases e
    rw [hz,wo h.1]
   ·exact Cn r h.2 b x hm
def keysOf:List (Nat × bU)→List Nat
 | []=>[]
 | (b,_) :: r=>b :: keysOf r
theorem zU {b:Nat} : ∀ {l:List (Nat × bU)},b∈keysOf l↔∃ x,(b,x)∈l
 | []=>by simp [keysOf]
 | (c,y) :: r=>by
   simp only [keysOf,List.mem_cons,zU (l:=r)]
   constructor
   ·rintro (e | ⟨x,h⟩)
    ·subst e; exact ⟨y,.inl rfl⟩
    ·exact ⟨x,.inr h⟩
   ·rintro ⟨x,h | h⟩
    ·cases h; exact .inl rfl
    ·exact .inr ⟨x,h⟩
def QD (ks:List Nat) (n:Nat) : List (Nat × bU)→List Nat→Bool
 | [],_=>true
 | (b,x) :: r,seen=>Ke ks x && Nat.ble (b + 1) n && !GR seen b && QD ks n r (b :: seen)
theorem Jv {ks:List Nat} {n:Nat} : ∀ (l:List (Nat × bU)) (seen:List Nat),QD ks n l seen=true→(∀ b x,(b,x)∈l→Ke ks x=true∧b<n∧b ∉ seen)∧∀ b x y,(b,x)∈l→(b,y)∈l→x=y
 | [],_,_=>⟨fun b x h=>(by cases h),fun b x y h=>(by cases h)⟩
 | (c,z) :: r,seen,h=>by
   simp only [QD,Bool.and_eq_true,Bool.not_eq_true'] at h
   obtain ⟨⟨⟨h1,h2⟩,h3⟩,h4⟩:=h
   obtain ⟨i1,i2⟩:=Jv r (c :: seen) h4
   have hc:c ∉ seen:=fun hm=>by rw [nY.2 hm] at h3; cases h3
   refine ⟨fun b x hm=>?_,fun b x y hx hy=>?_⟩
   ·rcases List.mem_cons.1 hm with e | hm
    ·cases e; exact ⟨h1,bC h2,hc⟩
    ·obtain ⟨a1,a2,a3⟩:=i1 b x hm
     exact ⟨a1,a2,fun h=>a3 (List.mem_cons_of_mem _ h)⟩
   ·rcases List.mem_cons.1 hx with e | hx <;> rcases List.mem_cons.1 hy with f | hy
    ·cases e; cases f; rfl
    ·cases e
     exact absurd (List.mem_cons_self ..) (i1 _ _ hy).2.2
    ·cases f
     exact absurd (List.mem_cons_self ..) (i1 _ _ hx).2.2
    ·exact i2 b x y hx hy
def Gz (ks:List Nat) (n:Nat) (A:AW) : List (Nat × bU)→Bool
 | []=>true
 | (b,x) :: r=>(Nat.ble n b || GR ks b) && (match A.heap.get b with
   | some y=>Al x y
   | none=>false) && Gz ks n A r
def BO (A:AW) (gone:List Nat) : List (Nat × bU)→Bool
 | []=>true
 | (b,x) :: r=>(GR gone b || (match A.heap.get b with
   | some y=>Al x y
   | none=>false)) && BO A gone r
def yU (e:aL) : Nat:=match e.ans with
 | .val _=>e.nx
 | .rows m _ _ _=>m
def EU (P:Program) (X:Ext) (tab:fu) (L n:Nat) (f:Nat) (e:aL) : Bool :=
 match mM (keysOf e.fp) e.args && QD (keysOf e.fp) (yU e) e.fp [] with
 | false=>false
 | true=>match CR P X tab L n f e.args { next:=yU e,heap:=uA .leaf e.fp } with
   | none=>false
   | some (v',A')=>match e.ans with
     | .val v=>within [] v && mq v' v && BO A' [] e.fp
     | .rows _ v bs m'=>mq v' v && Nat.beq A'.next m' && Gz (keysOf e.fp) (yU e) A' bs && BO A' (keysOf bs++e.dead) e.fp
theorem DY {ks:List Nat} {n:Nat} {A:AW} : ∀ (bs:List (Nat × bU)),Gz ks n A bs=true→∀ b x,(b,x)∈bs→(n≤b∨b∈ks)∧A.heap.get b=some x
 | [],_,b,x,hm=>by cases hm
 | (c,y) :: r,h,b,x,hm=>by
   simp only [Gz,Bool.and_eq_true] at h
   obtain ⟨⟨h1,h2⟩,h3⟩:=h
   rcases List.mem_cons.1 hm with e | hm
   ·cases e
    split at h2
    ·rename_i z hz
     rw [Bool.or_eq_true] at h1
     refine ⟨?_, ?_⟩
     ·rcases h1 with h1 | h1
      ·exact .inl (bC h1)
      ·exact .inr (nY.1 h1)
     ·rw [hz,wo h2]
    ·cases h2
   ·exact DY r h3 b x hm
theorem yj {gone:List Nat} {A:AW} : ∀ (l:List (Nat × bU)),BO A gone l=true→∀ b x,(b,x)∈l→b∈gone∨A.heap.get b=some x
 | [],_,b,x,hm=>by cases hm
 | (c,y) :: r,h,b,x,hm=>by
   simp only [BO,Bool.and_eq_true] at h
   obtain ⟨h1,h3⟩:=h
   rcases List.mem_cons.1 hm with e | hm
   ·cases e
    rw [Bool.or_eq_true] at h1
    rcases h1 with h1 | h1
    ·exact .inl (nY.1 h1)
    ·split at h1
     ·rename_i z hz
      rw [hz,wo h1]
      exact .inr rfl
     ·cases h1
   ·exact yj r h3 b x hm
theorem bI.none {P:Program} {base:Base} {n:Nat} {w:World} (hi:base.inv w) : bI P base (fun _=>none) { next:=n,heap:=.leaf } w :=
 ⟨fun _ _ h=>(by cases h),fun _ _ _ h=>(by cases h),fun _ _ _ _ _ _ h=>(by cases h),fun _ _ h=>(by simp [Tree.get] at h),fun _ _ _ h=>(by cases h),hi⟩
def only (ρ:Ren) (ks:List Nat) : Ren:=fun b=>if b∈ks then ρ b else none
theorem mI {ρ:Ren} {ks:List Nat} {b:Nat} {i:gq} (h:only ρ ks b=some i) : b∈ks∧ρ b=some i:=by
 unfold only at h
 split at h
 ·exact ⟨‹_›,h⟩
 ·cases h
theorem zm {ρ:Ren} {ks:List Nat} {b:Nat} (h:b∈ks) : only ρ ks b=ρ b:=by simp [only,h]
theorem Iq (hng:Ba P X) (hm:P.follows .mixedOrders=true) {I:World→Prop} {tab:fu} (ht:∀ base:Base,(∀ w,base.inv w→I w)→jw P base tab) {L n f:Nat} {e:aL} (h:EU P X tab L n f e=true) : OD P I f e:=by
 unfold EU at h
 split at h <;> first | (cases h; done) | skip
 rename_i hfl
 rw [Bool.and_eq_true] at hfl
 obtain ⟨hwi,hfp⟩:=hfl
 obtain ⟨hf1,hf2⟩:=Jv _ _ hfp
 split at h <;> first | (cases h; done) | skip
 rename_i v1 A1 hc
 intro base hI A v A' ha ρ w us hargs hw hb
 unfold Va at ha
 split at ha <;> first | (cases ha; done) | skip
 rename_i hhas
 have hrow:=Cn _ hhas
 -- the blocks alone
 let ks:=keysOf e.fp
 have hks:∀ {b},b∈ks↔∃ x,(b,x)∈e.fp:=zU
 have hto:∀ b∈ks,∀ i,ρ b=some i→only ρ ks b=some i:=fun b hb i h=>by rw [zm hb]; exact h
 have hargs0:bn (only ρ ks) e.args us:=mJ hto _ hwi hargs
 have hget0:∀ b x,(uA .leaf e.fp).get b=some x→(b,x)∈e.fp:=fun b x h=>by
  rcases uV _ _ h with h | ⟨h,_⟩
  ·exact h
  ·simp [Tree.get] at h
 have hw0:bI P base (only ρ ks) { next:=yU e,heap:=uA .leaf e.fp } w:=by
  refine ⟨fun b i h=>?_,fun b i x h hx=>?_,fun b b' i i' x x' h h' hx hx' he=>?_,fun b x hx=>?_,fun b i x h hx=>?_,hw.inv⟩
  ·obtain ⟨hbk,hbi⟩:=mI h
   obtain ⟨x,hx⟩:=hks.1 hbk
   exact ⟨(hf1 b x hx).2.1,(hw.dom b i hbi).2⟩
  ·obtain ⟨hbk,hbi⟩:=mI h
   have hm:=hget0 b x hx
   obtain ⟨o,ho,hrel⟩:=hw.blk b i x hbi (hrow b x hm)
   exact ⟨o,ho,hrel.restrict hto (hf1 b x hm).1⟩
  ·exact hw.sep _ _ _ _ _ _ (mI h).2 (mI h').2 (hrow _ _ (hget0 _ _ hx)) (hrow _ _ (hget0 _ _ hx')) he
  ·exact (hf1 b x (hget0 b x hx)).2.1
  ·exact hw.lo b i x (mI h).2 (hrow _ _ (hget0 _ _ hx))
 have hgone:∀ b i,b ∉ ks→ρ b=some i→∀ x,A.heap.get b=some x→∀ b0 i0,only ρ ks b0=some i0→i0.cb≠i.cb:=by
  intro b i hbk hbi x hx b0 i0 h0 he
  obtain ⟨h0k,h0i⟩:=mI h0
  obtain ⟨x0,hx0⟩:=hks.1 h0k
  exact hbk (hw.sep _ _ _ _ _ _ h0i hbi (hrow _ _ hx0) hx he▸h0k)
 have main:=xO hng hm (ht base hI) L n f _ _ _ _ hc (only ρ ks) w us hargs0 hw0 hb
 split at ha
 ·
  rename_i v0 hans
  cases ha
  rw [hans] at h
  dsimp only at h
  simp only [Bool.and_eq_true] at h
  obtain ⟨⟨h1,h2⟩,h3⟩:=h
  have hv1:=rV _ _ h2
  subst hv1
  have hkept:=yj _ h3
  refine main.mono fun r w' hR=>?_
  obtain ⟨ρ',v',rfl,hst,hwr,hnx,hv⟩:=hR
  have hback:∀ b∈ks,∀ i,ρ' b=some i→ρ b=some i:=fun b hbk i h=>by
   obtain ⟨x,hx⟩:=hks.1 hbk
   rw [hst.ext b (hf1 b x hx).2.1,zm hbk] at h
   exact h
  refine ⟨ρ,v',rfl,⟨hst.os,hst.tape,hst.output,hst.size,fun c hc hun=>hst.frame c hc fun b i hbi=>hun b i (mI hbi).2,fun _ _=>rfl,fun b i h=>.inl ⟨b,i,h,rfl⟩,hst.low⟩,⟨fun b i h=>?_,fun b i x hbi hx=>?_,hw.sep,hw.top,hw.lo,hwr.inv⟩,Nat.le_refl _,nO (ks:=[]) (fun b hb=>by cases hb) _ h1 hv⟩
  ·exact ⟨(hw.dom b i h).1,Nat.lt_of_lt_of_le (hw.dom b i h).2 hst.size⟩
  ·by_cases hbk:b∈ks
   ·obtain ⟨y,hy⟩:=hks.1 hbk
    have hxy:x=y:=by have:=hrow b y hy; rw [hx] at this; exact Option.some.inj this
    subst hxy
    rcases hkept b x hy with hg | hg
    ·cases hg
    ·have hρ' : ρ' b=some i:=by rw [hst.ext b (hf1 b x hy).2.1,zm hbk]; exact hbi
     obtain ⟨o,ho,hrel⟩:=hwr.blk b i x hρ' hg
     exact ⟨o,ho,hrel.restrict hback (hf1 b x hy).1⟩
   ·obtain ⟨o,ho,hrel⟩:=hw.blk b i x hbi hx
    exact ⟨o,by rw [hst.frame _ (hw.dom b i hbi).2 (hgone b i hbk hbi x hx)]; exact ho,hrel⟩
 ·
  rename_i m v0 bs m' hans
  have hnext:yU e=m:=by unfold yU; rw [hans]
  rw [hans] at h
  dsimp only at h
  simp only [Bool.and_eq_true] at h
  obtain ⟨⟨⟨h1,h2⟩,h3⟩,h4⟩:=h
  have hv1:=rV _ _ h1
  have h2:=bH h2
  subst hv1
  subst h2
  split at ha <;> first | (cases ha; done) | skip
  rename_i hn
  have hn:=bH hn
  rw [hnext,hn] at main hw0 hf1 h3
  cases ha
  have hrows:=DY bs h3
  have hkept:=yj _ h4
  refine main.mono fun r w' hR=>?_
  obtain ⟨ρ',v',rfl,hst,hwr,hnx,hv⟩:=hR
  dsimp only at hst hnx
  let ρ2:Ren:=fun b=>if b<A.next then ρ b else ρ' b
  have hlo:∀ b,b<A.next→ρ2 b=ρ b:=fun b h=>by simp [ρ2,h]
  have hhi:∀ b,A.next≤b→ρ2 b=ρ' b:=fun b h=>by simp only [ρ2]; rw [if_neg (by omega)]
  have hold:∀ b i,b<A.next→ρ' b=some i→b∈ks∧ρ b=some i:=fun b i h hbi=>by
   rw [hst.ext b h] at hbi
   exact mI hbi
  have hle1:ρ.le ρ2:=fun b i h=>by rw [hlo b (hw.dom b i h).1]; exact h
  have hle2:ρ'.le ρ2:=fun b i h=>by
   rcases Nat.lt_or_ge b A.next with h' | h'
   ·rw [hlo b h']; exact (hold b i h' h).2
   ·rw [hhi b h']; exact h
  -- a row of the outcome: changed or new; or as it was
  have hget:∀ b i x,ρ2 b=some i→(uA (Br A.heap e.dead) bs).get b=some x→(ρ' b=some i∧A1.heap.get b=some x)∨(b ∉ ks∧b<A.next∧ρ b=some i∧A.heap.get b=some x):=by
   intro b i x hbi hx
   rcases uV bs _ hx with hx | ⟨hx,hnb⟩
   ·obtain ⟨hwh,hx⟩:=hrows b x hx
    refine .inl ⟨?_,hx⟩
    rcases Nat.lt_or_ge b A.next with h' | h'
    ·rcases hwh with hwh | hwh
     ·omega
     ·rw [hst.ext b h',zm hwh,← hlo b h']; exact hbi
    ·rw [← hhi b h']; exact hbi
   ·obtain ⟨hx,hnd⟩:=zR _ _ hx
    have hbn:=hw.top b x hx
    rw [hlo b hbn] at hbi
    by_cases hbk:b∈ks
    ·obtain ⟨y,hy⟩:=hks.1 hbk
     have hxy:x=y:=by have:=hrow b y hy; rw [hx] at this; exact Option.some.inj this
     subst hxy
     rcases hkept b x hy with hg | hg
     ·rcases List.mem_append.1 hg with hg | hg
      ·obtain ⟨z,hz⟩:=zU.1 hg
       exact absurd hz (hnb z)
      ·exact absurd hg hnd
     ·exact .inl ⟨by rw [hst.ext b hbn,zm hbk]; exact hbi,hg⟩
    ·exact .inr ⟨hbk,hbn,hbi,hx⟩
  have hsepn:∀ b i x b' i' x',b ∉ ks→ρ b=some i→A.heap.get b=some x→ρ' b'=some i'→A1.heap.get b'=some x'→i.cb≠i'.cb:=by
   intro b i x b' i' x' hbk hbi hx hb' hx' he
   rcases hst.fresh b' i' hb' with ⟨b0,i0,h0,e0⟩ | hge
   ·exact hgone b i hbk hbi x hx b0 i0 h0 (by rw [e0,he])
   ·have:=(hw.dom b i hbi).2; omega
  refine ⟨ρ2,v',rfl,⟨hst.os,hst.tape,hst.output,hst.size,fun c hc hun=>hst.frame c hc fun b i hbi=>hun b i (mI hbi).2,fun b h=>hlo b h,fun b i h=>?_,hst.low⟩,⟨fun b i h=>?_,fun b i x h1 h2=>?_,fun b b' i i' x x' hb hb' hx hx' he=>?_,fun b x h=>?_,fun b i x h1 h2=>?_,hwr.inv⟩,hnx,hv.mono hle2⟩
  ·rcases Nat.lt_or_ge b A.next with h' | h'
   ·rw [hlo b h'] at h; exact .inl ⟨b,i,h,rfl⟩
   ·rw [hhi b h'] at h
    rcases hst.fresh b i h with ⟨b0,i0,h0,e0⟩ | hge
    ·exact .inl ⟨b0,i0,(mI h0).2,e0⟩
    ·exact .inr hge
  ·rcases Nat.lt_or_ge b A.next with h' | h'
   ·rw [hlo b h'] at h
    exact ⟨Nat.lt_of_lt_of_le (hw.dom b i h).1 hnx,Nat.lt_of_lt_of_le (hw.dom b i h).2 hst.size⟩
   ·rw [hhi b h'] at h
    exact hwr.dom b i h
  ·rcases hget b i x h1 h2 with ⟨g1,g2⟩ | ⟨g1,g2,g3,g4⟩
   ·obtain ⟨o,ho,hrel⟩:=hwr.blk b i x g1 g2
    exact ⟨o,ho,hrel.mono hle2⟩
   ·obtain ⟨o,ho,hrel⟩:=hw.blk b i x g3 g4
    exact ⟨o,by rw [hst.frame _ (hw.dom b i g3).2 (hgone b i g1 g3 x g4)]; exact ho,hrel.mono hle1⟩
  ·rcases hget b i x hb hx with ⟨g1,g2⟩ | ⟨g1,g2,g3,g4⟩ <;> rcases hget b' i' x' hb' hx' with ⟨k1,k2⟩ | ⟨k1,k2,k3,k4⟩
   ·exact hwr.sep _ _ _ _ _ _ g1 k1 g2 k2 he
   ·exact absurd he.symm (hsepn b' i' x' b i x k1 k3 k4 g1 g2)
   ·exact absurd he (hsepn b i x b' i' x' g1 g3 g4 k1 k2)
   ·exact hw.sep _ _ _ _ _ _ g3 k3 g4 k4 he
  ·rcases uV bs _ h with h | ⟨h,_⟩
   ·exact hwr.top b x (hrows b x h).2
   ·exact Nat.lt_of_lt_of_le (hw.top b x (zR _ _ h).1) hnx
  ·rcases hget b i x h1 h2 with ⟨g1,g2⟩ | ⟨g1,g2,g3,g4⟩
   ·exact hwr.lo b i x g1 g2
   ·exact hw.lo b i x g3 g4
def iG (P:Program) (X:Ext) (T:Table) (L n:Nat) (B:Table) : Bool:=B.all fun g=>g.2.all (EU P X (zL T) L n g.1)
theorem gW.nil {I:World→Prop} : gW P I []:=fun g hg=>by cases hg
theorem gW.add (hng:Ba P X) (hm:P.follows .mixedOrders=true) {I:World→Prop} {T B:Table} (hT:gW P I T) {L n:Nat} (h:iG P X T L n B=true) : gW P I (B++T):=by
 intro g hg e he
 rcases List.mem_append.1 hg with hg | hg
 ·exact Iq hng hm (fun base hI=>yg hI T hT) (List.all_eq_true.1 (List.all_eq_true.1 h g hg) e he)
 ·exact hT g hg e he
open Go.WideShapes Go.ChangeShapes in
open Go.WideShapes Go.ChangeShapes in
end
end Go.Ab
set_option linter.unusedVariables false
set_option linter.unusedSimpArgs false
namespace Go.Ab
open Go Go.RowKit
structure Enc (α:Type) where
 size:Nat
 cells:α→List AV
 len:∀ a,(cells a).length=size
 one:∀ a,(cells a).all oneCell=true
section
variable {α:Type} (E:Enc α)
def Enc.row (xs:List α) : List AV:=xs.flatMap E.cells
theorem Enc.j4 (x:α) (xs:List α) : E.row (x :: xs)=E.cells x++E.row xs:=rfl
theorem Enc.qP (xs ys:List α) : E.row (xs++ys)=E.row xs++E.row ys:=by simp [Enc.row]
theorem Enc.row_one (x:α) : E.row [x]=E.cells x:=by simp [Enc.row]
theorem Enc.eG:∀ (xs:List α),(E.row xs).length=xs.length * E.size
 | []=>by simp [Enc.row]
 | x :: xs=>by rw [Enc.j4,List.length_append,E.len,Enc.eG xs,List.length_cons,Nat.succ_mul,Nat.add_comm]
theorem Enc.qF:∀ (xs:List α),(E.row xs).all oneCell=true
 | []=>by simp [Enc.row]
 | x :: xs=>by rw [Enc.j4,List.all_append,E.one,Enc.qF xs]; rfl
theorem Enc.sO:∀ (xs:List α) (i:Nat),(E.row xs).drop (i * E.size)=E.row (xs.drop i)
 | [],i=>by simp [Enc.row]
 | x :: xs,0=>by simp
 | x :: xs,i + 1=>by
   rw [Enc.j4,Nat.succ_mul,Nat.add_comm,← List.drop_drop,List.drop_left' (E.len x),Enc.sO xs i]
   rfl
theorem Enc.sj:∀ (xs:List α) (i:Nat),(E.row xs).take (i * E.size)=E.row (xs.take i)
 | [],i=>by simp [Enc.row]
 | x :: xs,0=>by simp [Enc.row]
 | x :: xs,i + 1=>by
   rw [Enc.j4,Nat.succ_mul,Nat.add_comm,List.take_append,List.take_of_length_le (by rw [E.len]; omega),E.len,Nat.add_sub_cancel_left,Enc.sj xs i]
   rfl
theorem Enc.NS {xs:List α} {i:Nat} (hi:i<xs.length) : ((E.row xs).drop (i * E.size)).take E.size=E.cells xs[i]:=by
 rw [Enc.sO,List.drop_eq_getElem_cons hi,Enc.j4]
 rw [List.take_append_of_le_length (by rw [E.len]; exact Nat.le_refl _),List.take_of_length_le (by rw [E.len]; exact Nat.le_refl _)]
abbrev Sl (M:RM) (v:AV) (xs:List α) : Prop:=aN M E.size v (E.row xs) xs.length
abbrev Ow (M:RM) (base el:Nat) (v:AV) (xs:List α) : Prop:=Own M base el E.size v (E.row xs) xs.length
variable {E} {M M' : RM} {v:AV} {xs:List α}
theorem Sl.elem (h:Sl E M v xs) {i:Nat} (hi:i<xs.length) : ∃ b o,b<M.next∧b∈aH v∧(∀ (kd:IntKind) (K:AV→Prop),au v (N kd (i:Int)) E.size K=K (.ptr b o))∧M.loads b o E.size=some (E.cells xs[i]):=by
 obtain ⟨b,o,cap,rfl,hb,hl⟩:=h.pos (by omega)
 have hsum:i * E.size + E.size≤xs.length * E.size:=by rw [← Nat.succ_mul]; exact Nat.mul_le_mul_right _ hi
 refine ⟨b,o + i * E.size,hb,by simp [aH],fun kd K=>?_, ?_⟩
 ·rw [mW]
  simp only [Int.toNat_natCast]
  exact propext ⟨fun h=>h.2.2,fun h=>⟨by omega,by omega,h⟩⟩
 ·rw [uh hl (i * E.size) E.size hsum,E.NS hi]
theorem Sl.at (h:Sl E M v xs) {i:Nat} (sz:Nat) (j:Int) (hi:i<xs.length) (hsz:E.size=sz:=by rfl) (hj:j=(i:Int):=by rfl) : ∃ b o,b<M.next∧b∈aH v∧(∀ (kd:IntKind) (K:AV→Prop),au v (N kd j) sz K=K (.ptr b o))∧M.loads b o sz=some (E.cells xs[i]):=by
 subst hsz hj; exact h.elem hi
theorem uK {b o k:Nat} {cs:List AV} (h:M.loads b o k=some cs) {j:Nat} {x:AV} (hj:cs[j]?=some x) : M.cell b (o + j)=some x:=by
 have hlt:j<k:=by rw [← Cv h]; exact (List.getElem?_eq_some_iff.1 hj).1
 rw [QZ h j hlt,hj]
theorem Iz {b o k:Nat} {cs:List AV} (h:M.loads b o k=some cs) {x:AV} (hj:cs[0]?=some x) : M.cell b o=some x:=uK h hj
theorem Iu {base T bytes:Nat} {zs:List AV} {u:AV} {ys:List α} {K:ah} (ho:Ow E M base T v xs) (hb:base≤M.next) (hs:1≤E.size) (hu:Sl E M u ys)
  (hn:(xs.length + ys.length) * bytes≤140737488355328) (hn2:xs.length + ys.length≤140737488355328)
  (hK:∀ v' M',Ow E M' base T v' (xs++ys)→ag (aH v) M M'→M.next≤M'.next→(v'=v∨∀ b∈aH v',M.next≤b)→K v' M') :
  appW T E.size bytes zs false v u M K:=by
 refine CW ho hb hs (aN.oh hu _) (E.eG ys) (E.qF ys) hn hn2 ?_
 intro v' M' h1 h2 h3 h4
 refine hK v' M' ?_ h2 h3 h4
 rw [← E.qP] at h1
 simpa [Ow] using h1
theorem Pn {b o k:Nat} {cs:List AV} (h:M.loads b o k=some cs) (m:Nat) (hm:m≤k) : M.loads b o m=some (cs.take m):=uh h 0 m (by omega)
theorem Sl.new {T c:Nat} {p:Bool} (ys:List α) : Sl E (M.push (.row (E.row ys) p T 0)) (.slc M.next 0 ys.length (.ex c)) ys :=
 .slc _ _ _ _ _ (by simp [RM.push]) (by rw [RM.dG (RM.aQ _) (by rw [E.eG]; omega),List.drop_zero,← E.eG,List.take_length])
theorem yK {base T bytes:Nat} {zs:List AV} {a:α} {K:ah} (ho:Ow E M base T v xs) (hb:base≤M.next) (hs:1≤E.size)
  (hn:(xs.length + 1) * bytes≤140737488355328) (hn2:xs.length + 1≤140737488355328)
  (hK:∀ v' M',Ow E M' base T v' (xs++[a])→ag (aH v) M M'→M.next≤M'.next→(v'=v∨∀ b∈aH v',M.next≤b)→K v' M') :
  appW T E.size bytes zs false v (.slc M.next 0 1 (.ex 1)) (M.push (.row (E.cells a) false T 0)) K:=by
 have hk:ag [] M (M.push (.row (E.cells a) false T 0)):=(ag.refl _ _).push _
 refine Iu (ys:=[a]) (Own.keep ho hk (by simp)) (Nat.le_trans hb hk.next) hs (by rw [← E.row_one]; exact Sl.new [a]) hn hn2 ?_
 intro v' M' h1 h2 h3 h4
 exact hK v' M' h1 ((hk.mono (by simp)).trans h2) (Nat.le_trans hk.next h3) (h4.imp id fun h b hb=>Nat.le_trans hk.next (h b hb))
@[go_sem] theorem Z7 {T:Nat} {zs:List AV} {K:RB→(Nat→AV)→Prop} : fO T 0 zs [] K=K (.row [] false T 0) (fun b=>.slc b 0 0 (.ex 0)):=by
 apply propext; unfold fO
 constructor
 ·rintro ⟨l,h,hk⟩; cases h; exact hk
 ·intro hk; exact ⟨_,rfl,hk⟩
theorem qN {T size:Nat} {zs:List AV} {x:AV} {K:RB→(Nat→AV)→Prop} (h:x.cells.length=size) (h1:x.cells.all oneCell=true) (hz:zs.length=size) :
  fO T 1 zs [(0,size,x)] K=K (.row x.cells false T 0) (fun b=>.slc b 0 1 (.ex 1)):=by
 have:xk (bK zs 1) [(0,size,x)]=some x.cells:=by
  simp only [xk,bK,List.append_nil,h1,h,Nat.zero_add,hz,Nat.le_refl,and_self,if_true,List.take_zero,List.nil_append]
  rw [List.drop_of_length_le (by omega),List.append_nil]
 apply propext; unfold fO
 constructor
 ·rintro ⟨l,h,hk⟩; rw [this] at h; cases h; exact hk
 ·intro hk; exact ⟨_,this,hk⟩
theorem Ow.lit (E:Enc α) {T:Nat} (M:RM) : Ow E (M.push (.row [] false T 0)) M.next T (.slc M.next 0 0 (.ex 0)) []:=Own.lit M (Nat.le_refl _)
theorem ik {i:Nat} (h:i<9223372036854775807) : IntKind.wrap .i64 ((i:Int) + 1)=((i + 1:Nat) : Int):=by
 rw [aW (by omega) (by omega)]; rfl
end
@[go_sem] theorem Fx:dW [] [] []=some true:=rfl
@[go_sem] theorem FX (ks:List Nat) (k:IntKind) (a b:Int) (xs ys:List AV) : dW (1 :: ks) (N k a :: xs) (N k b :: ys)=if a=b then dW ks xs ys else some false:=by
 simp only [dW,uB,if_true]
 by_cases h:a=b
 ·simp [h]
 ·have:(a == b)=false:=by simp [h]
  simp [this,h]
@[go_sem] theorem PQ (ks:List Nat) (a b:List UInt8) (xs ys:List AV) : dW (2 :: ks) (St a :: xs) (St b :: ys)=if a=b then dW ks xs ys else some false:=by
 simp only [dW,uB]
 by_cases h:a=b
 ·simp [h]
 ·have:(a == b)=false:=by simp [h]
  simp [this,h]
@[go_sem] theorem XO (ks:List Nat) (a b:Bool) (xs ys:List AV) : dW (3 :: ks) (Bo a :: xs) (Bo b :: ys)=if a=b then dW ks xs ys else some false:=by
 simp only [dW,uB]
 by_cases h:a=b
 ·simp [h]
 ·have:(a == b)=false:=by simp [h]
  simp [this,h]
theorem qC {neg:Bool} {ks:List Nat} {cs ds:List AV} {r:Bool} {K:AV→Prop} (h1:cs.length=ks.length) (h2:ds.length=ks.length) (h:dW ks cs ds=some r) : mG neg ks (.agg cs) (.agg ds) K=K (Bo (r != neg)):=by
 rw [OV]
 apply propext
 constructor
 ·rintro ⟨_,_,r',h',hk⟩; rw [h] at h'; cases h'; exact hk
 ·intro hk; exact ⟨h1,h2,r,h,hk⟩
theorem iA (x:AV) (w:Bool) (f g:ah→Prop) (F G:AV→RM→ah→Prop) (k:ah) :
  ai x w f g (fun v M=>ai x w (F v M) (G v M) k)=ai x w (fun k'=>f fun v M=>F v M k') (fun k'=>g fun v M=>G v M k') k:=by
 unfold ai lT
 split
 ·split <;> simp_all
 ·rfl
 ·rfl
theorem eD (x:AV) (w:Bool) (f g:KR→Prop) (F G:AV→RM→Option Nat→KR→Prop) (k:KR) :
  ae x w f g (fun v M b=>ae x w (F v M b) (G v M b) k)=ae x w (fun k'=>f fun v M b=>F v M b k') (fun k'=>g fun v M b=>G v M b k') k:=by
 unfold ae lT
 split
 ·split <;> simp_all
 ·rfl
 ·rfl
theorem dN (x:AV) (w:Bool) (f g:KR→Prop) (F G:AV→RM→Option Nat→ah→Prop) (k:ah) :
  ae x w f g (fun v M b=>ai x w (F v M b) (G v M b) k)=ai x w (fun k'=>f fun v M b=>F v M b k') (fun k'=>g fun v M b=>G v M b k') k:=by
 unfold ae ai lT
 split
 ·split <;> simp_all
 ·rfl
 ·rfl
theorem dQ (x:AV) (w:Bool) (f g:ah→Prop) (F G:AV→RM→KR→Prop) (k:KR) :
  ai x w f g (fun v M=>ae x w (F v M) (G v M) k)=ae x w (fun k'=>f fun v M=>F v M k') (fun k'=>g fun v M=>G v M k') k:=by
 unfold ae ai lT
 split
 ·split <;> simp_all
 ·rfl
 ·rfl
theorem aG {body:(List AV→RM→Prop)→List AV→RM→Prop} {xs:List AV} {M:RM} (I:Nat→List AV→RM→Prop) (n:Nat) (h0:I n xs M)
  (hb:∀ (next:List AV→RM→Prop) m ys M',(∀ m' zs M'',m'<m→I m' zs M''→next zs M'')→I m ys M'→body next ys M') : aU body xs M :=
 ⟨I,n,h0,fun m ys M' hI=>hb _ m ys M' (fun m' zs M'' hlt h=>⟨m',hlt,h⟩) hI⟩
theorem Qw {P:Program} {I:World→Prop} {T:Table} (hT:gW P I T) {f:FuncId} {args:List AV} {v:AV} {M:RM} {Q:ah} (hP:CP P f) (hl:∀ A,zL T f args A=some (v,A))
  (hI:∀ w,M.base.inv w→I w) (hQ:Q v M) : fT P f args M Q:=by
 refine ⟨hP,fun ρ w us hargs hw=>?_⟩
 obtain ⟨A,hA⟩:=hw
 refine (yg (base:=M.base) hI T hT f args A v A (hl A) ρ w us hargs hA.rel hA.size).mono fun e w' hR=>?_
 obtain ⟨ρ',v',rfl,hst,hw',_,hv⟩:=hR
 refine ⟨v',v,M,ρ',rfl,mr hA hst hw' rfl hA.next (Nat.le_refl _) (fun b x hx=>?_),hv,hQ⟩
 rcases hA.blk b x hx with h | ⟨c,rfl,_⟩
 ·exact .inl h
 ·exact .inr ⟨c,rfl,hx⟩
end Go.Ab
set_option linter.unusedVariables false
set_option linter.unusedSimpArgs false
namespace Go.Ab
open Go Go.RowKit
abbrev By (b:UInt8) : AV:=N .u8 (b.toNat:Int)
def BY:Enc UInt8:=⟨1,fun b=>[By b],fun _=>rfl,fun _=>rfl⟩
theorem SQ (s:List UInt8) : BY.row s=s.map By:=by
 induction s with
 | nil=>rfl
 | cons b s ih=>rw [Enc.j4,ih]; rfl
def INT:Enc Int:=⟨1,fun n=>[N .i64 n],fun _=>rfl,fun _=>rfl⟩
def aX:Enc Nat:=⟨1,fun n=>[N .u64 (n:Int)],fun _=>rfl,fun _=>rfl⟩
theorem Ji (s:List Nat) : aX.row s=s.map (fun (s:Nat)=>N .u64 (s:Int)):=by
 induction s with
 | nil=>rfl
 | cons b s ih=>rw [Enc.j4,ih]; rfl
section
variable {α:Type} {E:Enc α} {M M' : RM} {v:AV} {xs:List α}
theorem Sl.FU (h:Sl E M v xs) {i:Nat} (j:Int) (hi:i<xs.length) (hsz:E.size=1:=by rfl) (hj:j=(i:Int):=by rfl) :
  ∃ b o,b<M.next∧b∈aH v∧(∀ (kd:IntKind) (K:AV→Prop),au v (N kd j) 1 K=K (.ptr b o))∧∀ x,E.cells xs[i]=[x]→M.cell b o=some x:=by
 obtain ⟨b,o,h1,h2,h3,h4⟩:=Sl.at h 1 j hi hsz hj
 exact ⟨b,o,h1,h2,h3,fun x hx=>Iz h4 (by rw [hx]; rfl)⟩
structure Rw (E:Enc α) (M:RM) (b:Nat) (opn:Bool) (el:Nat) (xs:List α) : Prop where
 heap:M.heap b=some (.row (E.row xs) opn el 0)
 lt:b<M.next
theorem Rw.sl {b el:Nat} {p:Bool} {cap:Cap} (h:Rw E M b p el xs) : Sl E M (.slc b 0 xs.length cap) xs:=by
 refine .slc _ _ _ _ _ h.lt ?_
 rw [RM.dG h.heap (by rw [E.eG]; omega),List.drop_zero,← E.eG,List.take_length]
theorem Rw.keep {b el:Nat} {p:Bool} {bs:List Nat} (h:Rw E M b p el xs) (hk:ag bs M M') (hb:b ∉ bs) : Rw E M' b p el xs :=
 ⟨hk.aK h.heap h.lt hb,Nat.lt_of_lt_of_le h.lt hk.next⟩
theorem Rw.new {el:Nat} {p:Bool} (M:RM) (xs:List α) : Rw E (M.push (.row (E.row xs) p el 0)) M.next p el xs :=
 ⟨RM.aQ _,by simp [RM.push]⟩
end
@[go_sem] theorem Yt (el:Nat) (s:List UInt8) (K:RB→(Nat→AV)→Prop) : Mw el (St s) K=K (.row (BY.row s) true el 0) (fun b=>.slc b 0 s.length (.op 1)):=by
 rw [SQ]
 apply propext; unfold Mw
 constructor
 ·rintro ⟨s',h,hk⟩; cases h; exact hk
 ·intro hk; exact ⟨s,rfl,hk⟩
def YZ (b:UInt8) : UInt8:=if 65≤b.toNat∧b.toNat≤90 then b + 32 else b
def low (s:List UInt8) : List UInt8:=s.map YZ
end Go.Ab
set_option linter.unusedVariables false
set_option linter.unusedSimpArgs false
namespace Go.Ab
open Go Go.RowKit
structure ru (n:Nat) (bs:List Nat) (M M' : RM) : Prop where
 base:M'.base=M.base
 next:M.next≤M'.next
 heap:∀ c,c<n→c ∉ bs→M'.heap c=M.heap c
theorem ru.refl (n:Nat) (bs:List Nat) (M:RM) : ru n bs M M:=⟨rfl,Nat.le_refl _,fun _ _ _=>rfl⟩
theorem ru.trans {n:Nat} {bs:List Nat} {M M1 M2:RM} (h:ru n bs M M1) (k:ru n bs M1 M2) : ru n bs M M2 :=
 ⟨k.base.trans h.base,Nat.le_trans h.next k.next,fun c h1 h2=>(k.heap c h1 h2).trans (h.heap c h1 h2)⟩
theorem ag.to {bs cs:List Nat} {n:Nat} {M M' : RM} (h:ag bs M M') (hn:n≤M.next) (hb:∀ b∈bs,n≤b∨b∈cs) : ru n cs M M' :=
 ⟨h.base,h.next,fun c h1 h2=>h.heap c (Nat.lt_of_lt_of_le h1 hn) (fun hm=>by rcases hb c hm with h3 | h3; omega; exact h2 h3)⟩
theorem ru.aK {n:Nat} {bs:List Nat} {M M' : RM} (h:ru n bs M M') {b:Nat} {x:RB} (hh:M.heap b=some x) (hlt:b<n) (hb:b ∉ bs) : M'.heap b=some x:=by rw [h.heap b hlt hb,hh]
theorem Own.same {M M' : RM} {n el size n0:Nat} {v:AV} {cs:List AV} (h:Own M n0 el size v cs n) (hn:M'.next=M.next) (hb:∀ c∈aH v,M'.heap c=M.heap c) (hbase:M'.base=M.base) : Own M' n0 el size v cs n:=by
 cases h with
 | nil=>exact .nil
 | ex0 b o h1 h2 h3=>exact .ex0 b o h1 (by omega) (by simpa [RM.EJ,hb b (by simp [aH]),RM.lo,hbase] using h3)
 | op b n cs h1 h2 h3 h4=>exact .op b n cs h1 (by omega) (by rw [hb b (by simp [aH]),h3]) h4
theorem Own.one {M:RM} {n el size n0:Nat} {v:AV} {cs:List AV} (h:Own M n0 el size v cs n) : oneCell v=true:=by
 cases h <;> rfl
def Lg (B:Base) (c:aj) : Prop:=∀ {M:RM} {Q:ah},M.base=B→Q (Bo true) M→c [] M Q
theorem Own.cells {M:RM} {n el size n0:Nat} {v:AV} {cs:List AV} (h:Own M n0 el size v cs n) : v.cells=[v]:=by
 cases h <;> rfl
end Go.Ab
set_option linter.unusedVariables false
set_option linter.unusedSimpArgs false
namespace Go.Ab
open Go Go.RowKit
section
variable {P:Program} {ρ:Ren} {M:RM} {w w' : World}
theorem bI.below {base:Base} {A:AW} (h:bI P base ρ A w) (hb:Below w.heap.size w w') (hn:base.n≤w.heap.size) : bI P base ρ A w' where
 dom b i hbi:=⟨(h.dom b i hbi).1,Nat.lt_of_lt_of_le (h.dom b i hbi).2 hb.size⟩
 blk b i x hbi hx:=let ⟨o,ho,hr⟩:=h.blk b i x hbi hx; ⟨o,by rw [hb.block _ (h.dom b i hbi).2]; exact ho,hr⟩
 sep:=h.sep
 top:=h.top
 lo:=h.lo
 inv:=base.low w w' (fun c hc=>hb.block c (Nat.lt_of_lt_of_le hc hn)) h.inv
theorem Step.of_below {base n:Nat} (hb:Below w.heap.size w w') (hn:base≤w.heap.size) : Step base n ρ w ρ w' where
 os:=hb.os
 tape:=hb.tape
 output:=hb.output
 size:=hb.size
 frame c hc _:=hb.block c hc
 ext _ _:=rfl
 fresh b i h:=.inl ⟨b,i,h,rfl⟩
 low c hc:=hb.block c (Nat.lt_of_lt_of_le hc hn)
theorem After.below (h:dM P ρ M w) (hb:Below w.heap.size w w') : After P M ρ w M ρ w':=by
 obtain ⟨A,hA⟩:=h
 refine mr hA (Step.of_below hb hA.size) (hA.rel.below hb hA.size) rfl hA.next (Nat.le_refl _) fun b x hx=>?_
 rcases hA.blk b x hx with h | ⟨c,rfl,_⟩
 ·exact .inl h
 ·exact .inr ⟨c,rfl,hx⟩
end
end Go.Ab
set_option linter.unusedVariables false
set_option linter.unusedSimpArgs false
namespace Go.Ab
open Go Go.RowKit
structure qj (α:Type) where
 size:Nat
 rel:RM→List AV→α→(Nat→Prop)→Prop
 len:∀ {M cs a S},rel M cs a S→cs.length=size
 one:∀ {M cs a S},rel M cs a S→cs.all oneCell=true
 mono:∀ {M cs a S S'},rel M cs a S→(∀ b,S b→S' b)→rel M cs a S'
 lt:∀ {M cs a S},rel M cs a S→rel M cs a (fun b=>S b∧b<M.next)
 keep:∀ {M M' cs a S bs},rel M cs a S→ag bs M M'→(∀ b∈bs,¬ S b)→rel M' cs a S
def Enc.yF {α:Type} (E:Enc α) : qj α where
 size:=E.size
 rel _ cs a _:=cs=E.cells a
 len h:=by subst h; exact E.len _
 one h:=by subst h; exact E.one _
 mono h _:=h
 lt h:=h
 keep h _ _:=h
inductive ed {α:Type} (R:qj α) (M:RM) (S:Nat→Prop) : List AV→List α→Prop
 | nil:ed R M S [] []
 | cons {cs ds:List AV} {a:α} {xs:List α} : R.rel M cs a S→ed R M S ds xs→ed R M S (cs++ds) (a :: xs)
section
variable {α:Type} {R:qj α} {M M' : RM} {S S' : Nat→Prop} {cs ds:List AV} {xs ys:List α} {a:α}
theorem ed.len (h:ed R M S cs xs) : cs.length=xs.length * R.size:=by
 induction h with
 | nil=>simp
 | cons h1 _ ih=>rw [List.length_append,R.len h1,ih,List.length_cons,Nat.succ_mul,Nat.add_comm]
theorem ed.one (h:ed R M S cs xs) : cs.all oneCell=true:=by
 induction h with
 | nil=>rfl
 | cons h1 _ ih=>rw [List.all_append,R.one h1,ih]; rfl
theorem ed.mono (h:ed R M S cs xs) (hs:∀ b,S b→S' b) : ed R M S' cs xs:=by
 induction h with
 | nil=>exact .nil
 | cons h1 _ ih=>exact .cons (R.mono h1 hs) ih
theorem ed.lt (h:ed R M S cs xs) : ed R M (fun b=>S b∧b<M.next) cs xs:=by
 induction h with
 | nil=>exact .nil
 | cons h1 _ ih=>exact .cons (R.lt h1) ih
theorem ed.keep {bs:List Nat} (h:ed R M S cs xs) (hk:ag bs M M') (hb:∀ b∈bs,¬ S b) : ed R M' S cs xs:=by
 induction h with
 | nil=>exact .nil
 | cons h1 _ ih=>exact .cons (R.keep h1 hk hb) ih
theorem ed.append (h:ed R M S cs xs) (k:ed R M S ds ys) : ed R M S (cs++ds) (xs++ys):=by
 induction h with
 | nil=>exact k
 | cons h1 _ ih=>rw [List.append_assoc]; exact .cons h1 ih
theorem ed.single (h:R.rel M cs a S) : ed R M S cs [a]:=by
 have:=ed.cons h .nil
 simpa using this
theorem ed.get (h:ed R M S cs xs) : ∀ {i:Nat} (hi:i<xs.length),R.rel M ((cs.drop (i * R.size)).take R.size) xs[i] S:=by
 induction h with
 | nil=>intro i hi; simp at hi
 | cons h1 h2 ih =>
   rename_i c1 d1 a1 x1
   intro i hi
   cases i with
   | zero =>
     rw [Nat.zero_mul,List.drop_zero,List.take_append_of_le_length (by rw [R.len h1]; exact Nat.le_refl _),List.take_of_length_le (by rw [R.len h1]; exact Nat.le_refl _)]
     exact h1
   | succ i =>
     rw [Nat.succ_mul,Nat.add_comm,← List.drop_drop,List.drop_left' (R.len h1)]
     exact ih (by simpa using hi)
theorem ed.take (h:ed R M S cs xs) : ∀ (k:Nat),ed R M S (cs.take (k * R.size)) (xs.take k):=by
 induction h with
 | nil=>intro k; simp; exact .nil
 | cons h1 h2 ih =>
   intro k
   cases k with
   | zero=>simp; exact .nil
   | succ k =>
     rw [Nat.succ_mul,Nat.add_comm,List.take_append,List.take_of_length_le (by rw [R.len h1]; omega),R.len h1,Nat.add_sub_cancel_left]
     exact .cons h1 (ih k)
theorem ed.drop (h:ed R M S cs xs) : ∀ (k:Nat),ed R M S (cs.drop (k * R.size)) (xs.drop k):=by
 induction h with
 | nil=>intro k; simp; exact .nil
 | cons h1 h2 ih =>
   intro k
   cases k with
   | zero=>simp; exact .cons h1 h2
   | succ k =>
     rw [Nat.succ_mul,Nat.add_comm,← List.drop_drop,List.drop_left' (R.len h1)]
     exact ih k
theorem ed.cells {E:Enc α} : ∀ {cs:List AV} {xs:List α},ed E.yF M S cs xs→cs=E.row xs
 | _,_,.nil=>rfl
 | _,_,.cons h1 h2=>by rw [Enc.j4,ed.cells h2]; rw [show _=_ from h1]
theorem ed.of_cells {E:Enc α} : ∀ (xs:List α),ed E.yF M S (E.row xs) xs
 | []=>.nil
 | x :: xs=>by rw [Enc.j4]; exact .cons rfl (ed.of_cells xs)
def gX (R:qj α) (M:RM) (v:AV) (xs:List α) (S:Nat→Prop) : Prop :=
 ∃ cs,aN M R.size v cs xs.length∧(∀ b∈aH v,S b)∧ed R M S cs xs
theorem aN.lt {size n:Nat} {v:AV} (h:aN M size v cs n) : ∀ b∈aH v,b<M.next:=by
 cases h with
 | nil=>intro b hb; simp [aH] at hb
 | emp=>intro b hb; simp [aH] at hb
 | slc b o n cap cs hb _=>intro c hc; simp [aH] at hc; omega
theorem aN.one {size n:Nat} {v:AV} (h:aN M size v cs n) : oneCell v=true:=by
 cases h <;> rfl
theorem aN.cells {size n:Nat} {v:AV} (h:aN M size v cs n) : v.cells=[v]:=by
 cases h <;> rfl
variable {v:AV}
theorem gX.mono (h:gX R M v xs S) (hs:∀ b,S b→S' b) : gX R M v xs S':=let ⟨cs,h1,h2,h3⟩:=h; ⟨cs,h1,fun b hb=>hs b (h2 b hb),h3.mono hs⟩
theorem gX.lt (h:gX R M v xs S) : gX R M v xs (fun b=>S b∧b<M.next):=let ⟨cs,h1,h2,h3⟩:=h; ⟨cs,h1,fun b hb=>⟨h2 b hb,h1.lt b hb⟩,h3.lt⟩
theorem gX.keep {bs:List Nat} (h:gX R M v xs S) (hk:ag bs M M') (hb:∀ b∈bs,¬ S b) : gX R M' v xs S :=
 let ⟨cs,h1,h2,h3⟩:=h; ⟨cs,h1.keep hk (fun b hv hbs=>hb b hbs (h2 b hv)),h2,h3.keep hk hb⟩
theorem gX.len (h:gX R M v xs S) {K:AV→Prop} : cK v K=K (N .i64 xs.length):=let ⟨cs,h1,_,_⟩:=h; h1.len
theorem gX.one (h:gX R M v xs S) : oneCell v=true:=let ⟨cs,h1,_,_⟩:=h; h1.one
theorem gX.cells (h:gX R M v xs S) : v.cells=[v]:=let ⟨cs,h1,_,_⟩:=h; h1.cells
theorem gX.nil:gX R M bJ [] S:=⟨[],.nil,by simp [aH],.nil⟩
theorem gX.sl {E:Enc α} (h:gX E.yF M v xs S) : Sl E M v xs:=by
 obtain ⟨cs,h1,h2,h3⟩:=h
 rw [h3.cells] at h1
 exact h1
theorem gX.Yc {E:Enc α} (h:Sl E M v xs) (hs:∀ b∈aH v,S b) : gX E.yF M v xs S:=⟨_,h,hs,ed.of_cells xs⟩
theorem gX.at (h:gX R M v xs S) {i:Nat} (sz:Nat) (j:Int) (hi:i<xs.length) (hsz:R.size=sz:=by rfl) (hj:j=(i:Int):=by rfl) :
  ∃ b o cs,b<M.next∧b∈aH v∧(∀ (kd:IntKind) (K:AV→Prop),au v (N kd j) sz K=K (.ptr b o))∧M.loads b o sz=some cs∧R.rel M cs xs[i] S:=by
 subst hsz hj
 obtain ⟨cs,h1,h2,h3⟩:=h
 obtain ⟨b,o,cap,rfl,hb,hl⟩:=h1.pos (by omega)
 have hsum:i * R.size + R.size≤xs.length * R.size:=by rw [← Nat.succ_mul]; exact Nat.mul_le_mul_right _ hi
 refine ⟨b,o + i * R.size,(cs.drop (i * R.size)).take R.size,hb,by simp [aH],fun kd K=>?_, ?_,h3.get hi⟩
 ·rw [mW]
  simp only [Int.toNat_natCast]
  exact propext ⟨fun h=>h.2.2,fun h=>⟨by omega,by omega,h⟩⟩
 ·rw [uh hl (i * R.size) R.size hsum]
def qj.slice (R:qj α) : qj (List α) where
 size:=1
 rel M cs xs S:=∃ v,cs=[v]∧gX R M v xs S
 len h:=by obtain ⟨v,rfl,_⟩:=h; rfl
 one h:=by obtain ⟨v,rfl,h⟩:=h; simp [h.one]
 mono h hs:=by obtain ⟨v,rfl,h⟩:=h; exact ⟨v,rfl,h.mono hs⟩
 lt h:=by obtain ⟨v,rfl,h⟩:=h; exact ⟨v,rfl,h.lt⟩
 keep h hk hb:=by obtain ⟨v,rfl,h⟩:=h; exact ⟨v,rfl,h.keep hk hb⟩
def lH (R:qj α) (M:RM) (base el:Nat) (v:AV) (xs:List α) (S:Nat→Prop) : Prop :=
 ∃ cs,Own M base el R.size v cs xs.length∧ed R M S cs xs
theorem lH.nil {base el:Nat} : lH R M base el bJ [] S:=⟨[],.nil,.nil⟩
theorem lH.mono {base el:Nat} (h:lH R M base el v xs S) (hs:∀ b,S b→S' b) : lH R M base el v xs S':=let ⟨cs,h1,h2⟩:=h; ⟨cs,h1,h2.mono hs⟩
theorem lH.lt {base el:Nat} (h:lH R M base el v xs S) : lH R M base el v xs (fun b=>S b∧b<M.next):=let ⟨cs,h1,h2⟩:=h; ⟨cs,h1,h2.lt⟩
theorem lH.keep {base el:Nat} {bs:List Nat} (h:lH R M base el v xs S) (hk:ag bs M M') (hb:∀ b∈bs,¬ S b) (hv:∀ b∈aH v,b ∉ bs) : lH R M' base el v xs S :=
 let ⟨cs,h1,h2⟩:=h; ⟨cs,h1.keep hk hv,h2.keep hk hb⟩
theorem lH.len {base el:Nat} (h:lH R M base el v xs S) {K:AV→Prop} : cK v K=K (N .i64 xs.length):=let ⟨cs,h1,_⟩:=h; h1.lG.len
theorem lH.blk {base el:Nat} (h:lH R M base el v xs S) : ∀ b∈aH v,base≤b∧b<M.next:=let ⟨cs,h1,_⟩:=h; h1.blk
theorem lH.Yw {base el:Nat} (h:lH R M base el v xs S) (hs:∀ b,base≤b→b<M.next→S b) : gX R M v xs S :=
 let ⟨cs,h1,h2⟩:=h; ⟨cs,h1.lG,fun b hb=>hs b (h1.blk b hb).1 (h1.blk b hb).2,h2⟩
theorem lH.cells {base el:Nat} (h:lH R M base el v xs S) : v.cells=[v]:=let ⟨cs,h1,_⟩:=h; h1.cells
theorem lH.one {base el:Nat} (h:lH R M base el v xs S) : oneCell v=true:=let ⟨cs,h1,_⟩:=h; h1.one
theorem lH.app {base T bytes:Nat} {zs:List AV} {K:ah} (ho:lH R M base T v xs S) (ha:R.rel M cs a S) (hb:base≤M.next) (hs:1≤R.size)
  (hd:∀ b∈aH v,¬ S b) (hS:∀ b,S b→b<M.next)
  (hn:(xs.length + 1) * bytes≤140737488355328) (hn2:xs.length + 1≤140737488355328)
  (hK:∀ v' M',lH R M' base T v' (xs++[a]) S→ag (aH v) M M'→M.next≤M'.next→(v'=v∨∀ b∈aH v',M.next≤b)→(∀ b∈aH v',¬ S b)→K v' M') :
  appW T R.size bytes zs false v (.slc M.next 0 1 (.ex 1)) (M.push (.row cs false T 0)) K:=by
 obtain ⟨ds,h1,h2⟩:=ho
 have hk:ag [] M (M.push (.row cs false T 0)):=(ag.refl _ _).push _
 have hl:=R.len ha
 have hnl:oh (M.push (.row cs false T 0)) R.size zs false (.slc M.next 0 1 (.ex 1))=some (1,cs):=by
  simp only [oh,Nat.one_mul]
  rw [RM.dG (RM.aQ _) (by omega),List.drop_zero,← hl,List.take_length]
 refine CW (h1.keep hk (by simp)) (Nat.le_trans hb hk.next) hs hnl (by rw [hl,Nat.one_mul]) (R.one ha) hn hn2 ?_
 intro v' M' q1 q2 q3 q4
 have kk:ag (aH v) M M':=(hk.mono (by simp)).trans q2
 refine hK v' M' ⟨_,by simpa using q1, ?_⟩ kk (Nat.le_trans hk.next q3) (q4.imp id fun h b hb=>Nat.le_trans hk.next (h b hb)) ?_
 ·exact (h2.keep kk hd).append (ed.single (R.keep ha kk hd))
 ·rcases q4 with rfl | q4
  ·exact hd
  ·intro b hb hSb
   have:=q4 b hb
   have:=hS b hSb
   simp only [RM.push] at *
   omega
end
end Go.Ab
set_option linter.unusedVariables false
set_option linter.unusedSimpArgs false
namespace Go.Ab
open Go Go.RowKit
section
variable {M M' : RM} {b i n e f:Nat} {l:List AV} {p:Bool} {x:AV}
theorem az {K:AV→Prop} (h:M.heap b=some (.row l p e f)) (hx:l[i]?=some x) : ax M (.ptr b i) K=K x:=by
 rw [jL,RM.cell_of h,hx]; simp
theorem bP {K:AV→Prop} (h:M.heap b=some (.row l p e f)) (hn:l.length=n) : aB M (.ptr b 0) n K=K (.agg l):=by
 rw [gK,RM.Uv h]
 have:vS (some l) 0 n=some l:=by simp [vS,← hn]
 rw [this]; simp
theorem eB {K:RM→Prop} (h:M.heap b=some (.row l p e 0)) (hi:i<l.length) (hc:x.cells=[x]) (h1:oneCell x=true) : aD M (.ptr b i) x 1 K=K (M.put b (.row (l.set i x) p e 0)):=by
 rw [vg,hc,RM.ul h,nJ (by simp only [List.length_cons,List.length_nil]; omega) (Nat.zero_le _) (by simp [h1])]
 have:l.take i++[x]++l.drop (i + 1)=l.set i x:=by
  rw [List.set_eq_take_append_cons_drop,if_pos hi]; simp
 simp [this]
theorem JP {K:RM→Prop} (l' : List AV) (h:M.heap b=some (.row l p e 0)) (hi:i<l.length) (hc:x.cells=[x]) (h1:oneCell x=true) (hl:l.set i x=l') : aD M (.ptr b i) x 1 K=K (M.put b (.row l' p e 0)):=by
 rw [eB h hi hc h1,hl]
theorem bz {K:AV→Prop} : aI (.ptr b 0) n K=K (.ptr b n):=by rw [aY,Nat.zero_add]
theorem dI {K:RM→Prop} (h:M.heap b=some (.row l p e 0)) (hn:x.cells.length=n) (hl:l.length=n) (h1:x.cells.all oneCell=true) : aD M (.ptr b 0) x n K=K (M.put b (.row x.cells p e 0)):=by
 rw [vg,RM.ul h,JV (by rw [hn,hl]) h1]
 simp [hn]
theorem oJ {c:Nat} {y z:RB} (h:M.heap b=some y) (hb:b≠c) : (M.put c z).heap b=some y:=by
 simp only [RM.put]; rw [if_neg hb]; exact h
theorem aP (y:RB) : (M.put b y).heap b=some y:=RM.sV _ _
theorem jV {y z:RB} (h:M.heap b=some y) (hb:b<M.next) : (M.push z).heap b=some y:=by
 simp only [RM.push]; rw [if_neg (by omega)]; exact h
theorem Rq (y:RB) : (M.push y).next=M.next + 1:=rfl
theorem iF (c:Nat) (y:RB) : (M.put c y).next=M.next:=rfl
theorem ag.new {bs:List Nat} (h:ag bs M M') {b:Nat} (y:RB) (hb:M.next≤b) : ag bs M (M'.put b y):=h.put y (.inl hb)
end
variable {M:RM}
theorem ic {a:AV} {l:List AV} {K:AV→Prop} : dJ (.tup (a :: l)) 0 K=K a:=by rw [KZ]; simp
theorem il {a b:AV} {l:List AV} {K:AV→Prop} : dJ (.tup (a :: b :: l)) 1 K=K b:=by rw [KZ]; simp
theorem dC {p q:Prop} : ay (Bo true) p q=p:=by simp [LQ]
theorem bF {p q:Prop} : ay (Bo false) p q=q:=by simp [LQ]
theorem aF {b:Bool} {p q:Prop} (h1:b=true→p) (h2:b=false→q) : ay (Bo b) p q:=⟨h1,h2⟩
theorem cz {f g:ah→Prop} {k:ah} : ai (Bo true) true f g k=f k:=rfl
theorem fM {f g:ah→Prop} {k:ah} : ai (Bo false) false f g k=f k:=rfl
theorem kR {f g:ah→Prop} {k:ah} : ai (Bo true) false f g k=g k:=rfl
theorem bL {f g:ah→Prop} {k:ah} : ai (Bo false) true f g k=g k:=rfl
theorem jN {f g:KR→Prop} {k:KR} : ae (Bo true) true f g k=f k:=rfl
theorem xq {f g:KR→Prop} {k:KR} : ae (Bo false) false f g k=f k:=rfl
theorem BM {f g:KR→Prop} {k:KR} : ae (Bo true) false f g k=g k:=rfl
theorem ny {f g:KR→Prop} {k:KR} : ae (Bo false) true f g k=g k:=rfl
theorem wG {w:Bool} {f g:ah→Prop} {k:ah} : ai .undef w f g k=g k:=rfl
theorem UJ {w:Bool} {f g:KR→Prop} {k:KR} : ae .undef w f g k=g k:=rfl
theorem dO {a b:AV} {K:AV→Prop} : aM (Bo true) a b K=K a:=by rw [LV]; rfl
theorem dz {a b:AV} {K:AV→Prop} : aM (Bo false) a b K=K b:=by rw [LV]; rfl
theorem aN.known {size:Nat} {v:AV} {cs:List AV} {n:Nat} (h:aN M size v cs n) : known v=true:=by
 cases h <;> rfl
theorem dH {t:TypeId} {cs:List AV} {K:RB→(Nat→AV)→Prop} (h1:cs.all oneCell=true) (h2:1≤cs.length) : gz t (.agg cs) K=K (.row cs false t 0) (fun b=>.ptr b 0):=by
 unfold gz
 exact propext ⟨fun h=>h.2.2,fun h=>⟨h1,h2,h⟩⟩
theorem QX {x y a b:AV} (h1:known x=true) (h2:x.cells=[x]) (h3:known y=true) (h4:y.cells=[y]) : wX [a,b] [(0,1,x),(1,1,y)]=some [x,y]:=by
 simp [wX,h1,h2,h3,h4]
def qj.pre {α β:Type} (E:Enc α) (R:qj β) : qj (α × β) where
 size:=E.size + R.size
 rel M cs a S:=∃ ds,cs=E.cells a.1++ds∧R.rel M ds a.2 S
 len h:=by obtain ⟨ds,rfl,h⟩:=h; rw [List.length_append,E.len,R.len h]
 one h:=by obtain ⟨ds,rfl,h⟩:=h; rw [List.all_append,E.one,R.one h]; rfl
 mono h hs:=by obtain ⟨ds,rfl,h⟩:=h; exact ⟨ds,rfl,R.mono h hs⟩
 lt h:=by obtain ⟨ds,rfl,h⟩:=h; exact ⟨ds,rfl,R.lt h⟩
 keep h hk hb:=by obtain ⟨ds,rfl,h⟩:=h; exact ⟨ds,rfl,R.keep h hk hb⟩
def qj.post {α β:Type} (R:qj α) (E:Enc β) : qj (α × β) where
 size:=R.size + E.size
 rel M cs a S:=∃ ds,cs=ds++E.cells a.2∧R.rel M ds a.1 S
 len h:=by obtain ⟨ds,rfl,h⟩:=h; rw [List.length_append,E.len,R.len h]
 one h:=by obtain ⟨ds,rfl,h⟩:=h; rw [List.all_append,E.one,R.one h]; rfl
 mono h hs:=by obtain ⟨ds,rfl,h⟩:=h; exact ⟨ds,rfl,R.mono h hs⟩
 lt h:=by obtain ⟨ds,rfl,h⟩:=h; exact ⟨ds,rfl,R.lt h⟩
 keep h hk hb:=by obtain ⟨ds,rfl,h⟩:=h; exact ⟨ds,rfl,R.keep h hk hb⟩
def qj.map {α β:Type} (R:qj α) (g:β→α) : qj β where
 size:=R.size
 rel M cs a S:=R.rel M cs (g a) S
 len h:=R.len h
 one h:=R.one h
 mono h hs:=R.mono h hs
 lt h:=R.lt h
 keep h hk hb:=R.keep h hk hb
end Go.Ab
set_option linter.unusedVariables false
set_option linter.unusedSimpArgs false
namespace Go.Ab
open Go Go.RowKit Go.ChangeShapes
section
variable {H:Type} {enc:TypeId × Value→H} {P:Program} {w:World} {base:Nat} {spare:Nat→Bool} {held:Bool}
theorem Nc {t0 t1 t2 t3 t4 t5:TypeId} {args:Array Value} {ds:List (DataW H)} {ps:List MemPlace} (h:DataW.TrodAll enc P w base spare held [t0,t1,t2,t3,t4,t5] args.toList ds ps) :
  ∃ v0 v1 v2 v3 v4 v5 d0 d1 d2 d3 d4 d5 p0 p1 p2 p3 p4 p5,args = #[v0,v1,v2,v3,v4,v5]∧ds=[d0,d1,d2,d3,d4,d5]∧ps=p0++p1++p2++p3++p4++p5∧DataW.Trod enc P w base spare held t0 v0 d0 p0∧DataW.Trod enc P w base spare held t1 v1 d1 p1∧DataW.Trod enc P w base spare held t2 v2 d2 p2∧DataW.Trod enc P w base spare held t3 v3 d3 p3∧DataW.Trod enc P w base spare held t4 v4 d4 p4∧DataW.Trod enc P w base spare held t5 v5 d5 p5:=by
 obtain ⟨v0,vs0,d0,ds0,p0,q0,hargs,rfl,rfl,h0,r0⟩:=trodAll_cons h
 obtain ⟨v1,vs1,d1,ds1,p1,q1,rfl,rfl,rfl,h1,r1⟩:=trodAll_cons r0
 obtain ⟨v2,vs2,d2,ds2,p2,q2,rfl,rfl,rfl,h2,r2⟩:=trodAll_cons r1
 obtain ⟨v3,vs3,d3,ds3,p3,q3,rfl,rfl,rfl,h3,r3⟩:=trodAll_cons r2
 obtain ⟨v4,vs4,d4,ds4,p4,q4,rfl,rfl,rfl,h4,r4⟩:=trodAll_cons r3
 obtain ⟨v5,vs5,d5,ds5,p5,q5,rfl,rfl,rfl,h5,r5⟩:=trodAll_cons r4
 obtain ⟨rfl,rfl,rfl⟩:=trodAll_nil r5
 exact ⟨v0,v1,v2,v3,v4,v5,d0,d1,d2,d3,d4,d5,p0,p1,p2,p3,p4,p5,by cases args; simp_all,rfl,by simp,h0,h1,h2,h3,h4,h5⟩
end
end Go.Ab
