/- Part 3 of the ground of the proofs of this seat (texts R8 to WDot). By an AI agent. -/
import Derived.Test.YtlhlnchhaminjaaGreatJoi2
import Derived.Scope
set_option linter.unusedVariables false
set_option linter.unusedSimpArgs false
namespace Go.Ab
open Go Go.RowKit
section
variable {P:Program} {nt:Nat} {ops:Array Oper} {ri:RI} {T0:Tree AV}
theorem SX {wr:Tree Nat} {r:Row} {s s0:nO} {K:Prop} (h:RV P ops T0 wr r s K) (hold:rZ P ops T0 wr s0 r) (hv:∀ j,Nat.testBit r.m j=true∨j=r.i→s.vals.get j=s0.vals.get j) (hb:s.bids.get r.i=s0.bids.get r.i) :
  K∧rZ P ops T0 wr s r:=by
 obtain ⟨g,hg,hold⟩:=hold
 have hi:=hv r.i (.inr rfl)
 have he:iG T0 wr s.vals r.m=iG T0 wr s0.vals r.m:=xV fun j hj=>hv j (.inl hj)
 have hg' : guardOf ops wr s.vals r=some g:=by rw [← hg]; exact nV fun j hj=>hv j (.inl hj)
 have offon:GN g→QV g→False:=by
  intro h1 h2
  unfold GN at h1
  unfold QV at h2
  split at h1
  ·exact h1
  ·simp only at h2
   rcases h1 with h1 | ⟨b,h1,h3⟩
   ·rw [h2] at h1; cases h1
   ·rw [h2] at h1; cases h1; exact h3 rfl
 have hoffc:∀ {K'},K'→GN g∧s0.vals.get r.i=some .undef→K'∧rZ P ops T0 wr s r:=fun k h=>⟨k,g,hg',.inr ⟨h.1,by rw [hi]; exact h.2⟩⟩
 unfold RV at h
 cases hkd:r.kd with
 | pure =>
   rw [hkd] at h
   refine ⟨h,g,hg', ?_⟩
   rcases hold with ⟨hon,v,hvi,hk⟩ | ⟨hoff,hvi⟩
   ·refine .inl ⟨hon,v,by rw [hi]; exact hvi, ?_⟩
    rw [hkd] at hk ⊢
    rw [he]; exact hk
   ·exact .inr ⟨hoff,by rw [hi]; exact hvi⟩
 | qN =>
   rcases hold with ⟨hon,v,hvi,hk⟩ | ho
   ·rw [hkd] at hk; exact hk.elim
   ·rw [hkd] at h; exact hoffc h ho
 | read =>
   rw [hkd] at h
   obtain ⟨g2,hg2,hcase⟩:=su h
   rw [hg'] at hg2; cases hg2
   rcases hold with ⟨hon,v,hvi,hk⟩ | ho
   ·rcases hcase with ⟨_,hn⟩ | ⟨hoff,_⟩
    ·obtain ⟨v',hgv,hv',hK⟩:=yX hn
     have hgv:lL P r.o (iG T0 wr s.vals r.m) s.M v':=by rcases hgv with hgv | ⟨_,hgv⟩ <;> first | exact hgv _ | exact hgv
     rw [hi,hvi] at hv'
     simp only [Option.getD_some] at hv'
     subst hv'
     refine ⟨hK,g,hg',.inl ⟨hon,v',by rw [hi]; exact hvi, ?_⟩⟩
     rw [hkd]; exact hgv
    ·exact (offon hoff hon).elim
   ·rcases hcase with ⟨hon,_⟩ | ⟨_,hK⟩
    ·exact (offon ho.1 hon).elim
    ·exact hoffc hK ho
 | alloc =>
   rw [hkd] at h
   obtain ⟨g2,hg2,hcase⟩:=su h
   rw [hg'] at hg2; cases hg2
   rcases hold with ⟨hon,v,hvi,hk⟩ | ho
   ·rcases hcase with ⟨_,hn⟩ | ⟨hoff,_⟩
    ·obtain ⟨x,mk,hm,hx,hK⟩:=zm hn
     rw [hkd] at hk
     obtain ⟨x0,mk0,b,_,h2,_,_⟩:=hk
     rw [hb,h2] at hx
     simp only [Option.getD_some] at hx
     rw [hi,hvi] at hx
     simp only [Option.getD_some] at hx
     refine ⟨hK,g,hg',.inl ⟨hon,v,by rw [hi]; exact hvi, ?_⟩⟩
     rw [hkd]
     exact ⟨x,mk,b,hm,by rw [hb]; exact h2,hx.1,hx.2⟩
    ·exact (offon hoff hon).elim
   ·rcases hcase with ⟨hon,_⟩ | ⟨_,hK⟩
    ·exact (offon ho.1 hon).elim
    ·exact hoffc hK ho
theorem GI {lev:Nat} {s s0:nO} {K:Prop} : ∀ (rows:List Row),LG P ops T0 ri lev rows s K →
  (∀ r∈rows,jB r.kd=false→r.lev≤lev→jP ri.ms ri.es (lev + 1) r=true→rZ P ops T0 ri.wr s0 r∧(∀ j,Nat.testBit r.m j=true∨j=r.i→s.vals.get j=s0.vals.get j)∧s.bids.get r.i=s0.bids.get r.i) →
  K∧∀ r∈rows,jB r.kd=false→r.lev≤lev→jP ri.ms ri.es (lev + 1) r=true→rZ P ops T0 ri.wr s r
 | [],h,_=>⟨h,fun r hr=>by cases hr⟩
 | r :: rows,h,ho=>by
   simp only [LG] at h
   split at h
   ·rename_i hc
    obtain ⟨h1,h2⟩:=GI rows h fun r' hr'=>ho r' (.tail _ hr')
    refine ⟨h1,fun r' hr' e1 e2 e3=>?_⟩
    rcases List.mem_cons.1 hr' with e | hr'
    ·subst e
     rw [bB.2 e2,e1,e3] at hc
     cases hc
    ·exact h2 r' hr' e1 e2 e3
   ·rename_i hc
    simp only [Bool.and_eq_true,Bool.not_eq_true'] at hc
    obtain ⟨⟨c1,c2⟩,c3⟩:=hc
    obtain ⟨o1,o2,o3⟩:=ho r (.head _) c2 (bE c1) c3
    obtain ⟨h1,h2⟩:=SX h o1 o2 o3
    obtain ⟨h3,h4⟩:=GI rows h1 fun r' hr'=>ho r' (.tail _ hr')
    refine ⟨h3,fun r' hr' e1 e2 e3=>?_⟩
    rcases List.mem_cons.1 hr' with e | hr'
    ·subst e; exact h2
    ·exact h4 r' hr' e1 e2 e3
theorem YD {ρ:Ren} {i:iE} {x:RB} {y y' : cB} {ob:Obj} (h:wS x y) (h' : wS x y') (hb:jk P ρ i y ob) : jk P ρ i y' ob:=by
 cases x with
 | row l opn elem fz =>
   cases y <;> first | exact h.elim | skip
   cases y' <;> first | exact h'.elim | skip
   obtain ⟨rfl,rfl,rfl,rfl,h5⟩:=h
   obtain ⟨h1,rfl,rfl,rfl,h5'⟩:=h'
   subst h1
   obtain ⟨c,fr,rfl,hr⟩:=hb
   refine ⟨c,fr,rfl,hr.size,fun k u hk=>?_,hr.free,hr.mark,hr.opn,hr.sh0⟩
   have hlt:=xM hk
   have hv:l[k]?=some l[k]:=by simp [hlt]
   have e1:=h5' k _ hv
   rw [hk] at e1; cases e1
   exact hr.val k _ (h5 k _ hv)
 | ro c=>cases y <;> exact h.elim
 | map es c =>
   cases y <;> first | exact h.elim | skip
   cases y' <;> first | exact h'.elim | skip
   obtain ⟨rfl,rfl⟩:=h
   obtain ⟨rfl,rfl⟩:=h'
   exact hb
 | iter m a b c =>
   cases y <;> first | exact h.elim | skip
   cases y' <;> first | exact h'.elim | skip
   obtain ⟨rfl,rfl,rfl,rfl⟩:=h
   obtain ⟨rfl,rfl,rfl,rfl⟩:=h'
   exact hb
 | siter s p =>
   cases y <;> first | exact h.elim | skip
   cases y' <;> first | exact h'.elim | skip
   obtain ⟨rfl,rfl⟩:=h
   obtain ⟨rfl,rfl⟩:=h'
   exact hb
theorem Uv {ρ:Ren} {M:RM} {w:World} {b:Nat} {x:RB} {y:cB} {ob:Obj} {i:iE} (hw:dW P ρ M w) (hi:i.cb=w.heap.size) (hb:ρ b=none) (hlt:b<M.next) (hx:M.heap b=some x) (hle:wS x y)
  (hrel:jk P ρ i y ob) : dW P (ρ.add b i) M (w.alloc ob)∧Step M.lo b ρ w (ρ.add b i) (w.alloc ob):=by
 obtain ⟨A,hA⟩:=hw
 rcases hA.blk b x hx with ⟨y',hy',hle'⟩ | ⟨c,rfl,_⟩
 ·obtain ⟨h1,h2⟩:=Gu hA.rel hA.size hi hb (by rw [hA.next]; exact hlt) hy' ((YD hle hle' hrel).mono (Ren.rQ hb))
  have:=hA.size
  refine ⟨⟨A,hA.next,h1,by simp; omega,fun c z hz=>?_,fun c hc=>?_⟩,h2⟩
  ·rcases hA.blk c z hz with k | ⟨d,rfl,hlt,elem,fr,hh⟩
   ·exact .inl k
   ·exact .inr ⟨d,rfl,hlt,elem,fr,by rw [heap_alloc_old w ob c (by omega)]; exact hh⟩
  ·unfold Ren.add
   rw [if_neg (fun e=>by subst e; rw [hA.old _ hc] at hb; cases hb)]
   exact hA.old c hc
 ·cases y <;> exact hle.elim
structure Ei (P:Program) (nt:Nat) (ops:Array Oper) (ri:RI) (T0:Tree AV) (M0:RM) (ρ0:Ren) (w0:World) (k:Nat) (done rest:List Nat) (s:nO) (S:Nat→Prop) (ρ:Ren) (a:Act) (w:World) : Prop where
 es:ri.es=done++rest
 len:done.length=k
 closed:Closed ops.toList S
 dn:∀ x∈done,S x
 rs:∀ x∈rest,¬ S x
 lev:∀ (j:Nat) (r:Row),ri.rows[j]?=some r→jB r.kd=false→S j→r.lev≤k
 size:a.tmps.size=nt
 defers:a.defers=[]
 slot:EL ρ T0 ri.wr s.vals S a
 wrel:dW P ρ s.M w
 step:Step M0.lo M0.next ρ0 w0 ρ w
 base:s.M.base=M0.base
 next:M0.next≤s.M.next
 bid:∀ j b,s.bids.get j=some (some b)→M0.next≤b∧b<s.M.next∧(¬ S j→ρ b=none)∧j<ops.size
 bidne:∀ j1 j2 b,s.bids.get j1=some (some b)→s.bids.get j2=some (some b)→j1=j2
variable {M0:RM} {ρ0:Ren} {w0:World} {k:Nat} {done rest:List Nat} {s:nO} {S:Nat→Prop} {ρ:Ren} {a:Act} {w:World}
theorem Vo (ht:l8 P nt ops ri) (hI:Ei P nt ops ri T0 M0 ρ0 w0 k done rest s S ρ a w) {i:Nat} {r:Row} (hr:ri.rows[i]?=some r) (hns:¬ S i) (hd:∀ e∈r.o.after.toList,Region.binds .any e=true→S e.on)
  (hok:q8 ri r=true) : ∀ x∈r.o.op.operands,aB ρ (iG T0 ri.wr s.vals r.m x) (a.eval x):=by
 intro x hx
 have hx' : DY ri r x=true:=by
  unfold q8 at hok
  exact List.all_eq_true.1 hok x (by simpa using hx)
 cases x with
 | tmp t =>
   obtain ⟨h1,h2⟩:=hI.slot t
   simp only [iG,Act.eval]
   simp only [DY] at hx'
   cases hw:ri.wr.get t with
   | none =>
     simp only
     exact h2 fun j hj=>by rw [hw] at hj; cases hj
   | some j =>
     rw [hw] at hx'
     simp only
     cases hb:Nat.testBit r.m j with
     | true =>
       simp only
       exact h1 j hw (ht.ahead hI.closed hr hd hb)
     | false =>
       simp only
       refine h2 fun j' hj'=>?_
       rw [hw] at hj'; cases hj'
       simp only [hb,Bool.false_or,Bool.or_eq_true] at hx'
       obtain ⟨e1,_⟩:=ht.row hr
       rcases hx' with hx' | hx'
       ·rw [bJ hx',e1]; exact hns
       ·intro hS
        rw [dI,e1] at hx'
        obtain ⟨o,ho,_⟩:=ht.wrs t j hw
        exact hns (ht.zF hI.closed hS ho hx')
 | const v =>
   simp only [iG,mf,Act.eval]
   cases hv:jS v with
   | none=>exact .top _
   | some u=>exact jM hv
 | global g=>exact .top _
 | func f=>exact .fn _ _ _ _ _ rfl .nil .nil
theorem IB (ht:l8 P nt ops ri) (hI:Ei P nt ops ri T0 M0 ρ0 w0 k done rest s S ρ a w) {i:Nat} {r:Row} (hr:ri.rows[i]?=some r) (hd:∀ e∈r.o.after.toList,Region.binds .any e=true→S e.on) {g:Option (AV × Bool)}
  (hg:guardOf ops ri.wr s.vals r=some g) : (QV g→Region.wanted r.o (yielded ops a.tmps)=true)∧(GN g→Region.wanted r.o (yielded ops a.tmps)=false):=by
 unfold guardOf at hg
 unfold Region.wanted
 split at hg
 ·rename_i hgu; simp only [hgu]; cases hg
  exact ⟨fun _=>trivial,fun h=>h.elim⟩
 ·rename_i j want hgu
  simp only [hgu]
  split at hg <;> first | (cases hg; done) | skip
  rename_i d hdst
  split at hg <;> first | (cases hg; done) | skip
  rename_i j' hb hwr
  split at hg <;> first | (cases hg; done) | skip
  rename_i he
  cases hg
  have he:=bJ he
  subst he
  have hv:=(hI.slot d).1 j' hwr (ht.ahead hI.closed hr hd hb)
  have hyv:yielded ops a.tmps j'=match a.tmps[d]? with | some (.bool b)=>some b | _=>none:=by
   unfold yielded; rw [hdst]; rfl
  have hget:∀ t:Bool,a.tmps.getD d undef=.bool t↔a.tmps[d]?=some (.bool t):=by
   intro t
   rw [Array.getD_eq_getD_getElem?]
   cases hx:a.tmps[d]? with
   | none=>simp [undef]
   | some y=>simp
  have off:(∀ b,a.tmps.getD d undef=.bool b→b≠want)→(yielded ops a.tmps j' == some want)=false:=by
   intro hn
   rw [hyv]
   cases hx:a.tmps[d]? with
   | none=>rfl
   | some y =>
     cases y <;> try rfl
     rename_i b
     have:=hn b ((hget b).2 hx)
     simpa using this
  constructor
  ·intro hon
   simp only [QV] at hon
   rw [hon] at hv
   have hc:=(bg hv).1
   rw [hyv,(hget want).1 hc]; simp
  ·intro hoff
   simp only [GN] at hoff
   refine off fun b hb'=>?_
   rcases hoff with hu | ⟨b',hu,hne⟩
   ·rw [hu] at hv
    obtain ⟨vs,hc,hrl⟩:=z8 hv
    rw [hc] at hb'; cases hb'
   ·rw [hu] at hv
    rw [(bg hv).1] at hb'; cases hb'; exact hne
def Mt (P:Program) (ops:Array Oper) (T0:Tree AV) (ri:RI) (k:Nat) (s:nO) (K:nO→Prop) : List Nat→Prop
 | []=>K s
 | x :: rest=>∃ r,nth ri.rows x=some r∧wO (guardOf ops ri.wr s.vals r) (j4 P r.o (iG T0 ri.wr s.vals r.m) s.M) (fun k=>k .undef s.M)
    (fun v M'=>LG P ops T0 ri k ri.rows { vals:=s.vals.set x v,M:=M',bids:=s.bids } (uM P ops T0 ri (k + 1) rest { vals:=s.vals.set x v,M:=M',bids:=s.bids } K))
theorem FR (ht:l8 P nt ops ri) {K:nO→Prop} {es:List Nat} (hf:Fr s.M) (hbd:∀ j b,s.bids.get j=some (some b)→b<s.M.next) (h:uM P ops T0 ri k es s K) :
  ∃ s1,Mt P ops T0 ri k s1 K es∧SQ P ops T0 ri k 0 s s1:=by
 cases es with
 | nil =>
   rw [uM] at h
   exact xO ht ri.rows 0 s rfl hf hbd h
 | cons x rest =>
   rw [uM] at h
   obtain ⟨s1,hk,hp⟩:=xO ht ri.rows 0 s rfl hf hbd h
   refine ⟨s1, ?_,hp⟩
   split at hk
   ·cases hk
   ·rename_i r hr
    exact ⟨r,hr,hk⟩
def ZE (P:Program) (ops:Array Oper) (T0:Tree AV) (ri:RI) (k:Nat) (s:nO) : Prop:=∀ r∈ri.rows,jB r.kd=false→jP ri.ms ri.es k r=true→rZ P ops T0 ri.wr s r
theorem BF {acc:List Nat} : ∀ (es:List Edge) (e:Edge),e∈es→Region.binds .any e=true→Nat.testBit (mi acc es) e.on=true∧∀ j,Nat.testBit ((nth acc e.on).getD 0) j=true→Nat.testBit (mi acc es) j=true
 | [],e,h,_=>by cases h
 | x :: es,e,h,hb=>by
   simp only [mi]
   rcases List.mem_cons.1 h with rfl | h
   ·rw [hb]
    simp only
    refine ⟨?_,fun j hj=>?_⟩
    ·rw [Nat.testBit_or,Nat.testBit_or,Nat.testBit_two_pow]; simp
    ·rw [Nat.testBit_or,Nat.testBit_or,hj]; simp
   ·obtain ⟨h1,h2⟩:=BF (acc:=acc) es e h hb
    split
    ·refine ⟨?_,fun j hj=>?_⟩
     ·rw [Nat.testBit_or,h1]; simp
     ·rw [Nat.testBit_or,h2 j hj]; simp
    ·exact ⟨h1,h2⟩
theorem Lf (ht:l8 P nt ops ri) {q:Nat} {r:Row} (hq:ri.rows[q]?=some r) : ∃ pre,(∀ i,i<q→nth pre i=ri.ms[i]?)∧r.m=mi pre r.o.after.toList:=by
 obtain ⟨g1,g2,g3,g4,g5⟩:=ht.row hq
 obtain ⟨pre,h1,h2,h3⟩:=(xw ops.toList []).2 q r.o g2
 simp only [List.length_nil,Nat.zero_add] at h1 h2 h3
 refine ⟨pre,fun i hi=>by rw [dI,h2 i hi,← ht.ms], ?_⟩
 rw [← ht.ms,g3] at h3
 exact Option.some.inj h3
theorem Jn (ht:l8 P nt ops ri) {q:Nat} {r:Row} (hq:ri.rows[q]?=some r) {e:Edge} (he:e∈r.o.after.toList) (hb:Region.binds .any e=true) : Nat.testBit r.m e.on=true:=by
 obtain ⟨pre,_,h2⟩:=Lf ht hq
 rw [h2]; exact (BF _ e he hb).1
theorem yz (ht:l8 P nt ops ri) : ∀ (q:Nat) {i:Nat} {r:Row} {o:Oper},ri.rows[q]?=some r→Nat.testBit r.m i=true→ops.toList[i]?=some o→∀ {e:Edge},e∈o.after.toList→Region.binds .any e=true→Nat.testBit r.m e.on=true:=by
 intro q
 induction q using Nat.strongRecOn with
 | _ q ih =>
   intro i r o hq hi ho e he hb
   obtain ⟨g1,g2,g3,g4,g5⟩:=ht.row hq
   obtain ⟨pre,h1,h2⟩:=Lf ht hq
   have hi':=hi
   rw [h2] at hi'
   obtain ⟨e0,he0,hb0,hcase⟩:=vZ _ hi'
   have hlt:=ht.edges q r.o g2 e0 he0 hb0
   obtain ⟨r0,hr0,_⟩:=ht.ex (j:=e0.on) (o:=ops.toList[e0.on]'(by have:=(List.getElem?_eq_some_iff.1 g2).1; omega)) (by simp)
   obtain ⟨k1,k2,k3,k4,k5⟩:=ht.row hr0
   have hsub:∀ j,Nat.testBit r0.m j=true→Nat.testBit r.m j=true:=by
    intro j hj
    rw [h2]
    refine (BF _ e0 he0 hb0).2 j ?_
    rw [h1 e0.on hlt,k3]; exact hj
   rcases hcase with rfl | ⟨m,hm,hmi⟩
   ·rw [k2] at ho; cases ho
    exact hsub _ (Jn ht hr0 he hb)
   ·rw [← dI,h1 e0.on hlt,k3] at hm
    cases hm
    exact hsub _ (ih e0.on hlt hr0 hmi ho he hb)
theorem BD {m m' : Nat} (h:∀ x,Nat.testBit m x=true→Nat.testBit m' x=true) : ∀ (es:List Nat) (i0 b b' : Nat),b≤b'→b'≤i0→lI m es i0 b≤lI m' es i0 b'
 | [],i0,b,b',hb,_=>by simpa [lI] using hb
 | x :: es,i0,b,b',hb,hi=>by
   simp only [lI]
   cases hm:Nat.testBit m x with
   | true =>
     rw [h x hm]
     exact BD h es (i0 + 1) _ _ (Nat.le_refl _) (Nat.le_refl _)
   | false =>
     cases hm' : Nat.testBit m' x with
     | true=>exact BD h es (i0 + 1) b (i0 + 1) (by omega) (Nat.le_refl _)
     | false=>exact BD h es (i0 + 1) b b' hb (by omega)
theorem WS (ht:l8 P nt ops ri) {listed:Array Bool} (hsz:listed.size=ops.size) (hI:Ei P nt ops ri T0 M0 ρ0 w0 k done rest s (eO listed) ρ a w) {i:Nat} {r:Row} (hi:i<ops.size) (hr:ri.rows[i]?=some r)
  (hd:∀ e∈r.o.after.toList,Region.binds .any e=true→eO listed e.on) (hk:jB r.kd=false) (hlev:r.lev≤k) {v:AV} {v' : Value} {ρ' : Ren} {w' : World} (hvi:s.vals.get i=some v) (hv:aB ρ' v v') (hle:ρ.le ρ')
  (hw:dW P ρ' s.M w') (hst:Step M0.lo M0.next ρ w ρ' w') (hbid:∀ j b,s.bids.get j=some (some b)→¬ eO (listed.setIfInBounds i true) j→ρ' b=none) :
  Ei P nt ops ri T0 M0 ρ0 w0 k done rest s (eO (listed.setIfInBounds i true)) ρ' (a.put r.o.dst v') w':=by
 have hS:∀ j,eO (listed.setIfInBounds i true) j↔eO listed j∨j=i:=q9 (by omega)
 obtain ⟨e1,e2,_⟩:=ht.row hr
 refine ⟨hI.es,hI.len, ?_,fun x hx=>(hS x).2 (.inl (hI.dn x hx)), ?_, ?_, ?_, ?_, ?_,hw,hI.step.trans hst (Nat.le_refl _),hI.base,hI.next,fun j b hb=>⟨(hI.bid j b hb).1,(hI.bid j b hb).2.1,hbid j b hb,(hI.bid j b hb).2.2.2⟩,hI.bidne⟩
 ·intro j o ho hj e he hb
  rcases (hS j).1 hj with hj | rfl
  ·exact (hS _).2 (.inl (hI.closed j o ho hj e he hb))
  ·rw [e2] at ho; cases ho
   exact (hS _).2 (.inl (hd e he hb))
 ·intro x hx hl
  rcases (hS x).1 hl with hl | rfl
  ·exact hI.rs x hx hl
  ·have:x∈ri.es:=by rw [hI.es]; exact List.mem_append_right _ hx
   rw [ht.qN hr,hk] at this
   cases this
 ·intro j r' hr' hk' hj
  rcases (hS j).1 hj with hj | rfl
  ·exact hI.lev j r' hr' hk' hj
  ·rw [hr] at hr'; cases hr'; exact hlev
 ·cases hdst:r.o.dst <;> simp [Act.put,hI.size]
 ·cases hdst:r.o.dst <;> simp [Act.put,hI.defers]
 ·exact Bl ht (fun t=>⟨fun j h1 h2=>((hI.slot t).1 j h1 h2).mono hle,fun h=>((hI.slot t).2 h).mono hle⟩) hI.size hr hv hvi hS
theorem WA (ht:l8 P nt ops ri) {listed:Array Bool} (hsz:listed.size=ops.size) {i:Nat} {rest' : List Nat} (hI:Ei P nt ops ri T0 M0 ρ0 w0 k done (i :: rest') s (eO listed) ρ a w) (hchk:ZE P ops T0 ri k s) {r:Row} (hi:i<ops.size) (hr:ri.rows[i]?=some r)
  (hd:∀ e∈r.o.after.toList,Region.binds .any e=true→eO listed e.on) (hnd:i ∉ rest') {v:AV} {v' : Value} {ρ' : Ren} {w' : World} {M' : RM} (hv:aB ρ' v v') {K:nO→Prop}
  (haft:After P s.M ρ w M' ρ' w') (hre:LG P ops T0 ri k ri.rows { vals:=s.vals.set i v,M:=M',bids:=s.bids } (uM P ops T0 ri (k + 1) rest' { vals:=s.vals.set i v,M:=M',bids:=s.bids } K)) :
  ∃ s3,Ei P nt ops ri T0 M0 ρ0 w0 (k + 1) (done++[i]) rest' s3 (eO (listed.setIfInBounds i true)) ρ' (a.put r.o.dst v') w'∧ZE P ops T0 ri (k + 1) s3∧Mt P ops T0 ri (k + 1) s3 K rest':=by
 have hS:∀ j,eO (listed.setIfInBounds i true) j↔eO listed j∨j=i:=q9 (by omega)
 obtain ⟨e1,e2,e3,e4,e5⟩:=ht.row hr
 have hmem:i∈ri.es:=by rw [hI.es]; simp
 have hke:=(ht.qN hr).1 hmem
 have hle:=haft.le hI.wrel
 -- an alive row that was done does not look at the effect
 have hesk:ri.es[k]?=some i:=by
  rw [hI.es,List.getElem?_append_right (by rw [hI.len]; omega),hI.len]; simp
 have notin:∀ r'∈ri.rows,r'.lev≤k→Nat.testBit r'.m i=true→False:=by
  intro r' hr' hl hb
  obtain ⟨q,hq⟩:=List.mem_iff_getElem?.1 hr'
  obtain ⟨g1,g2,g3,g4,g5⟩:=ht.row hq
  have key:∀ (es:List Nat) (i0 best k:Nat),es[k]?=some i→i0 + k + 1≤lI r'.m es i0 best:=by
   intro es
   induction es with
   | nil=>intro i0 best k h; simp at h
   | cons x es ih =>
     intro i0 best k h
     simp only [lI]
     cases k with
     | zero =>
       simp at h; subst h
       rw [hb]
       simp only
       have mono:∀ (es:List Nat) (j best:Nat),best≤j→best≤lI r'.m es j best:=by
        intro es
        induction es with
        | nil=>intro j best _; exact Nat.le_refl _
        | cons y es ih2 =>
          intro j best hbj
          simp only [lI]
          split
          ·exact Nat.le_trans (by omega) (ih2 (j + 1) (j + 1) (Nat.le_refl _))
          ·exact ih2 (j + 1) best (by omega)
       exact mono es (i0 + 1) (i0 + 1) (Nat.le_refl _)
     | succ k =>
       split
       ·have:=ih (i0 + 1) (i0 + 1) k (by simpa using h); omega
       ·have:=ih (i0 + 1) best k (by simpa using h); omega
  have:=key ri.es 0 0 k hesk
  rw [← g4] at this
  omega
 obtain ⟨hstage,hrows⟩:=GI (s0:=s) ri.rows hre fun r' hr' f1 f2 f3=>by
  refine ⟨hchk r' hr' f1 ?_,fun j hj=>?_,rfl⟩
  ·unfold jP at f3 ⊢
   rw [Bool.and_eq_true] at f3 ⊢
   refine ⟨bB.2 f2, ?_⟩
   have f4:=f3.2
   rw [List.all_eq_true] at f4 ⊢
   intro x hx
   refine f4 x ?_
   have:=List.take_subset_take_left ri.es (Nat.le_succ k)
   exact this hx
  ·simp only [Tree.bI]
   rw [if_neg]
   rintro rfl
   rcases hj with hj | hj
   ·exact notin r' hr' f2 hj
   ·obtain ⟨q,hq⟩:=List.mem_iff_getElem?.1 hr'
    obtain ⟨g1,_⟩:=ht.row hq
    have:q=j:=by omega
    subst this
    rw [hr] at hq; cases hq
    rw [f1] at hke; cases hke
 obtain ⟨s3,hcont,hp⟩:=FR (s := { vals:=s.vals.set i v,M:=M',bids:=s.bids }) ht (haft.rel.fr) (fun j b hb=>Nat.lt_of_lt_of_le (hI.bid j b hb).2.1 haft.next) hstage
 have hkeep:∀ j,eO listed j∨j=i→s3.vals.get j=(s.vals.set i v).get j:=by
  intro j hj
  refine (hp.keep j fun r' hr' _=>?_).1
  rintro ⟨hl,hk'⟩
  rcases hj with hj | rfl
  ·have:=hI.lev j r' hr' hk' hj; omega
  ·rw [hr] at hr'; cases hr'; rw [hke] at hk'; cases hk'
 have hvi:s3.vals.get i=some v:=by rw [hkeep i (.inr rfl),Tree.bI,if_pos rfl]
 refine ⟨s3,⟨by rw [hI.es]; simp,by simp [hI.len], ?_, ?_, ?_, ?_, ?_, ?_, ?_,hp.rel _ _ haft.rel,hI.step.trans (haft.step.QJ hI.base) hI.next, ?_, ?_, ?_, ?_⟩, ?_,hcont⟩
 ·intro j o ho hj e he hb
  rcases (hS j).1 hj with hj | rfl
  ·exact (hS _).2 (.inl (hI.closed j o ho hj e he hb))
  ·rw [e2] at ho; cases ho
   exact (hS _).2 (.inl (hd e he hb))
 ·intro x hx
  rcases List.mem_append.1 hx with hx | hx
  ·exact (hS x).2 (.inl (hI.dn x hx))
  ·simp at hx; subst hx; exact (hS x).2 (.inr rfl)
 ·intro x hx hl
  rcases (hS x).1 hl with hl | rfl
  ·exact hI.rs x (.tail _ hx) hl
  ·exact hnd hx
 ·intro j r' hr' hk' hj
  rcases (hS j).1 hj with hj | rfl
  ·have:=hI.lev j r' hr' hk' hj; omega
  ·rw [hr] at hr'; cases hr'; rw [hke] at hk'; cases hk'
 ·cases hdst:r.o.dst <;> simp [Act.put,hI.size]
 ·cases hdst:r.o.dst <;> simp [Act.put,hI.defers]
 ·refine Bl ht (v:=v) (S:=eO listed) (fun t=>⟨fun j h1 h2=>?_,fun h=>((hI.slot t).2 h).mono hle⟩) hI.size hr hv hvi hS
  rw [hkeep j (.inl h2),Tree.bI]
  split
  ·rename_i e
   subst e
   exact absurd h2 (hI.rs j (.head _))
  ·exact ((hI.slot t).1 j h1 h2).mono hle
 ·rw [hp.sub.1,← hI.base]; exact haft.base
 ·exact Nat.le_trans hI.next (Nat.le_trans haft.next hp.next)
 ·intro j b hb
  rcases hp.bids j b hb with h | ⟨h,h',_,r',hr'⟩
  ·obtain ⟨b1,b2,b3,b4⟩:=hI.bid j b h
   refine ⟨b1,Nat.lt_of_lt_of_le b2 (Nat.le_trans haft.next hp.next),fun hj=>?_,b4⟩
   rw [haft.step.ext b b2]
   exact b3 fun hl=>hj ((hS j).2 (.inl hl))
  ·refine ⟨Nat.le_trans hI.next (Nat.le_trans haft.next h),h',fun _=>haft.rel.fresh h, ?_⟩
   obtain ⟨g1,g2,_⟩:=ht.row hr'
   have:=(List.getElem?_eq_some_iff.1 g2).1
   rw [Array.length_toList] at this
   exact this
 ·intro j1 j2 b h1 h2
  rcases Nat.lt_or_ge b M'.next with hlt | hge
  ·have q:∀ j,s3.bids.get j=some (some b)→s.bids.get j=some (some b):=by
    intro j hj
    rcases hp.bids j b hj with k | ⟨k1,_⟩
    ·exact k
    ·simp only at k1; omega
   exact hI.bidne j1 j2 b (q j1 h1) (q j2 h2)
  ·exact hp.bidne j1 j2 b h1 h2 hge
 ·intro r' hr' f1 f3
  obtain ⟨q,hq⟩:=List.mem_iff_getElem?.1 hr'
  obtain ⟨g1,g2,g3,g4,g5⟩:=ht.row hq
  have f3':=f3
  unfold jP at f3'
  rw [Bool.and_eq_true] at f3'
  have hl:=bE f3'.1
  by_cases he:r'.lev=k + 1
  ·exact hp.done q r' hq (Nat.zero_le _) he f1
  ·have hl' : r'.lev≤k:=by omega
   refine (hrows r' hr' f1 hl' f3).keep (fun j hj=>?_) ?_ hp.sub
   ·refine (hp.keep j fun r2 hr2 _=>?_).1
    rintro ⟨h1,h2⟩
    rcases hj with hj | hj
    ·
     have hjm:r2.lev≤r'.lev:=by
      obtain ⟨q1,q2,q3,q4,q5⟩:=ht.row hr2
      have sub:∀ x,Nat.testBit r2.m x=true→Nat.testBit r'.m x=true:=by
       intro x hx
       have hcl:Closed ops.toList (fun i=>Nat.testBit r'.m i=true∨i=q):=by
        intro i o ho hi e he' hb'
        rcases hi with hi | rfl
        ·exact .inl (yz ht _ hq hi ho he' hb')
        ·rw [g2] at ho; cases ho
         exact .inl (Jn ht hq he' hb')
       rcases ht.zF hcl (.inl hj) q2 (by rw [q3]; exact hx) with h | h
       ·exact h
       ·subst h
        exfalso
        have hlt:j<x:=by
         have hc:Closed ops.toList (fun i=>i<x):=fun i o ho hi e he' hb'=>by have:=ht.edges i o ho e he' hb'; omega
         exact ht.ahead hc hq (fun e he' hb'=>ht.edges x r'.o g2 e he' hb') hj
        have hlt2:x<j:=by
         have hc:Closed ops.toList (fun i=>i<j):=fun i o ho hi e he' hb'=>by have:=ht.edges i o ho e he' hb'; omega
         exact ht.ahead hc hr2 (fun e he' hb'=>ht.edges j r2.o q2 e he' hb') hx
        omega
      rw [q4,g4]
      exact BD sub ri.es 0 0 0 (Nat.le_refl _) (Nat.le_refl _)
     omega
    ·have:q=j:=by omega
     subst this
     rw [hq] at hr2; cases hr2; omega
   ·refine (hp.keep r'.i fun r2 hr2 _=>?_).2
    rw [g1,hq] at hr2; cases hr2
    rintro ⟨h1,_⟩; omega
theorem UT (hP:FJ P) (ht:l8 P nt ops ri) (hslots:∀ r∈ri.rows,q8 ri r=true) {Q:Exit→Act→World→Prop} {K:nO→Prop}
  (hQ:∀ s ρ' a' w',K s→Step M0.lo M0.next ρ0 w0 ρ' w'→fP ρ' nt (zh T0 s.vals ri.rows) a'→dW P ρ' s.M w'→s.M.base=M0.base→M0.next≤s.M.next→Q .normal a' w') :
  ∀ (fuel:Nat) (listed:Array Bool) (k:Nat) (done rest:List Nat) (s:nO) (ρ:Ren) (a:Act) (w:World),listed.size=ops.size→listed.toList.count false≤fuel →
    Ei P nt ops ri T0 M0 ρ0 w0 k done rest s (eO listed) ρ a w→ZE P ops T0 ri k s→Mt P ops T0 ri k s K rest→wpAny P .any ops Q fuel listed a w:=by
 have fin:∀ (listed:Array Bool) (k:Nat) (done rest:List Nat) (s:nO) (ρ:Ren) (a:Act) (w:World),listed.size=ops.size→(∀ i,i<ops.size→eO listed i) →
   Ei P nt ops ri T0 M0 ρ0 w0 k done rest s (eO listed) ρ a w→Mt P ops T0 ri k s K rest→Q .normal a w:=by
  intro listed k done rest s ρ a w hsz hall hI hcont
  have hrest:rest=[]:=by
   cases rest with
   | nil=>rfl
   | cons x rest =>
     have hx:x∈ri.es:=by rw [hI.es]; simp
     rw [ht.es,pz] at hx
     obtain ⟨j,o,hj,rfl,_⟩:=hx
     have:=(List.getElem?_eq_some_iff.1 hj).1
     exact absurd (hall (0 + j) (by simpa using this)) (hI.rs _ (.head _))
  subst hrest
  have hcont:K s:=hcont
  refine hQ s ρ a w hcont hI.step ⟨hI.size,fun t=>?_,hI.defers⟩ hI.wrel hI.base hI.next
  obtain ⟨g1,g2⟩:=hI.slot t
  refine BH t _ ri.rows T0 (fun r hr hd=>?_) ?_
  ·obtain ⟨q,hq⟩:=List.mem_iff_getElem?.1 hr
   obtain ⟨e1,e2,_⟩:=ht.row hq
   have hql:=(List.getElem?_eq_some_iff.1 e2).1
   have:=g1 r.i (ht.dst q r hq t hd).1 (by rw [e1]; exact hall q (by simpa using hql))
   exact this
  ·by_cases hex:∃ j,ri.wr.get t=some j
   ·obtain ⟨j,hj⟩:=hex
    obtain ⟨o,ho,hdo⟩:=ht.wrs t j hj
    obtain ⟨r,hr,rfl⟩:=ht.ex ho
    exact .inl ⟨r,List.mem_of_getElem? hr,hdo⟩
   ·exact .inr (g2 fun j hj=>absurd ⟨j,hj⟩ hex)
 intro fuel
 induction fuel with
 | zero =>
   intro listed k done rest s ρ a w hsz hcnt hI hchk hcont
   have hall:∀ i,i<ops.size→eO listed i:=fun i hi=>H7 (by omega) (by omega)
   refine ⟨?_,fin listed k done rest s ρ a w hsz hall hI hcont⟩
   rw [List.eq_nil_iff_forall_not_mem]
   intro i hi
   obtain ⟨h1,h2,_⟩:=x8 hsz hi
   exact h2 (hall i h1)
 | succ fuel ih =>
   intro listed k done rest s ρ a w hsz hcnt hI hchk hcont
   refine ⟨fun hr=>fin listed k done rest s ρ a w hsz (Cc ht hsz hr) hI hcont,fun i hi=>?_⟩
   obtain ⟨hilt,hnl,o,ho,hd⟩:=x8 hsz hi
   obtain ⟨r,hr,rfl⟩:=ht.ex (j:=i) (o:=o) (by rw [Array.getElem?_toList]; exact ho)
   obtain ⟨e1,e2,e3,e4,e5⟩:=ht.row hr
   have hrm:=List.mem_of_getElem? hr
   have he:=Vo ht hI hr hnl hd (hslots r hrm)
   unfold wpOp
   simp only [ho]
   cases hk:jB r.kd with
   | false =>
     have hall:jP ri.ms ri.es k r=true:=by
      unfold jP
      rw [Bool.and_eq_true,List.all_eq_true]
      constructor
      ·rw [bB,e4]
       rcases vS (m:=r.m) ri.es 0 0 with h | ⟨q,x,a1,a2,a3⟩
       ·omega
       ·have hx:=ht.ahead hI.closed hr hd a2
        rw [a3]
        rcases Nat.lt_or_ge q k with h | h
        ·omega
        ·rw [hI.es,List.getElem?_append_right (by rw [hI.len]; exact h)] at a1
         exact absurd hx (hI.rs x (List.mem_of_getElem? a1))
      ·intro x hx
       rw [hI.es,List.take_left' hI.len] at hx
       rw [Bool.not_eq_true',← Bool.not_eq_true,e1,dI]
       intro hb
       have hxe:x∈ri.es:=by rw [hI.es]; exact List.mem_append_left _ hx
       rw [ht.es,pz] at hxe
       obtain ⟨j,o',hj,hxj,_⟩:=hxe
       rw [Nat.zero_add] at hxj; subst hxj
       exact hnl (ht.zF hI.closed (hI.dn x hx) hj hb)
     have hlev:r.lev≤k:=by
      unfold jP at hall
      rw [Bool.and_eq_true] at hall
      exact bE hall.1
     have hok:=hchk r hrm hk hall
     have hnb:∀ j b,s.bids.get j=some (some b)→¬ eO (listed.setIfInBounds i true) j→ρ b=none:=fun j b hb hj =>
      (hI.bid j b hb).2.2.1 fun hl=>hj ((q9 (by omega) j).2 (.inl hl))
     have next:∀ {v:AV} {v' : Value} {ρ' : Ren} {w' : World},s.vals.get i=some v→aB ρ' v v'→ρ.le ρ'→dW P ρ' s.M w'→Step M0.lo M0.next ρ w ρ' w' →
       (∀ j b,s.bids.get j=some (some b)→¬ eO (listed.setIfInBounds i true) j→ρ' b=none)→wpAny P .any ops Q fuel (listed.setIfInBounds i true) (a.put r.o.dst v') w':=by
      intro v v' ρ' w' hvi hv hle hw hst hb
      exact ih _ k done rest s ρ' _ w' (by simpa using hsz) (count_set (by omega) hnl hcnt) (WS ht hsz hI hilt hr hd hk hlev hvi hv hle hw hst hb) hchk hcont
     have hrefl:ρ.le ρ:=fun _ _ h=>h
     obtain ⟨g,hg,hcase⟩:=hok
     obtain ⟨gon,goff⟩:=IB ht hI hr hd hg
     rw [e1] at hcase
     rcases hcase with ⟨hon,v,hvi,hkd⟩ | ⟨hoff,hvi⟩
     ·rw [gon hon]
      simp only [if_true]
      refine .inl ?_
      have val:lL P r.o (iG T0 ri.wr s.vals r.m) s.M v→r.o.wp P a w (wpAny P .any ops Q fuel (listed.setIfInBounds i true)) Q:=by
       intro hgv
       obtain ⟨v',h1,h2⟩:=hgv ρ w a.eval s.M (RM.Sub.refl _) hI.wrel he
       exact kL r.o h1 (next hvi h2 hrefl hI.wrel (Step.refl _ _ _) hnb)
      cases hkk:r.kd with
      | pure=>rw [hkk] at hkd; exact val (hkd _)
      | read=>rw [hkk] at hkd; exact val hkd
      | qN=>rw [hkk] at hkd; exact hkd.elim
      | alloc =>
        rw [hkk] at hkd
        obtain ⟨x,mk,b,⟨y,hx,hle⟩,hbi,hy,hmk⟩:=hkd
        obtain ⟨d,ob,u,inf,hrun,hinf,hrel,hmkv⟩:=qm he hx w
        obtain ⟨b1,b2,b3,b4⟩:=hI.bid i b hbi
        have hbn:=b3 hnl
        have hd' : dW P ρ s.M (if d=true then w.drew else w):=by cases d <;> simp [hI.wrel,hI.wrel.drew]
        have hsz' : (if d=true then w.drew else w).heap.size=w.heap.size:=by cases d <;> simp
        have hst' : Step M0.lo M0.next ρ w ρ (if d=true then w.drew else w):=by cases d <;> simp [Step.refl,Step.drew]
        obtain ⟨h1,h2⟩:=Uv hd' (by omega) hbn b2 hy hle hrel
        replace h2:=h2.QJ hI.base
        refine kL r.o hrun (next hvi (hmk▸hmkv _ b (by simp [Ren.add])) (Ren.rQ hbn) h1 (hst'.trans h2 b1) fun j b' hb' hj=>?_)
        have hne:b'≠b:=by
         intro e
         subst e
         have hji:j≠i:=fun e=>hj ((q9 (by omega) j).2 (.inr e))
         exact hji (hI.bidne j i b' hb' hbi)
        unfold Ren.add
        rw [if_neg hne]
        exact hnb j b' hb' hj
     ·rw [goff hoff]
      simp only [Bool.false_eq_true,if_false]
      exact next hvi (.tup _ _ .nil) hrefl hI.wrel (Step.refl _ _ _) hnb
   | true =>
     have hie:i∈ri.es:=(ht.qN hr).2 hk
     rw [hI.es] at hie
     have hir:i∈rest:=by
      rcases List.mem_append.1 hie with h | h
      ·exact absurd (hI.dn i h) hnl
      ·exact h
     cases rest with
     | nil=>cases hir
     | cons x rest' =>
       have hxi:x=i:=by
        rcases List.mem_cons.1 hir with e | hm
        ·exact e.symm
        ·obtain ⟨l1,l2,hl⟩:=List.append_of_mem hm
         have:=ht.chain (done++x :: l1) i l2 (by rw [hI.es,hl]; simp) x (by simp)
         rw [e3] at this
         exact absurd (ht.ahead hI.closed hr hd this) (hI.rs x (.head _))
       subst hxi
       have hnd:x ∉ rest':=by
        intro hm
        obtain ⟨l1,l2,hl⟩:=List.append_of_mem hm
        have:=ht.chain (done++x :: l1) x l2 (by rw [hI.es,hl]; simp) x (by simp)
        rw [e3] at this
        exact hnl (ht.ahead hI.closed hr hd this)
       obtain ⟨r',hr',hgs⟩:=hcont
       rw [dI,hr] at hr'; cases hr'
       obtain ⟨g,hg,hcase⟩:=su hgs
       obtain ⟨gon,goff⟩:=IB ht hI hr hd hg
       have next:∀ {v:AV} {v' : Value} {ρ' : Ren} {w' : World} {M' : RM},aB ρ' v v'→After P s.M ρ w M' ρ' w' →
         LG P ops T0 ri k ri.rows { vals:=s.vals.set x v,M:=M',bids:=s.bids } (uM P ops T0 ri (k + 1) rest' { vals:=s.vals.set x v,M:=M',bids:=s.bids } K) →
         wpAny P .any ops Q fuel (listed.setIfInBounds x true) (a.put r.o.dst v') w':=by
        intro v v' ρ' w' M' hv haft hre
        obtain ⟨s3,h1,h2,h3⟩:=WA ht hsz hI hchk hilt hr hd hnd hv haft hre
        exact ih _ (k + 1) _ rest' s3 ρ' _ w' (by simpa using hsz) (count_set (by omega) hnl hcnt) h1 h2 h3
       rcases hcase with ⟨hon,hn⟩ | ⟨hoff,hn⟩
       ·rw [gon hon]
        simp only [if_true]
        exact .inl (QU (Fy hP (fun _=>rfl) hn) hI.wrel he fun v v' M' ρ' w' haft hv hk=>next hv haft hk)
       ·rw [goff hoff]
        simp only [Bool.false_eq_true,if_false]
        exact next (.tup _ _ .nil) (After.refl hI.wrel) hn
theorem GU {vals:Tree AV} {t:Nat} : ∀ (rows:List Row) (T:Tree AV),(∀ r∈rows,r.o.dst≠some t)→(zh T vals rows).get t=T.get t
 | [],T,_=>rfl
 | r :: rows,T,h=>by
   simp only [zh]
   cases hd:r.o.dst with
   | none=>exact GU rows T fun r' hr'=>h r' (.tail _ hr')
   | some d =>
     simp only
     rw [GU rows _ fun r' hr'=>h r' (.tail _ hr'),Tree.bI,if_neg]
     intro e; subst e
     exact h r (.head _) hd
theorem QF (hP:FJ P) {id:Nat} {T:Tree AV} {M:RM} {K:Tree AV→RM→Prop} {Q:Exit→Act→World→Prop} (hM:After P M0 ρ0 w0 M ρ w) (hA:fP ρ nt T a)
  (hQ:∀ T' M' ρ' a' w',After P M0 ρ0 w0 M' ρ' w'→fP ρ' nt T' a'→K T' M'→(∀ t,(∀ o∈ops.toList,o.dst≠some t)→T'.get t=T.get t)→Q .normal a' w') (h:Sr P nt ops T M K) : (Code.region id ops true).wp P Q a w:=by
 unfold Sr at h
 split at h <;> first | (cases h; done) | skip
 rename_i ri hri
 split at h <;> first | (cases h; done) | skip
 rename_i hslots
 have ht:=zU hri
 obtain ⟨s1,h1,hp⟩:=FR ht hM.rel.fr (fun j b hb=>by simp [Tree.get] at hb) h
 have hno:∀ i,¬ eO (Array.replicate ops.size false) i:=by
  intro i h
  unfold eO at h
  simp only [Array.getD_eq_getD_getElem?,Array.getElem?_replicate] at h
  split at h <;> simp at h
 refine wp_region_any hP.mixed (UT (M0:=M0) (ρ0:=ρ0) (w0:=w0) (T0:=T) hP ht (fun r hr=>List.all_eq_true.1 hslots r hr) (fun s ρ' a' w' k0 k1 k2 k3 k4 k5=>hQ _ _ ρ' a' w' ⟨k1,k3,k4,k5⟩ k2 k0 (fun t hnt=>GU ri.rows T fun r hr=>by
   obtain ⟨q,hq⟩:=List.mem_iff_getElem?.1 hr
   exact hnt r.o (List.mem_of_getElem? (ht.row hq).2.1))) ops.size _ 0 [] ri.es s1 ρ a _ (by simp) (by simp) ?_ ?_ h1)
 ·refine ⟨rfl,rfl,fun i o _ hi=>absurd hi (hno i),(fun x hx=>by cases hx),fun x _=>hno x,fun j r _ _ hj=>absurd hj (hno j),hA.size,hA.defers,fun t=>⟨fun j _ hj=>absurd hj (hno j),fun _=>hA.val t⟩,hp.rel _ _ hM.rel.drew,hM.step.trans (Step.drew (n:=M0.next)) (Nat.le_refl _),by rw [hp.sub.1]; exact hM.base,Nat.le_trans hM.next hp.next,fun j b hb'=>?_,fun j1 j2 b b1 b2=>?_⟩
  ·rcases hp.bids j b hb' with h | ⟨h,h',_,r,hr⟩
   ·simp [Tree.get] at h
   ·refine ⟨Nat.le_trans hM.next h,h',fun _=>hM.rel.fresh h, ?_⟩
    obtain ⟨g1,g2,_⟩:=ht.row hr
    have:=(List.getElem?_eq_some_iff.1 g2).1
    rw [Array.length_toList] at this
    exact this
  ·rcases hp.bids j1 b b1 with h | ⟨h,_⟩
   ·simp [Tree.get] at h
   ·exact hp.bidne j1 j2 b b1 b2 h
 ·intro r hr hk hal
  obtain ⟨q,hq⟩:=List.mem_iff_getElem?.1 hr
  unfold jP at hal
  rw [Bool.and_eq_true] at hal
  exact hp.done q r hq (Nat.zero_le _) (by have:=bE hal.1; omega) hk
end
end Go.Ab
set_option linter.unusedVariables false
set_option linter.unusedSimpArgs false
namespace Go.Ab
open Go Go.RowKit
def MR:Option Tmp→Nat
 | some d=>2 ^ d
 | none=>0
def VY:Operand→Nat
 | .tmp t=>2 ^ t
 | _=>0
def VN:List Operand→Nat
 | []=>0
 | x :: xs=>VY x ||| VN xs
def V8 (L m:Nat) : Nat:=L ^^^ (L &&& m)
def I7:List Oper→Nat
 | []=>0
 | o :: os=>MR o.dst ||| I7 os
def iD:Nat→Code→Nat
 | 0,_=>0
 | f + 1,c=>match c with
   | .region _ ops _=>I7 ops.toList
   | .seq a b=>iD f a ||| iD f b
   | .cond _ a b=>iD f a ||| iD f b
   | .block _ c=>iD f c
   | .loop c=>iD f c
   | .scope c=>iD f c
   | _=>0
def QY:List Oper→Nat→Nat
 | [],L=>L
 | o :: os,L=>V8 (QY os L) (MR o.dst) ||| VN o.op.operands.toList
def UM:List (Nat × Nat)→Nat→Nat
 | [],_=>0
 | (i,L) :: r,id=>match Nat.beq i id with
   | true=>L
   | false=>UM r id
def iN (ret:Nat) : Nat→List (Nat × Nat)→Code→Nat→Nat
 | 0,_,_,_=>0
 | f + 1,env,c,L=>match c with
   | .skip=>L
   | .region _ ops _=>QY ops.toList L
   | .seq a b=>iN ret f env a (iN ret f env b L)
   | .cond c a b=>VY c ||| iN ret f env a L ||| iN ret f env b L
   | .block id c=>iN ret f ((id,L) :: env) c L
   | .loop c=>iN ret f env c (iN ret f env c 0)
   | .exit id=>UM env id
   | .ret=>ret
   | .scope c=>iN ret f env c L
   | .label _=>L
   | _=>0
def cap2 (n:Nat) : Nat:=match n with | 0=>0 | 1=>1 | _=>2
def tJ (id:Nat) : Nat→Code→Nat
 | 0,_=>2
 | f + 1,c=>match c with
   | .seq a b=>cap2 (tJ id f a + tJ id f b)
   | .cond _ a b=>cap2 (tJ id f a + tJ id f b)
   | .block _ c=>tJ id f c
   | .loop c=>tJ id f c
   | .exit i=>match Nat.beq i id with | true=>1 | false=>0
   | _=>0
def xB:Nat→Code→Nat
 | 0,_=>2
 | f + 1,c=>match c with
   | .skip=>1
   | .region _ _ _=>1
   | .seq a b=>cap2 (xB f a * xB f b)
   | .cond _ a b=>cap2 (xB f a + xB f b)
   | .block id c=>cap2 (xB f c + tJ id f c)
   | .scope c=>xB f c
   | .label _=>1
   | _=>0
def zS (m:Nat) : Nat→Nat→List Nat
 | _,0=>[]
 | i,n + 1=>match Nat.testBit m i with
   | true=>i :: zS m (i + 1) n
   | false=>zS m (i + 1) n
def bitsOf (m nt:Nat) : List Nat:=zS m 0 nt
def yU (T:Tree AV) : List Nat→List AV
 | []=>[]
 | t :: ts=>(T.get t).getD .top :: yU T ts
def aa:List AV→Nat→AV
 | [],_=>.top
 | x :: _,0=>x
 | _ :: xs,n + 1=>aa xs n
def BL (T:Tree AV) : List Nat→Tree AV
 | []=>T
 | t :: ts=>BL (T.set t .top) ts
def O3 (T:Tree AV) (xs:List AV) : Nat→List Nat→Tree AV
 | _,[]=>T
 | i,t :: ts=>O3 (T.set t (aa xs i)) xs (i + 1) ts
def Aj (T:Tree AV) (asg vs:List Nat) (xs:List AV) : Tree AV:=O3 (BL T asg) xs 0 vs
def aA (x:AV) (p q:Prop) : Prop :=
 match x with
 | .sc (.bool b)=>(b=true→p)∧(b=false→q)
 | _=>False
def dE (f:(List AV→RM→Prop)→Prop) (g:List AV→RM→Prop) : Prop:=f g
def aU (body:(List AV→RM→Prop)→List AV→RM→Prop) (xs:List AV) (M:RM) : Prop :=
 ∃ (I:Nat→List AV→RM→Prop) (n:Nat),I n xs M∧∀ m ys M',I m ys M'→body (fun zs M''=>∃ m',m'<m∧I m' zs M'') ys M'
abbrev K3:=Ex→Tree AV→RM→Prop
def wpC (P:Program) (nt ret:Nat) : Nat→Code→List (Nat × Nat)→Nat→Tree AV→RM→K3→Prop
 | 0,_,_,_,_,_,_=>False
 | f + 1,c,env,L,T,M,K=>match c with
   | .skip=>K .normal T M
   | .region _ ops false=>KF P nt ops ops.toList T M (fun T' M'=>K .normal T' M')
   | .region _ ops true=>Sr P nt ops T M (fun T' M'=>K .normal T' M')
   | .seq a b=>match Nat.ble (xB f a) 1 with
     | true=>wpC P nt ret f a env (iN ret f env b L) T M (fun e T' M'=>match e with
       | .normal=>wpC P nt ret f b env L T' M' K
       | e=>K e T' M')
     | false=>dE (fun J=>wpC P nt ret f a env (iN ret f env b L) T M (fun e T' M'=>match e with
       | .normal=>J (yU T' (bitsOf (iD f a &&& iN ret f env b L) nt)) M'
       | e=>K e T' M'))
       (fun xs M'=>wpC P nt ret f b env L (Aj T (bitsOf (iD f a) nt) (bitsOf (iD f a &&& iN ret f env b L) nt) xs) M' K)
   | .cond c a b=>aA (mf T c) (wpC P nt ret f a env L T M K) (wpC P nt ret f b env L T M K)
   | .block id c=>wpC P nt ret f c ((id,L) :: env) L T M (fun e T' M'=>match e with
     | .exit i=>match Nat.beq i id with
       | true=>K .normal T' M'
       | false=>K (.exit i) T' M'
     | e=>K e T' M')
   | .loop c=>aU (fun next xs M'=>wpC P nt ret f c env (iN ret f env c (iN ret f env c 0)) (Aj T (bitsOf (iD f c) nt) (bitsOf (iD f c &&& iN ret f env c (iN ret f env c 0)) nt) xs) M'
     (fun e T' M'=>match e with
      | .normal=>next (yU T' (bitsOf (iD f c &&& iN ret f env c (iN ret f env c 0)) nt)) M'
      | e=>K e T' M'))
     (yU T (bitsOf (iD f c &&& iN ret f env c (iN ret f env c 0)) nt)) M
   | .exit id=>K (.exit id) T M
   | .ret=>K .ret T M
   | .scope c=>wpC P nt ret f c env L T M K
   | .label _=>K .normal T M
   | _=>False
def WX (P:Program) (T:Tree AV) (M:RM) (r:ResultVar) (K:AV→Prop) : Prop :=
 match r with
 | .tmp t=>K ((T.get t).getD .top)
 | .cell a t=>match jm P t with
   | some false=>aj M ((T.get a).getD .top) K
   | some true=>match bF P t with
     | some n=>aH M ((T.get a).getD .top) n K
     | none=>False
   | none=>False
def WH (P:Program) (T:Tree AV) (M:RM) : List ResultVar→(List AV→Prop)→Prop
 | [],K=>K []
 | r :: rs,K=>WX P T M r (fun v=>WH P T M rs (fun vs=>K (v :: vs)))
def aab (Q:ai) (M:RM) : List AV→Prop
 | [v]=>Q v M
 | vs=>Q (.tup vs) M
def JQ:List ResultVar→Nat
 | []=>0
 | .tmp t :: rs=>2 ^ t ||| JQ rs
 | .cell a _ :: rs=>2 ^ a ||| JQ rs
def U1 (P:Program) (fn:Func) (c:Code) (args:List AV) (M:RM) (Q:ai) : Prop :=
 wpC P (args.length + (fn.ntmps - args.length)) (JQ fn.results.toList) 1000 c [] 0 (Tree.ofList args 0 .leaf) M
  (fun e T M'=>match e with
   | .exit _=>False
   | _=>WH P T M' fn.results.toList (aab Q M'))
section
variable {P:Program} {nt ret:Nat}
def Tw (P:Program) (nt:Nat) (M0:RM) (ρ0:Ren) (w0:World) (T:Tree AV) (asg:Nat) (K:K3) (e:Exit) (a:Act) (w:World) : Prop :=
 ∃ x T' M' ρ',e=Kw x∧After P M0 ρ0 w0 M' ρ' w∧fP ρ' nt T' a∧(∀ t,Nat.testBit asg t=false→T'.get t=T.get t)∧K x T' M'
theorem NG {T:Tree AV} : ∀ (vs:List Nat) (i:Nat),aa (yU T vs) i=match vs[i]? with | some t=>(T.get t).getD .top | none=>.top
 | [],i=>by simp [yU,aa]
 | t :: vs,0=>by simp [yU,aa]
 | t :: vs,i + 1=>by simp [yU,aa,NG vs i]
theorem CO:∀ (asg:List Nat) (T:Tree AV) (t:Nat),(BL T asg).get t=if t∈asg then some .top else T.get t
 | [],T,t=>by simp [BL]
 | d :: asg,T,t=>by
   simp only [BL,CO asg,Tree.bI,List.mem_cons]
   by_cases h1:t∈asg
   ·simp [h1]
   ·by_cases h2:t=d <;> simp [h1,h2]
theorem Gw:∀ (vs:List Nat) (T:Tree AV) (xs:List AV) (i t:Nat),(t ∉ vs∧(O3 T xs i vs).get t=T.get t)∨∃ j,vs[j]?=some t∧(O3 T xs i vs).get t=some (aa xs (i + j))
 | [],T,xs,i,t=>.inl ⟨by simp,rfl⟩
 | d :: vs,T,xs,i,t=>by
   simp only [O3]
   rcases Gw vs (T.set d (aa xs i)) xs (i + 1) t with ⟨h1,h2⟩ | ⟨j,h1,h2⟩
   ·rw [Tree.bI] at h2
    by_cases e:t=d
    ·rw [if_pos e] at h2
     exact .inr ⟨0,by simp [e],h2⟩
    ·rw [if_neg e] at h2
     exact .inl ⟨by simp [e,h1],h2⟩
   ·exact .inr ⟨j + 1,by simpa using h1,by rw [h2]; congr 2; omega⟩
theorem Bp {m:Nat} : ∀ (n i t:Nat),t∈zS m i n↔i≤t∧t<i + n∧Nat.testBit m t=true
 | 0,i,t=>by simp [zS]; omega
 | n + 1,i,t=>by
   simp only [zS]
   split
   ·rename_i h
    rw [List.mem_cons,Bp n (i + 1) t]
    constructor
    ·rintro (rfl | ⟨a,b,c⟩)
     ·exact ⟨Nat.le_refl _,by omega,h⟩
     ·exact ⟨by omega,by omega,c⟩
    ·rintro ⟨a,b,c⟩
     by_cases e:t=i
     ·exact .inl e
     ·exact .inr ⟨by omega,by omega,c⟩
   ·rename_i h
    rw [Bp n (i + 1) t]
    constructor
    ·rintro ⟨a,b,c⟩; exact ⟨by omega,by omega,c⟩
    ·rintro ⟨a,b,c⟩
     have:t≠i:=fun e=>by subst e; rw [h] at c; cases c
     exact ⟨by omega,by omega,c⟩
theorem vX {m n t:Nat} : t∈bitsOf m n↔t<n∧Nat.testBit m t=true:=by
 unfold bitsOf; rw [Bp]; simp
theorem DX {ρ:Ren} {T T' : Tree AV} {a:Act} {asg:Nat} {vs:List Nat} (h:fP ρ nt T' a) (hge:∀ t,nt≤t→aB ρ ((T.get t).getD .top) undef) (hk:∀ t,Nat.testBit asg t=false→T'.get t=T.get t) : fP ρ nt (Aj T (bitsOf asg nt) vs (yU T' vs)) a:=by
 refine ⟨h.size,fun t=>?_,h.defers⟩
 unfold Aj
 rcases Gw vs (BL T (bitsOf asg nt)) (yU T' vs) 0 t with ⟨_,h2⟩ | ⟨j,h1,h2⟩
 ·rw [h2,CO]
  split
  ·exact .top _
  ·rename_i hm
   by_cases hb:Nat.testBit asg t=true
   ·have hge' : nt≤t:=by
     rcases Nat.lt_or_ge t nt with hlt | hge
     ·exact absurd (vX.2 ⟨hlt,hb⟩) hm
     ·exact hge
    have hv:a.tmps.getD t undef=undef:=by
     rw [Array.getD_eq_getD_getElem?,Array.getElem?_eq_none (by rw [h.size]; exact hge')]; rfl
    rw [hv]; exact hge t hge'
   ·rw [← hk t (by simpa using hb)]
    exact h.val t
 ·rw [h2,Nat.zero_add,NG,h1]
  exact h.val t
theorem IZ {T:Tree AV} {asg:Nat} {vs:List Nat} {xs:List AV} (hvs:∀ t∈vs,Nat.testBit asg t=true) (t:Nat) (h:Nat.testBit asg t=false) : (Aj T (bitsOf asg nt) vs xs).get t=T.get t:=by
 unfold Aj
 rcases Gw vs (BL T (bitsOf asg nt)) xs 0 t with ⟨_,h2⟩ | ⟨j,h1,h2⟩
 ·rw [h2,CO,if_neg]
  intro hm
  rw [(vX.1 hm).2] at h; cases h
 ·have:=hvs t (List.mem_of_getElem? h1)
  rw [h] at this; cases this
theorem fP.ge {ρ:Ren} {T:Tree AV} {a:Act} (h:fP ρ nt T a) : ∀ t,nt≤t→aB ρ ((T.get t).getD .top) undef:=by
 intro t ht
 have:=h.val t
 rw [Array.getD_eq_getD_getElem?,Array.getElem?_eq_none (by rw [h.size]; exact ht)] at this
 exact this
theorem FH {c:Code} {Q:Exit→Act→World→Prop} : ∀ {n m:Nat} {a:Act} {w:World},n≤m→Code.rounds P c Q n a w→Code.rounds P c Q m a w
 | 0,_,_,_,_,h=>h.elim
 | n + 1,m + 1,a,w,hle,h=>by
   rw [rounds_succ] at h ⊢
   refine wp_mono h fun e a' w' hp=>?_
   cases e with
   | normal=>exact FH (Nat.le_of_succ_le_succ hle) hp
   | exit id=>exact hp
   | ret=>exact hp
   | goto l=>exact hp
   | panic c=>exact hp
   | outgrown=>exact hp
theorem AR {t:Nat} : ∀ (l:List Oper),Nat.testBit (I7 l) t=false→∀ o∈l,o.dst≠some t
 | [],_,o,ho=>by cases ho
 | x :: l,h,o,ho=>by
   simp only [I7,Nat.testBit_or,Bool.or_eq_false_iff] at h
   rcases List.mem_cons.1 ho with rfl | ho
   ·intro e
    rw [e] at h
    simp [MR,Nat.testBit_two_pow] at h
   ·exact AR l h.2 o ho
theorem Us {ρ:Ren} {x:AV} {u:Value} {p q:Prop} (h:aA x p q) (hx:aB ρ x u) : ∃ b,u=.bool b∧(b=true→p)∧(b=false→q):=by
 unfold aA at h
 split at h <;> first | (cases h; done) | skip
 rename_i b
 exact ⟨b,(bg hx).1,h.1,h.2⟩
theorem V7 (hP:FJ P) : ∀ (f:Nat) (c:Code) (env:List (Nat × Nat)) (L:Nat) (T:Tree AV) (M:RM) (K:K3),wpC P nt ret f c env L T M K →
  ∀ (M0:RM) (ρ0:Ren) (w0:World) (ρ:Ren) (a:Act) (w:World),After P M0 ρ0 w0 M ρ w→fP ρ nt T a→c.wp P (Tw P nt M0 ρ0 w0 T (iD f c) K) a w:=by
 intro f
 induction f with
 | zero=>intro c env L T M K h; exact h.elim
 | succ f ih =>
   intro c env L T M K h M0 ρ0 w0 ρ a w hM hA
   cases c with
   | skip=>exact wp_skip ⟨.normal,T,M,ρ,rfl,hM,hA,fun _ _=>rfl,h⟩
   | region id ops d =>
     cases d with
     | false =>
       refine wp_region ?_
       have:=Ac (nt:=nt) hP (ops:=ops) (Q:=Tw P nt M0 ρ0 w0 T (iD (f + 1) (.region id ops false)) K) (K:=fun T' M'=>K .normal T' M') (M0:=M0) (ρ0:=ρ0) (w0:=w0) (T0:=T)
        (fun T' M' ρ' a' w' k1 k2 k3 k4=>⟨.normal,T',M',ρ',rfl,k1,k2,fun t ht=>k4 t (AR _ ht),k3⟩) ops.toList 0 (by simp) hA hM (fun _ _=>rfl) h
       rw [Array.length_toList,← List.range_eq_range'] at this
       exact this
     | true =>
       exact QF (nt:=nt) (T:=T) hP hM hA (fun T' M' ρ' a' w' k1 k2 k3 k4=>⟨.normal,T',M',ρ',rfl,k1,k2,fun t ht=>k4 t (AR _ ht),k3⟩) h
   | seq c1 c2 =>
     simp only [wpC] at h
     refine wp_seq ?_
     split at h
     ·refine wp_mono (ih c1 _ _ _ _ _ h M0 ρ0 w0 ρ a w hM hA) fun e a' w' hp=>?_
      obtain ⟨x,T1,M1,ρ1,rfl,k1,k2,k3,k4⟩:=hp
      cases x with
      | normal =>
        refine wp_mono (ih c2 _ _ _ _ _ k4 M0 ρ0 w0 ρ1 a' w' k1 k2) fun e a2 w2 hp=>?_
        obtain ⟨x,T2,M2,ρ2,he,q1,q2,q3,q4⟩:=hp
        exact ⟨x,T2,M2,ρ2,he,q1,q2,fun t ht=>by
         simp only [iD,Nat.testBit_or,Bool.or_eq_false_iff] at ht
         rw [q3 t ht.2,k3 t ht.1],q4⟩
      | exit i=>exact ⟨.exit i,T1,M1,ρ1,rfl,k1,k2,fun t ht=>by
        simp only [iD,Nat.testBit_or,Bool.or_eq_false_iff] at ht
        exact k3 t ht.1,k4⟩
      | ret=>exact ⟨.ret,T1,M1,ρ1,rfl,k1,k2,fun t ht=>by
        simp only [iD,Nat.testBit_or,Bool.or_eq_false_iff] at ht
        exact k3 t ht.1,k4⟩
     ·unfold dE at h
      refine wp_mono (ih c1 _ _ _ _ _ h M0 ρ0 w0 ρ a w hM hA) fun e a' w' hp=>?_
      obtain ⟨x,T1,M1,ρ1,rfl,k1,k2,k3,k4⟩:=hp
      have hge:∀ t,nt≤t→aB ρ1 ((T.get t).getD .top) undef:=fun t ht=>by
       have h1:=k2.ge t ht
       by_cases hb:Nat.testBit (iD f c1) t=false
       ·rw [k3 t hb] at h1; exact h1
       ·have h0:=hA.ge t ht
        have hu:∀ (ρ ρ' : Ren) (x:AV),aB ρ x undef→aB ρ' x undef:=by
         intro ρ ρ' x hx
         unfold undef at hx ⊢
         cases hx with
         | top=>exact .top _
         | sc v p=>exact .sc _ p
         | tup xs vs a=>cases a; exact .tup _ _ .nil
        exact hu _ _ _ h0
      cases x with
      | normal =>
        refine wp_mono (ih c2 _ _ _ _ _ k4 M0 ρ0 w0 ρ1 a' w' k1 (DX k2 hge k3)) fun e a2 w2 hp=>?_
        obtain ⟨x,T2,M2,ρ2,he,q1,q2,q3,q4⟩:=hp
        refine ⟨x,T2,M2,ρ2,he,q1,q2,fun t ht=>?_,q4⟩
        simp only [iD,Nat.testBit_or,Bool.or_eq_false_iff] at ht
        rw [q3 t ht.2]
        refine IZ (fun t' ht'=>?_) t ht.1
        have:=(vX.1 ht').2
        rw [Nat.testBit_and,Bool.and_eq_true] at this
        exact this.1
      | exit i=>exact ⟨.exit i,T1,M1,ρ1,rfl,k1,k2,fun t ht=>by
        simp only [iD,Nat.testBit_or,Bool.or_eq_false_iff] at ht
        exact k3 t ht.1,k4⟩
      | ret=>exact ⟨.ret,T1,M1,ρ1,rfl,k1,k2,fun t ht=>by
        simp only [iD,Nat.testBit_or,Bool.or_eq_false_iff] at ht
        exact k3 t ht.1,k4⟩
   | cond cnd c1 c2 =>
     simp only [wpC] at h
     obtain ⟨b,hb,h1,h2⟩:=Us h (xX hA cnd)
     cases b with
     | true =>
       refine wp_cond_true hb (wp_mono (ih c1 _ _ _ _ _ (h1 rfl) M0 ρ0 w0 ρ a w hM hA) fun e a' w' hp=>?_)
       obtain ⟨x,T1,M1,ρ1,he,k1,k2,k3,k4⟩:=hp
       exact ⟨x,T1,M1,ρ1,he,k1,k2,fun t ht=>by
         simp only [iD,Nat.testBit_or,Bool.or_eq_false_iff] at ht
         exact k3 t ht.1,k4⟩
     | false =>
       refine wp_cond_false hb (wp_mono (ih c2 _ _ _ _ _ (h2 rfl) M0 ρ0 w0 ρ a w hM hA) fun e a' w' hp=>?_)
       obtain ⟨x,T1,M1,ρ1,he,k1,k2,k3,k4⟩:=hp
       exact ⟨x,T1,M1,ρ1,he,k1,k2,fun t ht=>by
         simp only [iD,Nat.testBit_or,Bool.or_eq_false_iff] at ht
         exact k3 t ht.2,k4⟩
   | block id c1 =>
     simp only [wpC] at h
     refine wp_block (wp_mono (ih c1 _ _ _ _ _ h M0 ρ0 w0 ρ a w hM hA) fun e a' w' hp=>?_)
     obtain ⟨x,T1,M1,ρ1,rfl,k1,k2,k3,k4⟩:=hp
     cases x with
     | normal=>exact ⟨.normal,T1,M1,ρ1,rfl,k1,k2,k3,k4⟩
     | ret=>exact ⟨.ret,T1,M1,ρ1,rfl,k1,k2,k3,k4⟩
     | exit i =>
       simp only at k4
       split at k4
       ·rename_i he
        have he:=bJ he
        subst he
        simp only [Kw,Exit.inBlock,if_true]
        exact ⟨.normal,T1,M1,ρ1,rfl,k1,k2,k3,k4⟩
       ·rename_i he
        have he:=yg he
        simp only [Kw,Exit.inBlock,if_neg he]
        exact ⟨.exit i,T1,M1,ρ1,rfl,k1,k2,k3,k4⟩
   | loop c1 =>
     simp only [wpC] at h
     obtain ⟨I,n,hI,hbody⟩:=h
     have hvs:∀ t∈bitsOf (iD f c1 &&& iN ret f env c1 (iN ret f env c1 0)) nt,Nat.testBit (iD f c1) t=true:=fun t' ht'=>by
      have:=(vX.1 ht').2
      rw [Nat.testBit_and,Bool.and_eq_true] at this
      exact this.1
     generalize hv:bitsOf (iD f c1 &&& iN ret f env c1 (iN ret f env c1 0)) nt=vs at hI hbody hvs
     have hu:∀ (ρ ρ' : Ren) (x:AV),aB ρ x undef→aB ρ' x undef:=by
      intro ρ ρ' x hx
      unfold undef at hx ⊢
      cases hx with
      | top=>exact .top _
      | sc v p=>exact .sc _ p
      | tup xs vs a=>cases a; exact .tup _ _ .nil
     have hge:∀ (ρ1:Ren) t,nt≤t→aB ρ1 ((T.get t).getD .top) undef:=fun ρ1 t ht=>hu _ _ _ (hA.ge t ht)
     have key:∀ (m:Nat) (ys:List AV) (M1:RM) (ρ1:Ren) (a1:Act) (w1:World),I m ys M1→After P M0 ρ0 w0 M1 ρ1 w1→fP ρ1 nt (Aj T (bitsOf (iD f c1) nt) vs ys) a1 →
       Code.rounds P c1 (Tw P nt M0 ρ0 w0 T (iD (f + 1) (.loop c1)) K) (m + 1) a1 w1:=by
      intro m
      induction m using Nat.strongRecOn with
      | _ m ihm =>
        intro ys M1 ρ1 a1 w1 hIm hM1 hA1
        rw [rounds_succ]
        refine wp_mono (ih c1 _ _ _ _ _ (hbody m ys M1 hIm) M0 ρ0 w0 ρ1 a1 w1 hM1 hA1) fun e a' w' hp=>?_
        obtain ⟨x,T2,M2,ρ2,rfl,k1,k2,k3,k4⟩:=hp
        have k3' : ∀ t,Nat.testBit (iD f c1) t=false→T2.get t=T.get t:=fun t ht=>by rw [k3 t ht]; exact IZ hvs t ht
        cases x with
        | normal =>
          obtain ⟨m',hlt,hI'⟩:=k4
          exact FH (by omega) (ihm m' hlt _ M2 ρ2 a' w' hI' k1 (DX k2 (hge ρ2) k3'))
        | exit i=>exact ⟨.exit i,T2,M2,ρ2,rfl,k1,k2,k3',k4⟩
        | ret=>exact ⟨.ret,T2,M2,ρ2,rfl,k1,k2,k3',k4⟩
     exact wp_loop_rounds _ (key n _ M ρ a w hI hM (DX hA (hge ρ) fun _ _=>rfl))
   | exit id=>exact wp_exit ⟨.exit id,T,M,ρ,rfl,hM,hA,fun _ _=>rfl,h⟩
   | ret=>exact wp_ret ⟨.ret,T,M,ρ,rfl,hM,hA,fun _ _=>rfl,h⟩
   | rangeFunc=>simp [wpC] at h
   | scope c1 =>
     simp only [wpC] at h
     refine wp_scope_straight (wp_mono (ih c1 _ _ _ _ _ h M0 ρ0 w0 ρ a w hM hA) fun e a' w' hp=>?_)
     obtain ⟨x,T1,M1,ρ1,rfl,k1,k2,k3,k4⟩:=hp
     cases x with
     | normal=>exact ⟨.normal,T1,M1,ρ1,rfl,k1,k2,k3,k4⟩
     | exit i=>exact ⟨.exit i,T1,M1,ρ1,rfl,k1,k2,k3,k4⟩
     | ret=>exact ⟨.ret,T1,M1,ρ1,rfl,k1,k2,k3,k4⟩
   | label l=>exact wp_label ⟨.normal,T,M,ρ,rfl,hM,hA,fun _ _=>rfl,h⟩
   | goto=>simp [wpC] at h
   | refuse=>simp [wpC] at h
theorem RQ {ρ:Ren} {T:Tree AV} {M:RM} {a:Act} {w:World} (hA:fP ρ nt T a) (hw:dW P ρ M w) {r:ResultVar} {K:AV→Prop} (h:WX P T M r K) :
  ∃ v v',(rD a.tmps r).run P w=.ok v' w∧aB ρ v v'∧K v:=by
 cases r with
 | tmp t=>exact ⟨_,_,rfl,hA.val t,h⟩
 | cell x t =>
   simp only [WX] at h
   have hv:=hA.val x
   split at h <;> first | (cases h; done) | skip
   ·rename_i ha
    obtain ⟨b,p,v,hx,hl,hk⟩:=h
    rw [hx] at hv
    obtain ⟨i,hb,hc⟩:=eH hv
    obtain ⟨u,hu,hcell⟩:=K8 hw hb hl
    refine ⟨v,u, ?_,hu,hk⟩
    simp only [rD,hc,asAddr,Sem.run_bind,Sem.run_pure,Result.andThen_ok,loadVar,iq ha,Bool.false_eq_true,if_false,load,Sem.run,hcell]
   ·rename_i ha
    split at h <;> first | (cases h; done) | skip
    rename_i n hs
    obtain ⟨b,p,xs,hx,hl,hk⟩:=h
    rw [hx] at hv
    obtain ⟨i,hb,hc⟩:=eH hv
    obtain ⟨vs,hr,hlen,_,hrun⟩:=RM.lq (P:=P) hw hb hl
    exact ⟨.agg xs,.agg ⟨vs⟩,by simp only [rD,hc,asAddr,Sem.run_bind,Sem.run_pure,Result.andThen_ok,loadVar,iq ha,if_true,dN hs,hrun],.agg _ _ hr,hk⟩
theorem BO {ρ:Ren} {T:Tree AV} {M:RM} {a:Act} {w:World} (hA:fP ρ nt T a) (hw:dW P ρ M w) : ∀ (rs:List ResultVar) (K:List AV→Prop),WH P T M rs K →
  ∃ vs us,(rs.mapM (rD a.tmps)).run P w=.ok us w∧bz ρ vs us∧K vs
 | [],K,h=>⟨[],[],by simp,.nil,h⟩
 | r :: rs,K,h=>by
   obtain ⟨v,v',h1,h2,h3⟩:=RQ hA hw h
   obtain ⟨vs,us,h4,h5,h6⟩:=BO hA hw rs _ h3
   refine ⟨v :: vs,v' :: us, ?_,.cons _ _ _ _ h2 h5,h6⟩
   simp only [List.mapM_cons,Sem.run_bind,h1,Result.andThen_ok,h4,Sem.run_pure]
theorem KI (hP:FJ P) {f:FuncId} {fn:Func} {c:Code} {args:List AV} {M:RM} {Q:ai} (hfn:P.funcs[f]?=some fn) (hbody:fn.body=some c) (h:U1 P fn c args M Q) : ig P f args M Q:=by
 refine ⟨⟨fn,c,hfn,hbody⟩,fun ρ w us hargs hw=>?_⟩
 have hlen:=hargs.length
 have hA:fP ρ (args.length + (fn.ntmps - args.length)) (Tree.ofList args 0 .leaf) { tmps:=⟨us⟩++Array.replicate (fn.ntmps - (⟨us⟩ : Array Value).size) undef,defers:=[] } := by
  refine ⟨by simp [hlen],fun t=>?_,rfl⟩
  rw [Tree.j6]
  by_cases ht:t<args.length
  ·rw [if_pos (by omega),Nat.sub_zero]
   obtain ⟨u,hu,hv⟩:=hargs.get (n:=t) (x:=args[t]) (by simp [ht])
   rw [List.getElem?_eq_getElem ht]
   simp only [Option.getD_some]
   have:((⟨us⟩ : Array Value)++Array.replicate (fn.ntmps - (⟨us⟩ : Array Value).size) undef).getD t undef=u:=by
    rw [Array.getD_eq_getD_getElem?,Array.getElem?_append_left (by simp; omega)]
    simp [hu]
   rw [this]; exact hv
  ·rw [if_neg (by omega)]
   exact .top _
 refine calls_of_wp hfn hbody (wp_mono (V7 hP 1000 c [] 0 _ M _ h M ρ w ρ _ w (After.refl hw) hA) fun e a w' hp=>?_)
 obtain ⟨x,T',M',ρ',rfl,k1,k2,k3,k4⟩:=hp
 have key:(∃ vs us,(fn.results.toList.mapM (rD a.tmps)).run P w'=.ok us w'∧bz ρ' vs us∧aab Q M' vs) →
   a.defers=[]∧∃ v,(results fn a.tmps).run P w'=.ok v w'∧∃ v' v_1 M'_1 ρ'_1,Ending.returned v=.returned v'∧After P M ρ w M'_1 ρ'_1 w'∧aB ρ'_1 v_1 v'∧Q v_1 M'_1:=by
  rintro ⟨vs,us,h1,h2,h3⟩
  have hres:(results fn a.tmps).run P w'=.ok (if h:(⟨us⟩ : Array Value).size=1 then (⟨us⟩ : Array Value)[0] else .tuple ⟨us⟩) w':=by
   have e:results fn a.tmps=(fn.results.mapM (rD a.tmps) >>= fun vs=>pure (if h:vs.size=1 then vs[0] else .tuple vs)):=rfl
   rw [e,Array.mapM_eq_mapM_toList]
   simp only [Sem.run_bind,Sem.run_map,h1,Result.andThen_ok,Sem.run_pure]
  refine ⟨k2.defers,_,hres, ?_⟩
  cases h2 with
  | nil=>exact ⟨_,_,M',ρ',rfl,k1,.tup _ _ .nil,h3⟩
  | cons x v xs vs2 hv htl =>
    cases htl with
    | nil=>exact ⟨_,x,M',ρ',rfl,k1,hv,h3⟩
    | cons y u ys us2 hu htl2=>exact ⟨_,_,M',ρ',rfl,k1,.tup _ _ (.cons _ _ _ _ hv (.cons _ _ _ _ hu htl2)),h3⟩
 cases x with
 | normal=>exact key (BO k2 k1.rel _ _ k4)
 | ret=>exact key (BO k2 k1.rel _ _ k4)
 | exit id=>exact k4.elim
abbrev av:=List AV→RM→ai→Prop
def K5 (P:Program) (fn:Func) (args:List AV) (M:RM) (Q:ai) : Prop :=
 match fn.body with
 | some c=>U1 P fn c args M Q
 | none=>False
theorem UZ (hP:FJ P) {f:FuncId} {fn:Func} {args:List AV} {M:RM} {Q:ai} (hfn:P.funcs[f]?=some fn) (h:K5 P fn args M Q) : ig P f args M Q:=by
 unfold K5 at h
 split at h
 ·rename_i c hc; exact KI hP hfn hc h
 ·cases h
end
end Go.Ab
set_option maxRecDepth 100000
set_option linter.unusedVariables false
set_option linter.unusedSimpArgs false
namespace Go.Ab.Crw
open Go Go.Ab
def yS (p1 p2:av) (p3 p4:Nat) (p5 p6 p7 p8 p9 p10:av) (a0 a1:AV) (M0:RM) (Q:ai) : Prop :=
 p1 [] M0 fun t17 M =>
 dU t17 fun t18 =>
 aA t18 (
 Q (Bo false) M) (
 bu a0 fun t20 =>
 af .gtr t20 (N .i64 50) fun t21 =>
 aA t21 (
 Q (Bo true) M) (
 p2 [a0] M fun t23 M_0 =>
 bY (.row [(.sc (.slice none 0 0)),(.sc (.slice none 0 0)),(.sc (.slice none 0 0))] false p3 0) (fun b=>.ptr b 0) M_0 fun t6 M_1 =>
 aU (fun next xs M_2 =>
 bu t23 fun t26 =>
 af .lss (aa xs 0) t26 fun t27 =>
 aA t27 (
 dE (fun J =>
 dE (fun J_3 =>
 bu a1 fun t32 =>
 af .lss (aa xs 0) t32 fun t33 =>
 aA t33 (
 ax a1 (aa xs 0) 1 fun t36 =>
 aj M_2 t36 fun t37 =>
 J_3 [t37] M_2) (
 J_3 [(N .i64 0)] M_2)) (fun xs_4 M_5 =>
 aU (fun next_6 xs_7 M_8 =>
 af .lss (aa xs_7 0) (N .i64 3) fun t39 =>
 aA t39 (
 dE (fun J_9 =>
 gp .u64 (aa xs_7 0) fun t44 =>
 vE .shr (aa xs_4 0) t44 fun t45 =>
 af .and t45 (N .i64 1) fun t46 =>
 af .eql t46 (N .i64 1) fun t47 =>
 aA t47 (
 mJ t6 (aa xs_7 0) 3 1 fun t50 =>
 aj M_8 t50 fun t51 =>
 ax t23 (aa xs 0) 7 fun t54 =>
 aH M_8 t54 7 fun t55 =>
 df p4 1 [(N .i64 0),(N .u64 0),(N .i64 0),(St []),(St []),(St []),(.sc (.slice none 0 0))] [(0,7,t55)] fun r f =>
 jZ r f M_8 fun t56 M_10 b =>
 appW p4 7 96 [(N .i64 0),(N .u64 0),(N .i64 0),(St []),(St []),(St []),(.sc (.slice none 0 0))] false t51 t56 M_10 fun t57 M_11 =>
 mJ t6 (aa xs_7 0) 3 1 fun t58 =>
 aN M_11 t58 t57 1 fun M_12 =>
 J_9 [] M_12) (
 J_9 [] M_8)) (fun xs_13 M_14 =>
 af .add (aa xs_7 0) (N .i64 1) fun t41 =>
 next_6 [t41] M_14)) (
 J [] M_8)) [(N .i64 0)] M_5)) (fun xs_15 M_16 =>
 af .add (aa xs 0) (N .i64 1) fun t29 =>
 next [t29] M_16)) (
 mJ t6 (N .i64 0) 3 1 fun t59 =>
 aj M_2 t59 fun t60 =>
 p5 [t60,(N .i64 0),(Bo false)] M_2 fun t61 M_17 =>
 mJ t6 (N .i64 1) 3 1 fun t62 =>
 aj M_17 t62 fun t63 =>
 p5 [t63,(N .i64 1),(Bo true)] M_17 fun t64 M_18 =>
 mJ t6 (N .i64 2) 3 1 fun t65 =>
 aj M_18 t65 fun t66 =>
 p5 [t66,(N .i64 2),(Bo false)] M_18 fun t67 M_19 =>
 p6 [t61] M_19 fun t69 M_20 =>
 p7 [t69,t64] M_20 fun t72 M_21 =>
 p7 [t69,t67] M_21 fun t75 M_22 =>
 p6 [t67] M_22 fun t77 M_23 =>
 p6 [t64] M_23 fun t79 M_24 =>
 p7 [t79,t61] M_24 fun t82 M_25 =>
 p7 [t77,t79] M_25 fun t85 M_26 =>
 p7 [t77,t79] M_26 fun t88 M_27 =>
 p7 [t77,t77] M_27 fun t91 M_28 =>
 df p4 0 [(N .i64 0),(N .u64 0),(N .i64 0),(St []),(St []),(St []),(.sc (.slice none 0 0))] [] fun r_29 f_30 =>
 jZ r_29 f_30 M_28 fun t92 M_31 b_32 =>
 mJ t6 (N .i64 0) 3 1 fun t93 =>
 aj M_31 t93 fun t94 =>
 mJ t6 (N .i64 1) 3 1 fun t96 =>
 aj M_31 t96 fun t97 =>
 mJ t6 (N .i64 2) 3 1 fun t99 =>
 aj M_31 t99 fun t100 =>
 appW p4 7 96 [(N .i64 0),(N .u64 0),(N .i64 0),(St []),(St []),(St []),(.sc (.slice none 0 0))] false t92 t94 M_31 fun t95 M_33 =>
 aj M_33 t96 fun t97_146 =>
 (t97_146=t97∧aj M_33 t99 fun t100_145 =>
 (t100_145=t100∧appW p4 7 96 [(N .i64 0),(N .u64 0),(N .i64 0),(St []),(St []),(St []),(.sc (.slice none 0 0))] false t95 t97 M_33 fun t98 M_34 =>
 aj M_34 t99 fun t100_144 =>
 (t100_144=t100∧appW p4 7 96 [(N .i64 0),(N .u64 0),(N .i64 0),(St []),(St []),(St []),(.sc (.slice none 0 0))] false t98 t100 M_34 fun t101 M_35 =>
 p2 [t101] M_35 fun t102 M_36 =>
 p8 [t69,t102] M_36 fun t105 M_37 =>
 ae t105 true (fun k=>k t77 M_37 none) (fun k=>k .undef M_37 none) fun t107 M_38 b_39 =>
 ae t105 true (fun k_40=>k_40 t102 M_38 none) (fun k=>k .undef M_38 none) fun t108 M_41 b_42 =>
 au t105 true (fun k_43=>p8 [t107,t108] M_41 fun t109 M_44 =>
 k_43 t109 M_44) (fun k=>k .undef M_41) fun t109_45 M_46 =>
 aP t105 t109_45 (Bo false) fun t110 =>
 ae t110 true (fun k_47=>k_47 t69 M_46 none) (fun k=>k .undef M_46 none) fun t112 M_48 b_49 =>
 ae t110 true (fun k_50=>k_50 t77 M_48 none) (fun k=>k .undef M_48 none) fun t113 M_51 b_52 =>
 au t110 true (fun k_53=>p9 [t112,t113] M_51 fun t114 M_54 =>
 k_53 t114 M_54) (fun k=>k .undef M_51) fun t114_55 M_56 =>
 aP t110 t114_55 (Bo false) fun t115 =>
 ae t115 true (fun k_57=>k_57 t61 M_56 none) (fun k=>k .undef M_56 none) fun t117 M_58 b_59 =>
 ae t115 true (fun k_60=>mJ t6 (N .i64 0) 3 1 fun t118 =>
 k_60 t118 M_58 none) (fun k=>k .undef M_58 none) fun t118_61 M_62 b_63 =>
 ae t115 true (fun k_64=>aj M_62 t118_61 fun t119 =>
 k_64 t119 M_62 none) (fun k=>k .undef M_62 none) fun t119_65 M_66 b_67 =>
 au t115 true (fun k_68=>p8 [t117,t119_65] M_66 fun t120 M_69 =>
 k_68 t120 M_69) (fun k=>k .undef M_66) fun t120_70 M_71 =>
 aP t115 t120_70 (Bo false) fun t121 =>
 ae t121 true (fun k_72=>k_72 t64 M_71 none) (fun k=>k .undef M_71 none) fun t123 M_73 b_74 =>
 ae t121 true (fun k_75=>mJ t6 (N .i64 1) 3 1 fun t124 =>
 k_75 t124 M_73 none) (fun k=>k .undef M_73 none) fun t124_76 M_77 b_78 =>
 ae t121 true (fun k_79=>aj M_77 t124_76 fun t125 =>
 k_79 t125 M_77 none) (fun k=>k .undef M_77 none) fun t125_80 M_81 b_82 =>
 au t121 true (fun k_83=>p8 [t123,t125_80] M_81 fun t126 M_84 =>
 k_83 t126 M_84) (fun k=>k .undef M_81) fun t126_85 M_86 =>
 aP t121 t126_85 (Bo false) fun t127 =>
 ae t127 true (fun k_87=>k_87 t67 M_86 none) (fun k=>k .undef M_86 none) fun t129 M_88 b_89 =>
 ae t127 true (fun k_90=>mJ t6 (N .i64 2) 3 1 fun t130 =>
 k_90 t130 M_88 none) (fun k=>k .undef M_88 none) fun t130_91 M_92 b_93 =>
 ae t127 true (fun k_94=>aj M_92 t130_91 fun t131 =>
 k_94 t131 M_92 none) (fun k=>k .undef M_92 none) fun t131_95 M_96 b_97 =>
 au t127 true (fun k_98=>p8 [t129,t131_95] M_96 fun t132 M_99 =>
 k_98 t132 M_99) (fun k=>k .undef M_96) fun t132_100 M_101 =>
 aP t127 t132_100 (Bo false) fun t133 =>
 ae t133 true (fun k_102=>k_102 t69 M_101 none) (fun k=>k .undef M_101 none) fun t135 M_103 b_104 =>
 ae t133 true (fun k_105=>k_105 t61 M_103 none) (fun k=>k .undef M_103 none) fun t136 M_106 b_107 =>
 ae t133 true (fun k_108=>k_108 t69 M_106 none) (fun k=>k .undef M_106 none) fun t138 M_109 b_110 =>
 ae t133 true (fun k_111=>k_111 t61 M_109 none) (fun k=>k .undef M_109 none) fun t141 M_112 b_113 =>
 au t133 true (fun k_114=>p9 [t135,t136] M_112 fun t137 M_115 =>
 k_114 t137 M_115) (fun k=>k .undef M_112) fun t137_116 M_117 =>
 au t133 true (fun k_118=>p10 [t138] M_117 fun t139 M_119 =>
 k_118 t139 M_119) (fun k=>k .undef M_117) fun t139_120 M_121 =>
 ae t133 true (fun k_122=>iJ M_121 t139_120 fun t140 =>
 k_122 t140 M_121 none) (fun k=>k .undef M_121 none) fun t140_123 M_124 b_125 =>
 au t133 true (fun k_126=>p10 [t141] M_124 fun t142 M_127 =>
 k_126 t142 M_127) (fun k=>k .undef M_124) fun t142_128 M_129 =>
 rX t133 true (fun k_130=>iJ M_129 t139_120 fun t140_131 =>
 (t140_131=t140_123∧k_130)) (fun k=>k) (ae t133 true (fun k_132=>iJ M_129 t142_128 fun t143 =>
 k_132 t143 M_129 none) (fun k=>k .undef M_129 none) fun t143_133 M_134 b_135 =>
 ae t133 true (fun k_136=>gQ .eql t140_123 t143_133 fun t144 =>
 k_136 t144 M_134 none) (fun k=>k .undef M_134 none) fun t144_137 M_138 b_139 =>
 ae t133 true (fun k_140=>zM false t137_116 t144_137 fun t145 =>
 k_140 t145 M_138 none) (fun k=>k .undef M_138 none) fun t145_141 M_142 b_143 =>
 aP t133 t145_141 (Bo false) fun t146 =>
 Q t146 M_142)))))) [(N .i64 0)] M_1))
def SV (p1:av) (p2:Nat) (M0:RM) (Q:ai) : Prop :=
 p1 [] M0 fun t1 M =>
 mG [(.sc (.pointer none)),(.sc (.slice none 0 0))] [(0,1,t1)] fun t2 =>
 gJ p2 t2 fun r f =>
 bY r f M fun t3 M_0 =>
 Q t3 M_0
def vw (p1:Nat) (p2 p3:av) (p4:Nat) (p5 p6:av) (p7:Nat) (p8 p9:av) (p10 p11:Nat) (p12 p13 p14:av) (a0 a1:AV) (M0:RM) (Q:ai) : Prop :=
 gJ p1 a1 fun r f =>
 bY r f M0 fun t3 M =>
 aH M t3 7 fun t12 =>
 p2 [t12] M fun bf M_0 =>
 dU bf fun t14 =>
 aA t14 (
 Q (.tup [(Bo false),(N .i64 1)]) M_0) (
 bG a0 fun t16 =>
 aD t16 0 fun t17 =>
 aj M_0 t17 fun t18 =>
 p3 [t18] M_0 fun t19 M_1 =>
 aD t3 0 fun t20 =>
 aH M_1 t20 2 fun t21 =>
 df p4 1 [(N .i64 0),(N .u64 0)] [(0,2,t21)] fun r_2 f_3 =>
 bY r_2 f_3 M_1 fun t22 M_4 =>
 aD t3 6 fun t23 =>
 aj M_4 t23 fun t24 =>
 appW p4 2 16 [(N .i64 0),(N .u64 0)] false t22 t24 M_4 fun t25 M_5 =>
 bu t25 fun t26 =>
 aU (fun next xs M_6 =>
 af .lss (aa xs 0) t26 fun t28 =>
 aA t28 (
 ax t25 (aa xs 0) 2 fun t29 =>
 aH M_6 t29 2 fun t30 =>
 bY (.row [(N .i64 0),(N .u64 0)] false p4 0) (fun b=>.ptr b 0) M_6 fun t8 M_7 =>
 aN M_7 t8 t30 2 fun M_8 =>
 aH M_8 t8 2 fun t32 =>
 p5 [t19,t32] M_8 fun t33 M_9 =>
 af .neq t33 (N .i64 0) fun t35 =>
 aA t35 (
 Q (.tup [(Bo false),t33]) M_9) (
 af .add (aa xs 0) (N .i64 1) fun t37 =>
 next [t37] M_9)) (
 bG a0 fun t39 =>
 aD t39 1 fun t40 =>
 aj M_6 t40 fun t41 =>
 dE (fun J =>
 aD t3 2 fun t42 =>
 aj M_6 t42 fun t43 =>
 af .eql t43 (N .i64 1) fun t44 =>
 ae t44 true (fun k=>k a0 M_6 none) (fun k=>k .undef M_6 none) fun t46 M_10 b =>
 ae t44 true (fun k_11=>bG t46 fun t47 =>
 k_11 t47 M_10 none) (fun k=>k .undef M_10 none) fun t47_12 M_13 b_14 =>
 ae t44 true (fun k_15=>aD t47_12 0 fun t48 =>
 k_15 t48 M_13 none) (fun k=>k .undef M_13 none) fun t48_16 M_17 b_18 =>
 ae t44 true (fun k_19=>aj M_17 t48_16 fun t49 =>
 k_19 t49 M_17 none) (fun k=>k .undef M_17 none) fun t49_20 M_21 b_22 =>
 ae t44 true (fun k_23=>aD t3 0 fun t50 =>
 k_23 t50 M_21 none) (fun k=>k .undef M_21 none) fun t50_24 M_25 b_26 =>
 ae t44 true (fun k_27=>aH M_25 t50_24 2 fun t51 =>
 k_27 t51 M_25 none) (fun k=>k .undef M_25 none) fun t51_28 M_29 b_30 =>
 au t44 true (fun k_31=>p6 [t49_20,t51_28] M_29 fun t52 M_32 =>
 k_31 t52 M_32) (fun k=>k .undef M_29) fun t52_33 M_34 =>
 ae t44 true (fun k_35=>dU t52_33 fun t53 =>
 k_35 t53 M_34 none) (fun k=>k .undef M_34 none) fun t53_36 M_37 b_38 =>
 aP t44 t53_36 (Bo false) fun t54 =>
 aA t54 (
 aD t3 0 fun t57 =>
 aH M_37 t57 2 fun t58 =>
 aD t3 3 fun t59 =>
 aj M_37 t59 fun t60 =>
 aD t3 4 fun t61 =>
 aj M_37 t61 fun t62 =>
 aD t3 5 fun t63 =>
 aj M_37 t63 fun t64 =>
 mG [(N .i64 0),(N .u64 0),(St []),(St []),(St [])] [(0,2,t58),(2,1,t60),(3,1,t62),(4,1,t64)] fun t65 =>
 df p7 1 [(N .i64 0),(N .u64 0),(St []),(St []),(St [])] [(0,5,t65)] fun r_39 f_40 =>
 jZ r_39 f_40 M_37 fun t66 M_41 b_42 =>
 p8 [t41] M_41 fun t56 M_43 =>
 aH M_43 t57 2 fun t58_51 =>
 (t58_51=t58∧aj M_43 t59 fun t60_50 =>
 (t60_50=t60∧aj M_43 t61 fun t62_49 =>
 (t62_49=t62∧aj M_43 t63 fun t64_48 =>
 (t64_48=t64∧df p7 1 [(N .i64 0),(N .u64 0),(St []),(St []),(St [])] [(0,5,t65)] fun r_46 f_47 =>
 (uA b_42 M_43 r_46 f_47 t66∧appW p7 5 64 [(N .i64 0),(N .u64 0),(St []),(St []),(St [])] false t56 t66 M_43 fun t67 M_44 =>
 p9 [t67,(.fn (.func p10) [] [])] M_44 fun t69 M_45 =>
 J [t67] M_45)))))) (
 J [t41] M_37)) (fun xs_52 M_53 =>
 p8 [(aa xs_52 0)] M_53 fun t71 M_54 =>
 p12 [t71,(.fn (.func p11) [] [t3])] M_54 fun t73 M_55 =>
 bG a0 fun t76 =>
 aD t76 0 fun t77 =>
 aj M_55 t77 fun t78 =>
 p13 [t19,t78] M_55 fun t79 M_56 =>
 dU t79 fun t80 =>
 au t80 false (fun k_57=>k_57 t73 M_56) (fun k=>k .undef M_56) fun t82 M_58 =>
 au t80 false (fun k_59=>k_59 a0 M_58) (fun k=>k .undef M_58) fun t83 M_60 =>
 au t80 false (fun k_61=>bG t83 fun t84 =>
 k_61 t84 M_60) (fun k=>k .undef M_60) fun t84_62 M_63 =>
 au t80 false (fun k_64=>aD t84_62 1 fun t85 =>
 k_64 t85 M_63) (fun k=>k .undef M_63) fun t85_65 M_66 =>
 au t80 false (fun k_67=>aj M_66 t85_65 fun t86 =>
 k_67 t86 M_66) (fun k=>k .undef M_66) fun t86_68 M_69 =>
 au t80 false (fun k_70=>p14 [t82,t86_68] M_69 fun t87 M_71 =>
 k_70 t87 M_71) (fun k=>k .undef M_69) fun t87_72 M_73 =>
 au t80 false (fun k_74=>dU t87_72 fun t88 =>
 k_74 t88 M_73) (fun k=>k .undef M_73) fun t88_75 M_76 =>
 aP t80 (Bo true) t88_75 fun t89 =>
 bG a0 fun t94 =>
 aD t94 0 fun t95 =>
 aN M_76 t95 t19 1 fun M_77 =>
 bG a0 fun t96 =>
 aD t96 1 fun t97 =>
 aN M_77 t97 t73 1 fun M_78 =>
 Q (.tup [t89,(N .i64 0)]) M_78))) [(N .i64 0)] M_5)
def Pz (p1:Nat) (p2 p3:av) (p4:Nat) (p5:av) (a0:AV) (M0:RM) (Q:ai) : Prop :=
 gJ p1 a0 fun r f =>
 bY r f M0 fun t1 M =>
 aD t1 0 fun t5 =>
 aH M t5 2 fun t6 =>
 p2 [t6] M fun t7 M_0 =>
 dU t7 fun t8 =>
 au t8 false (fun k=>aD t1 3 fun bQ =>
 k bQ M_0) (fun k=>k .undef M_0) fun t10_1 M_2 =>
 au t8 false (fun k_3=>aj M_2 t10_1 fun bT =>
 k_3 bT M_2) (fun k=>k .undef M_2) fun t11_4 M_5 =>
 au t8 false (fun k_6=>aD t1 4 fun t12 =>
 k_6 t12 M_5) (fun k=>k .undef M_5) fun t12_7 M_8 =>
 au t8 false (fun k_9=>aj M_8 t12_7 fun bf =>
 k_9 bf M_8) (fun k=>k .undef M_8) fun t13_10 M_11 =>
 au t8 false (fun k_12=>aD t1 5 fun t14 =>
 k_12 t14 M_11) (fun k=>k .undef M_11) fun t14_13 M_14 =>
 au t8 false (fun k_15=>aj M_14 t14_13 fun t15 =>
 k_15 t15 M_14) (fun k=>k .undef M_14) fun t15_16 M_17 =>
 au t8 false (fun k_18=>p3 [t11_4,t13_10,t15_16] M_17 fun t16 M_19 =>
 k_18 t16 M_19) (fun k=>k .undef M_17) fun t16_20 M_21 =>
 au t8 false (fun k_22=>dU t16_20 fun t17 =>
 k_22 t17 M_21) (fun k=>k .undef M_21) fun t17_23 M_24 =>
 aP t8 (Bo true) t17_23 fun t18 =>
 au t18 false (fun k_25=>aD t1 6 fun t20 =>
 k_25 t20 M_24) (fun k=>k .undef M_24) fun t20_26 M_27 =>
 au t18 false (fun k_28=>aj M_27 t20_26 fun t21 =>
 k_28 t21 M_27) (fun k=>k .undef M_27) fun t21_29 M_30 =>
 au t18 false (fun k_31=>bu t21_29 fun t22 =>
 k_31 t22 M_30) (fun k=>k .undef M_30) fun t22_32 M_33 =>
 au t18 false (fun k_34=>af .gtr t22_32 (N .i64 64) fun t23 =>
 k_34 t23 M_33) (fun k=>k .undef M_33) fun t23_35 M_36 =>
 aP t18 (Bo true) t23_35 fun t24 =>
 aA t24 (
 Q (Bo false) M_36) (
 aD t1 6 fun t25 =>
 aj M_36 t25 fun t26 =>
 bu t26 fun t27 =>
 aU (fun next xs M_37 =>
 af .lss (aa xs 0) t27 fun t29 =>
 aA t29 (
 ax t26 (aa xs 0) 2 fun t31 =>
 aH M_37 t31 2 fun t32 =>
 bY (.row [(N .i64 0),(N .u64 0)] false p4 0) (fun b=>.ptr b 0) M_37 fun t4 M_38 =>
 aN M_38 t4 t32 2 fun M_39 =>
 aH M_39 t4 2 fun t33 =>
 p2 [t33] M_39 fun t34 M_40 =>
 dU t34 fun t35 =>
 ae t35 false (fun k_41=>aH M_40 t4 2 fun t37 =>
 k_41 t37 M_40 none) (fun k=>k .undef M_40 none) fun t37_42 M_43 b =>
 ae t35 false (fun k_44=>aD t1 0 fun t38 =>
 k_44 t38 M_43 none) (fun k=>k .undef M_43 none) fun t38_45 M_46 b_47 =>
 ae t35 false (fun k_48=>aH M_46 t38_45 2 fun t39 =>
 k_48 t39 M_46 none) (fun k=>k .undef M_46 none) fun t39_49 M_50 b_51 =>
 ae t35 false (fun k_52=>kV false [1,1] t37_42 t39_49 fun t40 =>
 k_52 t40 M_50 none) (fun k=>k .undef M_50 none) fun t40_53 M_54 b_55 =>
 aP t35 (Bo true) t40_53 fun t41 =>
 ae t41 false (fun k_56=>k_56 (aa xs 0) M_54 none) (fun k=>k .undef M_54 none) fun t43 M_57 b_58 =>
 ae t41 false (fun k_59=>af .gtr t43 (N .i64 0) fun t44 =>
 k_59 t44 M_57 none) (fun k=>k .undef M_57 none) fun t44_60 M_61 b_62 =>
 ae t41 false (fun k_63=>k_63 t44_60 M_61 none) (fun k=>k .undef M_61 none) fun t45 M_64 b_65 =>
 ae t45 true (fun k_66=>aD t1 6 fun t46 =>
 k_66 t46 M_64 none) (fun k=>k .undef M_64 none) fun t46_67 M_68 b_69 =>
 ae t45 true (fun k_70=>aj M_68 t46_67 fun t47 =>
 k_70 t47 M_68 none) (fun k=>k .undef M_68 none) fun t47_71 M_72 b_73 =>
 ae t45 true (fun k_74=>k_74 (aa xs 0) M_72 none) (fun k=>k .undef M_72 none) fun t48 M_75 b_76 =>
 ae t45 true (fun k_77=>af .sub t48 (N .i64 1) fun t49 =>
 k_77 t49 M_75 none) (fun k=>k .undef M_75 none) fun t49_78 M_79 b_80 =>
 ae t45 true (fun k_81=>ax t47_71 t49_78 2 fun t50 =>
 k_81 t50 M_79 none) (fun k=>k .undef M_79 none) fun t50_82 M_83 b_84 =>
 ae t45 true (fun k_85=>aH M_83 t50_82 2 fun t51 =>
 k_85 t51 M_83 none) (fun k=>k .undef M_83 none) fun t51_86 M_87 b_88 =>
 ae t45 true (fun k_89=>aH M_87 t4 2 fun t52 =>
 k_89 t52 M_87 none) (fun k=>k .undef M_87 none) fun t52_90 M_91 b_92 =>
 au t45 true (fun k_93=>p5 [t51_86,t52_90] M_91 fun t53 M_94 =>
 k_93 t53 M_94) (fun k=>k .undef M_91) fun t53_95 M_96 =>
 ae t45 true (fun k_97=>dU t53_95 fun t54 =>
 k_97 t54 M_96 none) (fun k=>k .undef M_96 none) fun t54_98 M_99 b_100 =>
 ae t41 false (fun k_101=>aP t45 t54_98 (Bo false) fun t55 =>
 k_101 t55 M_99 none) (fun k=>k .undef M_99 none) fun t55_102 M_103 b_104 =>
 aP t41 (Bo true) t55_102 fun t56 =>
 aA t56 (
 Q (Bo false) M_103) (
 af .add (aa xs 0) (N .i64 1) fun t57 =>
 next [t57] M_103)) (
 aD t1 2 fun t58 =>
 aj M_37 t58 fun t59 =>
 af .eql t59 (N .i64 1) fun t60 =>
 au t60 true (fun k_105=>aD t1 4 fun t62 =>
 k_105 t62 M_37) (fun k=>k .undef M_37) fun t62_106 M_107 =>
 au t60 true (fun k_108=>aj M_107 t62_106 fun t63 =>
 k_108 t63 M_107) (fun k=>k .undef M_107) fun t63_109 M_110 =>
 au t60 true (fun k_111=>gQ .neq t63_109 (St []) fun t64 =>
 k_111 t64 M_110) (fun k=>k .undef M_110) fun t64_112 M_113 =>
 aP t60 t64_112 (Bo false) fun t65 =>
 au t65 false (fun k_114=>aD t1 2 fun t67 =>
 k_114 t67 M_113) (fun k=>k .undef M_113) fun t67_115 M_116 =>
 au t65 false (fun k_117=>aj M_116 t67_115 fun t68 =>
 k_117 t68 M_116) (fun k=>k .undef M_116) fun t68_118 M_119 =>
 au t65 false (fun k_120=>af .eql t68_118 (N .i64 2) fun t69 =>
 k_120 t69 M_119) (fun k=>k .undef M_119) fun t69_121 M_122 =>
 au t65 false (fun k_123=>k_123 t69_121 M_122) (fun k=>k .undef M_122) fun t70 M_124 =>
 au t70 true (fun k_125=>aD t1 5 fun t71 =>
 k_125 t71 M_124) (fun k=>k .undef M_124) fun t71_126 M_127 =>
 au t70 true (fun k_128=>aj M_127 t71_126 fun t72 =>
 k_128 t72 M_127) (fun k=>k .undef M_127) fun t72_129 M_130 =>
 au t70 true (fun k_131=>gQ .eql t72_129 (St []) fun t73 =>
 k_131 t73 M_130) (fun k=>k .undef M_130) fun t73_132 M_133 =>
 au t65 false (fun k_134=>aP t70 t73_132 (Bo false) fun t74 =>
 k_134 t74 M_133) (fun k=>k .undef M_133) fun t74_135 M_136 =>
 aP t65 (Bo true) t74_135 fun t75 =>
 Q t75 M_136)) [(N .i64 0)] M_36)
def rV (p1:av) (a0:AV) (M0:RM) (Q:ai) : Prop :=
 bG a0 fun t4 =>
 aD t4 1 fun t5 =>
 aj M0 t5 fun t6 =>
 p1 [t6] M0 fun t7 M =>
 Q t7 M
def RL (p1:Nat) (p2:av) (a0:AV) (M0:RM) (Q:ai) : Prop :=
 ER p1 96 [(N .i64 0),(N .u64 0),(N .i64 0),(St []),(St []),(St []),(.sc (.slice none 0 0))] (N .i64 0) (N .i64 0) fun r f =>
 bY r f M0 fun t7 M =>
 aU (fun next xs M_0 =>
 bu a0 fun bQ =>
 af .lss (aa xs 1) bQ fun bT =>
 aA bT (
 dE (fun J =>
 ax a0 (aa xs 1) 7 fun t16 =>
 aH M_0 t16 7 fun t17 =>
 p2 [t17] M_0 fun t18 M_1 =>
 dU t18 fun t19 =>
 aU (fun next_2 xs_3 M_4 =>
 bu (aa xs 0) fun t22 =>
 af .lss (aa xs_3 1) t22 fun t23 =>
 aA t23 (
 ae (aa xs_3 0) false (fun k=>k (aa xs 0) M_4 none) (fun k=>k .undef M_4 none) fun t28 M_5 b =>
 ae (aa xs_3 0) false (fun k_6=>k_6 (aa xs_3 1) M_5 none) (fun k=>k .undef M_5 none) fun t29 M_7 b_8 =>
 ae (aa xs_3 0) false (fun k_9=>ax t28 t29 7 fun t30 =>
 k_9 t30 M_7 none) (fun k=>k .undef M_7 none) fun t30_10 M_11 b_12 =>
 ae (aa xs_3 0) false (fun k_13=>aD t30_10 0 fun t31 =>
 k_13 t31 M_11 none) (fun k=>k .undef M_11 none) fun t31_14 M_15 b_16 =>
 ae (aa xs_3 0) false (fun k_17=>aH M_15 t31_14 2 fun t32 =>
 k_17 t32 M_15 none) (fun k=>k .undef M_15 none) fun t32_18 M_19 b_20 =>
 ae (aa xs_3 0) false (fun k_21=>k_21 a0 M_19 none) (fun k=>k .undef M_19 none) fun t33 M_22 b_23 =>
 ae (aa xs_3 0) false (fun k_24=>k_24 (aa xs 1) M_22 none) (fun k=>k .undef M_22 none) fun t34 M_25 b_26 =>
 ae (aa xs_3 0) false (fun k_27=>ax t33 t34 7 fun t35 =>
 k_27 t35 M_25 none) (fun k=>k .undef M_25 none) fun t35_28 M_29 b_30 =>
 ae (aa xs_3 0) false (fun k_31=>aD t35_28 0 fun t36 =>
 k_31 t36 M_29 none) (fun k=>k .undef M_29 none) fun t36_32 M_33 b_34 =>
 ae (aa xs_3 0) false (fun k_35=>aH M_33 t36_32 2 fun t37 =>
 k_35 t37 M_33 none) (fun k=>k .undef M_33 none) fun t37_36 M_37 b_38 =>
 ae (aa xs_3 0) false (fun k_39=>kV false [1,1] t32_18 t37_36 fun t38 =>
 k_39 t38 M_37 none) (fun k=>k .undef M_37 none) fun t38_40 M_41 b_42 =>
 aP (aa xs_3 0) (Bo true) t38_40 fun t39 =>
 af .add (aa xs_3 1) (N .i64 1) fun t25 =>
 next_2 [t39,t25] M_41) (
 dU (aa xs_3 0) fun t41 =>
 aA t41 (
 ax a0 (aa xs 1) 7 fun t45 =>
 aH M_4 t45 7 fun t46 =>
 df p1 1 [(N .i64 0),(N .u64 0),(N .i64 0),(St []),(St []),(St []),(.sc (.slice none 0 0))] [(0,7,t46)] fun r_43 f_44 =>
 bY r_43 f_44 M_4 fun t47 M_45 =>
 appW p1 7 96 [(N .i64 0),(N .u64 0),(N .i64 0),(St []),(St []),(St []),(.sc (.slice none 0 0))] false (aa xs 0) t47 M_45 fun t48 M_46 =>
 J [t48] M_46) (
 J [(aa xs 0)] M_4))) [t19,(N .i64 0)] M_1) (fun xs_47 M_48 =>
 af .add (aa xs 1) (N .i64 1) fun bf =>
 next [(aa xs_47 0),bf] M_48)) (
 Q (aa xs 0) M_0)) [t7,(N .i64 0)] M
def yE (p1:Nat) (p2 p3:av) (a0:AV) (M0:RM) (Q:ai) : Prop :=
 gJ p1 a0 fun r f =>
 bY r f M0 fun t1 M =>
 aD t1 0 fun t4 =>
 aH M t4 2 fun t5 =>
 p2 [t5] M fun t6 M_0 =>
 dU t6 fun t7 =>
 au t7 false (fun k=>aD t1 2 fun t9 =>
 k t9 M_0) (fun k=>k .undef M_0) fun t9_1 M_2 =>
 au t7 false (fun k_3=>aj M_2 t9_1 fun bQ =>
 k_3 bQ M_2) (fun k=>k .undef M_2) fun t10_4 M_5 =>
 au t7 false (fun k_6=>af .neq t10_4 (N .i64 1) fun bT =>
 k_6 bT M_5) (fun k=>k .undef M_5) fun t11_7 M_8 =>
 au t7 false (fun k_9=>k_9 t11_7 M_8) (fun k=>k .undef M_8) fun t12 M_10 =>
 au t12 true (fun k_11=>aD t1 2 fun bf =>
 k_11 bf M_10) (fun k=>k .undef M_10) fun t13_12 M_13 =>
 au t12 true (fun k_14=>aj M_13 t13_12 fun t14 =>
 k_14 t14 M_13) (fun k=>k .undef M_13) fun t14_15 M_16 =>
 au t12 true (fun k_17=>af .neq t14_15 (N .i64 2) fun t15 =>
 k_17 t15 M_16) (fun k=>k .undef M_16) fun t15_18 M_19 =>
 au t7 false (fun k_20=>aP t12 t15_18 (Bo false) fun t16 =>
 k_20 t16 M_19) (fun k=>k .undef M_19) fun t16_21 M_22 =>
 aP t7 (Bo true) t16_21 fun t17 =>
 au t17 false (fun k_23=>aD t1 3 fun t19 =>
 k_23 t19 M_22) (fun k=>k .undef M_22) fun t19_24 M_25 =>
 au t17 false (fun k_26=>aj M_25 t19_24 fun t20 =>
 k_26 t20 M_25) (fun k=>k .undef M_25) fun t20_27 M_28 =>
 au t17 false (fun k_29=>mK t20_27 fun t21 =>
 k_29 t21 M_28) (fun k=>k .undef M_28) fun t21_30 M_31 =>
 au t17 false (fun k_32=>af .lss t21_30 (N .i64 1) fun t22 =>
 k_32 t22 M_31) (fun k=>k .undef M_31) fun t22_33 M_34 =>
 aP t17 (Bo true) t22_33 fun t23 =>
 au t23 false (fun k_35=>aD t1 3 fun t25 =>
 k_35 t25 M_34) (fun k=>k .undef M_34) fun t25_36 M_37 =>
 au t23 false (fun k_38=>aj M_37 t25_36 fun t26 =>
 k_38 t26 M_37) (fun k=>k .undef M_37) fun t26_39 M_40 =>
 au t23 false (fun k_41=>mK t26_39 fun t27 =>
 k_41 t27 M_40) (fun k=>k .undef M_40) fun t27_42 M_43 =>
 au t23 false (fun k_44=>af .gtr t27_42 (N .i64 64) fun t28 =>
 k_44 t28 M_43) (fun k=>k .undef M_43) fun t28_45 M_46 =>
 aP t23 (Bo true) t28_45 fun t29 =>
 au t29 false (fun k_47=>aD t1 4 fun t31 =>
 k_47 t31 M_46) (fun k=>k .undef M_46) fun t31_48 M_49 =>
 au t29 false (fun k_50=>aj M_49 t31_48 fun t32 =>
 k_50 t32 M_49) (fun k=>k .undef M_49) fun t32_51 M_52 =>
 au t29 false (fun k_53=>mK t32_51 fun t33 =>
 k_53 t33 M_52) (fun k=>k .undef M_52) fun t33_54 M_55 =>
 au t29 false (fun k_56=>af .gtr t33_54 (N .i64 64) fun t34 =>
 k_56 t34 M_55) (fun k=>k .undef M_55) fun t34_57 M_58 =>
 aP t29 (Bo true) t34_57 fun t35 =>
 au t35 false (fun k_59=>aD t1 5 fun t37 =>
 k_59 t37 M_58) (fun k=>k .undef M_58) fun t37_60 M_61 =>
 au t35 false (fun k_62=>aj M_61 t37_60 fun t38 =>
 k_62 t38 M_61) (fun k=>k .undef M_61) fun t38_63 M_64 =>
 au t35 false (fun k_65=>mK t38_63 fun t39 =>
 k_65 t39 M_64) (fun k=>k .undef M_64) fun t39_66 M_67 =>
 au t35 false (fun k_68=>af .gtr t39_66 (N .i64 512) fun t40 =>
 k_68 t40 M_67) (fun k=>k .undef M_67) fun t40_69 M_70 =>
 aP t35 (Bo true) t40_69 fun t41 =>
 au t41 false (fun k_71=>aD t1 6 fun t43 =>
 k_71 t43 M_70) (fun k=>k .undef M_70) fun t43_72 M_73 =>
 au t41 false (fun k_74=>aj M_73 t43_72 fun t44 =>
 k_74 t44 M_73) (fun k=>k .undef M_73) fun t44_75 M_76 =>
 au t41 false (fun k_77=>bu t44_75 fun t45 =>
 k_77 t45 M_76) (fun k=>k .undef M_76) fun t45_78 M_79 =>
 au t41 false (fun k_80=>af .gtr t45_78 (N .i64 64) fun t46 =>
 k_80 t46 M_79) (fun k=>k .undef M_79) fun t46_81 M_82 =>
 aP t41 (Bo true) t46_81 fun t47 =>
 aA t47 (
 Q (Bo false) M_82) (
 aD t1 2 fun t48 =>
 aj M_82 t48 fun t49 =>
 af .eql t49 (N .i64 1) fun t50 =>
 au t50 true (fun k_83=>aD t1 4 fun t52 =>
 k_83 t52 M_82) (fun k=>k .undef M_82) fun t52_84 M_85 =>
 au t50 true (fun k_86=>aj M_85 t52_84 fun t53 =>
 k_86 t53 M_85) (fun k=>k .undef M_85) fun t53_87 M_88 =>
 au t50 true (fun k_89=>gQ .eql t53_87 (St []) fun t54 =>
 k_89 t54 M_88) (fun k=>k .undef M_88) fun t54_90 M_91 =>
 aP t50 t54_90 (Bo false) fun t55 =>
 au t55 false (fun k_92=>aD t1 2 fun t57 =>
 k_92 t57 M_91) (fun k=>k .undef M_91) fun t57_93 M_94 =>
 au t55 false (fun k_95=>aj M_94 t57_93 fun t58 =>
 k_95 t58 M_94) (fun k=>k .undef M_94) fun t58_96 M_97 =>
 au t55 false (fun k_98=>af .eql t58_96 (N .i64 2) fun t59 =>
 k_98 t59 M_97) (fun k=>k .undef M_97) fun t59_99 M_100 =>
 au t55 false (fun k_101=>k_101 t59_99 M_100) (fun k=>k .undef M_100) fun t60 M_102 =>
 au t60 true (fun k_103=>aD t1 5 fun t61 =>
 k_103 t61 M_102) (fun k=>k .undef M_102) fun t61_104 M_105 =>
 au t60 true (fun k_106=>aj M_105 t61_104 fun t62 =>
 k_106 t62 M_105) (fun k=>k .undef M_105) fun t62_107 M_108 =>
 au t60 true (fun k_109=>gQ .neq t62_107 (St []) fun t63 =>
 k_109 t63 M_108) (fun k=>k .undef M_108) fun t63_110 M_111 =>
 au t55 false (fun k_112=>aP t60 t63_110 (Bo false) fun t64 =>
 k_112 t64 M_111) (fun k=>k .undef M_111) fun t64_113 M_114 =>
 aP t55 (Bo true) t64_113 fun t65 =>
 aA t65 (
 Q (Bo false) M_114) (
 aU (fun next xs M_115 =>
 aD t1 6 fun t67 =>
 aj M_115 t67 fun t68 =>
 bu t68 fun t69 =>
 af .lss (aa xs 0) t69 fun t70 =>
 aA t70 (
 aD t1 6 fun t73 =>
 aj M_115 t73 fun t74 =>
 ax t74 (aa xs 0) 2 fun t76 =>
 aH M_115 t76 2 fun t77 =>
 p2 [t77] M_115 fun t78 M_116 =>
 dU t78 fun t79 =>
 ae t79 false (fun k_117=>aD t1 6 fun t81 =>
 k_117 t81 M_116 none) (fun k=>k .undef M_116 none) fun t81_118 M_119 b =>
 ae t79 false (fun k_120=>aj M_119 t81_118 fun t82 =>
 k_120 t82 M_119 none) (fun k=>k .undef M_119 none) fun t82_121 M_122 b_123 =>
 ae t79 false (fun k_124=>k_124 (aa xs 0) M_122 none) (fun k=>k .undef M_122 none) fun t83 M_125 b_126 =>
 ae t79 false (fun k_127=>ax t82_121 t83 2 fun t84 =>
 k_127 t84 M_125 none) (fun k=>k .undef M_125 none) fun t84_128 M_129 b_130 =>
 ae t79 false (fun k_131=>aH M_129 t84_128 2 fun t85 =>
 k_131 t85 M_129 none) (fun k=>k .undef M_129 none) fun t85_132 M_133 b_134 =>
 ae t79 false (fun k_135=>aD t1 0 fun t86 =>
 k_135 t86 M_133 none) (fun k=>k .undef M_133 none) fun t86_136 M_137 b_138 =>
 ae t79 false (fun k_139=>aH M_137 t86_136 2 fun t87 =>
 k_139 t87 M_137 none) (fun k=>k .undef M_137 none) fun t87_140 M_141 b_142 =>
 ae t79 false (fun k_143=>kV false [1,1] t85_132 t87_140 fun t88 =>
 k_143 t88 M_141 none) (fun k=>k .undef M_141 none) fun t88_144 M_145 b_146 =>
 aP t79 (Bo true) t88_144 fun t89 =>
 ae t89 false (fun k_147=>k_147 (aa xs 0) M_145 none) (fun k=>k .undef M_145 none) fun t91 M_148 b_149 =>
 ae t89 false (fun k_150=>af .gtr t91 (N .i64 0) fun t92 =>
 k_150 t92 M_148 none) (fun k=>k .undef M_148 none) fun t92_151 M_152 b_153 =>
 ae t89 false (fun k_154=>k_154 t92_151 M_152 none) (fun k=>k .undef M_152 none) fun t93 M_155 b_156 =>
 ae t93 true (fun k_157=>aD t1 6 fun t94 =>
 k_157 t94 M_155 none) (fun k=>k .undef M_155 none) fun t94_158 M_159 b_160 =>
 ae t93 true (fun k_161=>aj M_159 t94_158 fun t95 =>
 k_161 t95 M_159 none) (fun k=>k .undef M_159 none) fun t95_162 M_163 b_164 =>
 ae t93 true (fun k_165=>k_165 (aa xs 0) M_163 none) (fun k=>k .undef M_163 none) fun t96 M_166 b_167 =>
 ae t93 true (fun k_168=>af .sub t96 (N .i64 1) fun t97 =>
 k_168 t97 M_166 none) (fun k=>k .undef M_166 none) fun t97_169 M_170 b_171 =>
 ae t93 true (fun k_172=>ax t95_162 t97_169 2 fun t98 =>
 k_172 t98 M_170 none) (fun k=>k .undef M_170 none) fun t98_173 M_174 b_175 =>
 ae t93 true (fun k_176=>aH M_174 t98_173 2 fun t99 =>
 k_176 t99 M_174 none) (fun k=>k .undef M_174 none) fun t99_177 M_178 b_179 =>
 ae t93 true (fun k_180=>aD t1 6 fun t100 =>
 k_180 t100 M_178 none) (fun k=>k .undef M_178 none) fun t100_181 M_182 b_183 =>
 ae t93 true (fun k_184=>aj M_182 t100_181 fun t101 =>
 k_184 t101 M_182 none) (fun k=>k .undef M_182 none) fun t101_185 M_186 b_187 =>
 ae t93 true (fun k_188=>k_188 (aa xs 0) M_186 none) (fun k=>k .undef M_186 none) fun t102 M_189 b_190 =>
 ae t93 true (fun k_191=>ax t101_185 t102 2 fun t103 =>
 k_191 t103 M_189 none) (fun k=>k .undef M_189 none) fun t103_192 M_193 b_194 =>
 ae t93 true (fun k_195=>aH M_193 t103_192 2 fun t104 =>
 k_195 t104 M_193 none) (fun k=>k .undef M_193 none) fun t104_196 M_197 b_198 =>
 au t93 true (fun k_199=>p3 [t99_177,t104_196] M_197 fun t105 M_200 =>
 k_199 t105 M_200) (fun k=>k .undef M_197) fun t105_201 M_202 =>
 ae t93 true (fun k_203=>dU t105_201 fun t106 =>
 k_203 t106 M_202 none) (fun k=>k .undef M_202 none) fun t106_204 M_205 b_206 =>
 ae t89 false (fun k_207=>aP t93 t106_204 (Bo false) fun t107 =>
 k_207 t107 M_205 none) (fun k=>k .undef M_205 none) fun t107_208 M_209 b_210 =>
 aP t89 (Bo true) t107_208 fun t108 =>
 aA t108 (
 Q (Bo false) M_209) (
 af .add (aa xs 0) (N .i64 1) fun t72 =>
 next [t72] M_209)) (
 Q (Bo true) M_115)) [(N .i64 0)] M_114))
def Ka (p1 p2:av) (a0 a1 a2:AV) (M0:RM) (Q:ai) : Prop :=
 p1 [] M0 fun bQ M =>
 aU (fun next xs M_0 =>
 bu a0 fun bf =>
 af .lss (aa xs 0) bf fun t14 =>
 aA t14 (
 dE (fun J =>
 af .and a1 (N .i64 1023) fun t19 =>
 af .add (aa xs 0) t19 fun t20 =>
 bu a0 fun t22 =>
 af .rem t20 t22 fun t23 =>
 dE (fun J_1 =>
 aA a2 (
 bu a0 fun t26 =>
 af .sub t26 (N .i64 1) fun t27 =>
 af .sub t27 t23 fun t29 =>
 J_1 [t29] M_0) (
 J_1 [t23] M_0)) (fun xs_2 M_3 =>
 ax a0 (aa xs_2 0) 7 fun t33 =>
 aH M_3 t33 7 fun t34 =>
 p2 [bQ,t34] M_3 fun t35 M_4 =>
 J [] M_4)) (fun xs_5 M_6 =>
 af .add (aa xs 0) (N .i64 1) fun t16 =>
 next [t16] M_6)) (
 Q bQ M_0)) [(N .i64 0)] M
def tL (p1 p2 p3:av) (p4:Nat) (a0:AV) (M0:RM) (Q:ai) : Prop :=
 bG a0 fun t7 =>
 aD t7 0 fun t8 =>
 aj M0 t8 fun t9 =>
 bG a0 fun t14 =>
 aD t14 1 fun t15 =>
 aj M0 t15 fun t16 =>
 bu t16 fun t17 =>
 gp .u64 t17 fun t18 =>
 p1 [t9] M0 fun bQ M =>
 aj M t15 fun t16_15 =>
 (t16_15=t16∧iJ M bQ fun bT =>
 p2 [(.sc (.slice none 0 0)),bT] M fun t12 M_0 =>
 aj M_0 t15 fun t16_14 =>
 (t16_14=t16∧p3 [t12,t18] M_0 fun t19 M_1 =>
 bG a0 fun t21 =>
 aD t21 1 fun t22 =>
 aj M_1 t22 fun t23 =>
 bu t23 fun t24 =>
 aU (fun next xs M_2 =>
 af .lss (aa xs 1) t24 fun t26 =>
 aA t26 (
 ax t23 (aa xs 1) 5 fun t27 =>
 aH M_2 t27 5 fun t28 =>
 bY (.row [(N .i64 0),(N .u64 0),(St []),(St []),(St [])] false p4 0) (fun b=>.ptr b 0) M_2 fun t5 M_3 =>
 aN M_3 t5 t28 5 fun M_4 =>
 aD t5 0 fun t30 =>
 aD t30 0 fun t31 =>
 aj M_4 t31 fun t32 =>
 gp .u64 t32 fun t33 =>
 aD t5 0 fun t35 =>
 aD t35 1 fun t36 =>
 aj M_4 t36 fun t37 =>
 p3 [(aa xs 0),t33] M_4 fun t34 M_5 =>
 aj M_5 t36 fun t37_13 =>
 (t37_13=t37∧p3 [t34,t37] M_5 fun t38 M_6 =>
 aD t5 2 fun t40 =>
 aj M_6 t40 fun t41 =>
 aD t5 3 fun t43 =>
 aj M_6 t43 fun t44 =>
 aD t5 4 fun t46 =>
 aj M_6 t46 fun t47 =>
 p2 [t38,t41] M_6 fun t42 M_7 =>
 aj M_7 t43 fun t44_12 =>
 (t44_12=t44∧aj M_7 t46 fun t47_11 =>
 (t47_11=t47∧p2 [t42,t44] M_7 fun t45 M_8 =>
 aj M_8 t46 fun t47_10 =>
 (t47_10=t47∧p2 [t45,t47] M_8 fun t48 M_9 =>
 af .add (aa xs 1) (N .i64 1) fun t49 =>
 next [t48,t49] M_9))))) (
 Q (aa xs 0) M_2)) [t19,(N .i64 0)] M_1))
def Pv (p1 p2 p3 p4 p5 p6 p7 p8 p9 p10 p11 p12 p13:av) (a0 a1:AV) (M0:RM) (Q:ai) : Prop :=
 p1 [a1] M0 fun t12 M =>
 p2 [a0] M fun t14 M_0 =>
 p3 [a0] M_0 fun t16 M_1 =>
 p4 [t12] M_1 fun t18 M_2 =>
 p5 [t14,t12] M_2 fun t21 M_3 =>
 dU t21 fun t22 =>
 ae t22 false (fun k=>k t16 M_3 none) (fun k=>k .undef M_3 none) fun t24 M_4 b =>
 ae t22 false (fun k_5=>bu t24 fun t25 =>
 k_5 t25 M_4 none) (fun k=>k .undef M_4 none) fun t25_6 M_7 b_8 =>
 ae t22 false (fun k_9=>k_9 t18 M_7 none) (fun k=>k .undef M_7 none) fun t26 M_10 b_11 =>
 ae t22 false (fun k_12=>bu t26 fun t27 =>
 k_12 t27 M_10 none) (fun k=>k .undef M_10 none) fun t27_13 M_14 b_15 =>
 ae t22 false (fun k_16=>af .neq t25_6 t27_13 fun t28 =>
 k_16 t28 M_14 none) (fun k=>k .undef M_14 none) fun t28_17 M_18 b_19 =>
 aP t22 (Bo true) t28_17 fun t29 =>
 ae t29 false (fun k_20=>k_20 a0 M_18 none) (fun k=>k .undef M_18 none) fun t31 M_21 b_22 =>
 ae t29 false (fun k_23=>k_23 a1 M_21 none) (fun k=>k .undef M_21 none) fun t35 M_24 b_25 =>
 au t29 false (fun k_26=>p6 [t31] M_24 fun t32 M_27 =>
 k_26 t32 M_27) (fun k=>k .undef M_24) fun t32_28 M_29 =>
 au t29 false (fun k_30=>p7 [t32_28] M_29 fun t33 M_31 =>
 k_30 t33 M_31) (fun k=>k .undef M_29) fun t33_32 M_33 =>
 ae t29 false (fun k_34=>iJ M_33 t33_32 fun t34 =>
 k_34 t34 M_33 none) (fun k=>k .undef M_33 none) fun t34_35 M_36 b_37 =>
 au t29 false (fun k_38=>p8 [t35] M_36 fun t36 M_39 =>
 k_38 t36 M_39) (fun k=>k .undef M_36) fun t36_40 M_41 =>
 rX t29 false (fun k_42=>iJ M_41 t33_32 fun t34_43 =>
 (t34_43=t34_35∧k_42)) (fun k=>k) (au t29 false (fun k_44=>p9 [t36_40] M_41 fun t37 M_45 =>
 k_44 t37 M_45) (fun k=>k .undef M_41) fun t37_46 M_47 =>
 rX t29 false (fun k_48=>iJ M_47 t33_32 fun t34_49 =>
 (t34_49=t34_35∧k_48)) (fun k=>k) (ae t29 false (fun k_50=>iJ M_47 t37_46 fun t38 =>
 k_50 t38 M_47 none) (fun k=>k .undef M_47 none) fun t38_51 M_52 b_53 =>
 ae t29 false (fun k_54=>gQ .neq t34_35 t38_51 fun t39 =>
 k_54 t39 M_52 none) (fun k=>k .undef M_52 none) fun t39_55 M_56 b_57 =>
 aP t29 (Bo true) t39_55 fun t40 =>
 ae t40 false (fun k_58=>k_58 a0 M_56 none) (fun k=>k .undef M_56 none) fun t42 M_59 b_60 =>
 ae t40 false (fun k_61=>k_61 a1 M_59 none) (fun k=>k .undef M_59 none) fun t45 M_62 b_63 =>
 ae t40 false (fun k_64=>k_64 t12 M_62 none) (fun k=>k .undef M_62 none) fun t47 M_65 b_66 =>
 au t40 false (fun k_67=>p10 [t42] M_65 fun t43 M_68 =>
 k_67 t43 M_68) (fun k=>k .undef M_65) fun t43_69 M_70 =>
 ae t40 false (fun k_71=>iJ M_70 t43_69 fun t44 =>
 k_71 t44 M_70 none) (fun k=>k .undef M_70 none) fun t44_72 M_73 b_74 =>
 au t40 false (fun k_75=>p8 [t45] M_73 fun t46 M_76 =>
 k_75 t46 M_76) (fun k=>k .undef M_73) fun t46_77 M_78 =>
 rX t40 false (fun k_79=>iJ M_78 t43_69 fun t44_80 =>
 (t44_80=t44_72∧k_79)) (fun k=>k) (au t40 false (fun k_81=>p11 [t46_77,t47] M_78 fun t48 M_82 =>
 k_81 t48 M_82) (fun k=>k .undef M_78) fun t48_83 M_84 =>
 rX t40 false (fun k_85=>iJ M_84 t43_69 fun t44_86 =>
 (t44_86=t44_72∧k_85)) (fun k=>k) (ae t40 false (fun k_87=>iJ M_84 t48_83 fun t49 =>
 k_87 t49 M_84 none) (fun k=>k .undef M_84 none) fun t49_88 M_89 b_90 =>
 ae t40 false (fun k_91=>gQ .neq t44_72 t49_88 fun t50 =>
 k_91 t50 M_89 none) (fun k=>k .undef M_89 none) fun t50_92 M_93 b_94 =>
 aP t40 (Bo true) t50_92 fun t51 =>
 aA t51 (
 Q (Bo false) M_93) (
 aU (fun next xs M_95 =>
 bu t16 fun t54 =>
 af .lss (aa xs 0) t54 fun t55 =>
 aA t55 (
 ax t16 (aa xs 0) 1 fun t60 =>
 aj M_95 t60 fun t61 =>
 ax t18 (aa xs 0) 1 fun t64 =>
 aj M_95 t64 fun t65 =>
 gQ .neq t61 t65 fun t66 =>
 ae t66 false (fun k_96=>k_96 a0 M_95 none) (fun k=>k .undef M_95 none) fun t68 M_97 b_98 =>
 ae t66 false (fun k_99=>k_99 t16 M_97 none) (fun k=>k .undef M_97 none) fun t69 M_100 b_101 =>
 ae t66 false (fun k_102=>k_102 (aa xs 0) M_100 none) (fun k=>k .undef M_100 none) fun t70 M_103 b_104 =>
 ae t66 false (fun k_105=>ax t69 t70 1 fun t71 =>
 k_105 t71 M_103 none) (fun k=>k .undef M_103 none) fun t71_106 M_107 b_108 =>
 ae t66 false (fun k_109=>aj M_107 t71_106 fun t72 =>
 k_109 t72 M_107 none) (fun k=>k .undef M_107 none) fun t72_110 M_111 b_112 =>
 ae t66 false (fun k_113=>k_113 t12 M_111 none) (fun k=>k .undef M_111 none) fun t74 M_114 b_115 =>
 ae t66 false (fun k_116=>k_116 t16 M_114 none) (fun k=>k .undef M_114 none) fun t75 M_117 b_118 =>
 ae t66 false (fun k_119=>k_119 (aa xs 0) M_117 none) (fun k=>k .undef M_117 none) fun t76 M_120 b_121 =>
 ae t66 false (fun k_122=>ax t75 t76 1 fun t77 =>
 k_122 t77 M_120 none) (fun k=>k .undef M_120 none) fun t77_123 M_124 b_125 =>
 ae t66 false (fun k_126=>aj M_124 t77_123 fun t78 =>
 k_126 t78 M_124 none) (fun k=>k .undef M_124 none) fun t78_127 M_128 b_129 =>
 au t66 false (fun k_130=>p12 [t68,t72_110] M_128 fun t73 M_131 =>
 k_130 t73 M_131) (fun k=>k .undef M_128) fun t73_132 M_133 =>
 rX t66 false (fun k_134=>aj M_133 t77_123 fun t78_135 =>
 (t78_135=t78_127∧k_134)) (fun k=>k) (au t66 false (fun k_136=>p13 [t74,t78_127,(St [])] M_133 fun t79 M_137 =>
 k_136 t79 M_137) (fun k=>k .undef M_133) fun t79_138 M_139 =>
 au t66 false (fun k_140=>p5 [t73_132,t79_138] M_139 fun t80 M_141 =>
 k_140 t80 M_141) (fun k=>k .undef M_139) fun t80_142 M_143 =>
 ae t66 false (fun k_144=>dU t80_142 fun t81 =>
 k_144 t81 M_143 none) (fun k=>k .undef M_143 none) fun t81_145 M_146 b_147 =>
 aP t66 (Bo true) t81_145 fun t82 =>
 aA t82 (
 Q (Bo false) M_146) (
 ax t16 (aa xs 0) 1 fun t85 =>
 aN M_146 t85 (St [115,112,111,105,108,116]) 1 fun M_148 =>
 af .add (aa xs 0) (N .i64 1) fun t57 =>
 next [t57] M_148))) (
 aU (fun next_149 xs_150 M_151 =>
 bu t14 fun t88 =>
 af .lss (aa xs_150 0) t88 fun t89 =>
 aA t89 (
 ax t14 (aa xs_150 0) 5 fun t94 =>
 aD t94 4 fun t95 =>
 aN M_151 t95 (St [115,112,111,105,108,116]) 1 fun M_152 =>
 af .add (aa xs_150 0) (N .i64 1) fun t91 =>
 next_149 [t91] M_152) (
 Q (Bo true) M_151)) [(N .i64 0)] M_95)) [(N .i64 0)] M_93)))))
def xh (p1 p2:av) (a0 a1:AV) (M0:RM) (Q:ai) : Prop :=
 bG a0 fun t6 =>
 aD t6 1 fun t7 =>
 aj M0 t7 fun t8 =>
 bG a1 fun bQ =>
 aD bQ 1 fun bT =>
 aj M0 bT fun t12 =>
 p1 [t8,t12] M0 fun bf M =>
 ae bf true (fun k=>k a0 M none) (fun k=>k .undef M none) fun t15 M_0 b =>
 ae bf true (fun k_1=>bG t15 fun t16 =>
 k_1 t16 M_0 none) (fun k=>k .undef M_0 none) fun t16_2 M_3 b_4 =>
 ae bf true (fun k_5=>aD t16_2 0 fun t17 =>
 k_5 t17 M_3 none) (fun k=>k .undef M_3 none) fun t17_6 M_7 b_8 =>
 ae bf true (fun k_9=>aj M_7 t17_6 fun t18 =>
 k_9 t18 M_7 none) (fun k=>k .undef M_7 none) fun t18_10 M_11 b_12 =>
 ae bf true (fun k_13=>k_13 a1 M_11 none) (fun k=>k .undef M_11 none) fun t19 M_14 b_15 =>
 ae bf true (fun k_16=>bG t19 fun t20 =>
 k_16 t20 M_14 none) (fun k=>k .undef M_14 none) fun t20_17 M_18 b_19 =>
 ae bf true (fun k_20=>aD t20_17 0 fun t21 =>
 k_20 t21 M_18 none) (fun k=>k .undef M_18 none) fun t21_21 M_22 b_23 =>
 ae bf true (fun k_24=>aj M_22 t21_21 fun t22 =>
 k_24 t22 M_22 none) (fun k=>k .undef M_22 none) fun t22_25 M_26 b_27 =>
 au bf true (fun k_28=>p2 [t18_10,t22_25] M_26 fun t23 M_29 =>
 k_28 t23 M_29) (fun k=>k .undef M_26) fun t23_30 M_31 =>
 aP bf t23_30 (Bo false) fun t24 =>
 ae t24 true (fun k_32=>k_32 a1 M_31 none) (fun k=>k .undef M_31 none) fun t26 M_33 b_34 =>
 ae t24 true (fun k_35=>bG t26 fun t27 =>
 k_35 t27 M_33 none) (fun k=>k .undef M_33 none) fun t27_36 M_37 b_38 =>
 ae t24 true (fun k_39=>aD t27_36 0 fun t28 =>
 k_39 t28 M_37 none) (fun k=>k .undef M_37 none) fun t28_40 M_41 b_42 =>
 ae t24 true (fun k_43=>aj M_41 t28_40 fun t29 =>
 k_43 t29 M_41 none) (fun k=>k .undef M_41 none) fun t29_44 M_45 b_46 =>
 ae t24 true (fun k_47=>k_47 a0 M_45 none) (fun k=>k .undef M_45 none) fun t30 M_48 b_49 =>
 ae t24 true (fun k_50=>bG t30 fun t31 =>
 k_50 t31 M_48 none) (fun k=>k .undef M_48 none) fun t31_51 M_52 b_53 =>
 ae t24 true (fun k_54=>aD t31_51 0 fun t32 =>
 k_54 t32 M_52 none) (fun k=>k .undef M_52 none) fun t32_55 M_56 b_57 =>
 ae t24 true (fun k_58=>aj M_56 t32_55 fun t33 =>
 k_58 t33 M_56 none) (fun k=>k .undef M_56 none) fun t33_59 M_60 b_61 =>
 au t24 true (fun k_62=>p2 [t29_44,t33_59] M_60 fun t34 M_63 =>
 k_62 t34 M_63) (fun k=>k .undef M_60) fun t34_64 M_65 =>
 aP t24 t34_64 (Bo false) fun t35 =>
 Q t35 M_65
def wL (p1 p2:av) (p3:Nat) (a0:AV) (M0:RM) (Q:ai) : Prop :=
 bG a0 fun t4 =>
 aD t4 0 fun t5 =>
 aj M0 t5 fun t6 =>
 bG a0 fun t9 =>
 aD t9 1 fun bQ =>
 aj M0 bQ fun bT =>
 p1 [t6] M0 fun t7 M =>
 aj M bQ fun t11_2 =>
 (t11_2=bT∧p2 [bT] M fun t12 M_0 =>
 mG [(.sc (.pointer none)),(.sc (.slice none 0 0))] [(0,1,t7),(1,1,t12)] fun bf =>
 gJ p3 bf fun r f =>
 jZ r f M_0 fun t14 M_1 b =>
 Q t14 M_1)
def wD (p1:Nat) (p2 p3 p4:av) (p5:Nat) (p6:av) (a0 a1:AV) (M0:RM) (Q:ai) : Prop :=
 bG a0 fun bQ =>
 aD bQ 1 fun bT =>
 aj M0 bT fun t12 =>
 bu t12 fun bf =>
 aU (fun next xs M =>
 af .lss (aa xs 1) bf fun t15 =>
 aA t15 (
 dE (fun J =>
 ax t12 (aa xs 1) 5 fun t16 =>
 aH M t16 5 fun t17 =>
 bY (.row [(N .i64 0),(N .u64 0),(St []),(St []),(St [])] false p1 0) (fun b=>.ptr b 0) M fun t6 M_0 =>
 aN M_0 t6 t17 5 fun M_1 =>
 aH M_1 t6 5 fun t19 =>
 p2 [a1,t19] M_1 fun t20 M_2 =>
 ae t20 false (fun k=>k a1 M_2 none) (fun k=>k .undef M_2 none) fun t22 M_3 b =>
 ae t20 false (fun k_4=>bG t22 fun t23 =>
 k_4 t23 M_3 none) (fun k=>k .undef M_3 none) fun t23_5 M_6 b_7 =>
 ae t20 false (fun k_8=>aD t23_5 0 fun t24 =>
 k_8 t24 M_6 none) (fun k=>k .undef M_6 none) fun t24_9 M_10 b_11 =>
 ae t20 false (fun k_12=>aj M_10 t24_9 fun t25 =>
 k_12 t25 M_10 none) (fun k=>k .undef M_10 none) fun t25_13 M_14 b_15 =>
 ae t20 false (fun k_16=>aD t6 0 fun t26 =>
 k_16 t26 M_14 none) (fun k=>k .undef M_14 none) fun t26_17 M_18 b_19 =>
 ae t20 false (fun k_20=>aH M_18 t26_17 2 fun t27 =>
 k_20 t27 M_18 none) (fun k=>k .undef M_18 none) fun t27_21 M_22 b_23 =>
 au t20 false (fun k_24=>p3 [t25_13,t27_21] M_22 fun t28 M_25 =>
 k_24 t28 M_25) (fun k=>k .undef M_22) fun t28_26 M_27 =>
 ae t20 false (fun k_28=>dU t28_26 fun t29 =>
 k_28 t29 M_27 none) (fun k=>k .undef M_27 none) fun t29_29 M_30 b_31 =>
 aP t20 (Bo true) t29_29 fun t30 =>
 aA t30 (
 aH M_30 t6 5 fun t32 =>
 df p1 1 [(N .i64 0),(N .u64 0),(St []),(St []),(St [])] [(0,5,t32)] fun r f =>
 bY r f M_30 fun t33 M_32 =>
 appW p1 5 64 [(N .i64 0),(N .u64 0),(St []),(St []),(St [])] false (aa xs 0) t33 M_32 fun t34 M_33 =>
 J [t34] M_33) (
 J [(aa xs 0)] M_30)) (fun xs_34 M_35 =>
 af .add (aa xs 1) (N .i64 1) fun t35 =>
 next [(aa xs_34 0),t35] M_35)) (
 bG a1 fun t37 =>
 aD t37 1 fun t38 =>
 aj M t38 fun t39 =>
 bu t39 fun t40 =>
 aU (fun next_36 xs_37 M_38 =>
 af .lss (aa xs_37 1) t40 fun t42 =>
 aA t42 (
 dE (fun J_39 =>
 ax t39 (aa xs_37 1) 5 fun t43 =>
 aH M_38 t43 5 fun t44 =>
 bY (.row [(N .i64 0),(N .u64 0),(St []),(St []),(St [])] false p1 0) (fun b=>.ptr b 0) M_38 fun t8 M_40 =>
 aN M_40 t8 t44 5 fun M_41 =>
 aH M_41 t8 5 fun t46 =>
 p2 [a0,t46] M_41 fun t47 M_42 =>
 dU t47 fun t48 =>
 ae t48 true (fun k_43=>k_43 a0 M_42 none) (fun k=>k .undef M_42 none) fun t50 M_44 b_45 =>
 ae t48 true (fun k_46=>bG t50 fun t51 =>
 k_46 t51 M_44 none) (fun k=>k .undef M_44 none) fun t51_47 M_48 b_49 =>
 ae t48 true (fun k_50=>aD t51_47 0 fun t52 =>
 k_50 t52 M_48 none) (fun k=>k .undef M_48 none) fun t52_51 M_52 b_53 =>
 ae t48 true (fun k_54=>aj M_52 t52_51 fun t53 =>
 k_54 t53 M_52 none) (fun k=>k .undef M_52 none) fun t53_55 M_56 b_57 =>
 ae t48 true (fun k_58=>aD t8 0 fun t54 =>
 k_58 t54 M_56 none) (fun k=>k .undef M_56 none) fun t54_59 M_60 b_61 =>
 ae t48 true (fun k_62=>aH M_60 t54_59 2 fun t55 =>
 k_62 t55 M_60 none) (fun k=>k .undef M_60 none) fun t55_63 M_64 b_65 =>
 au t48 true (fun k_66=>p3 [t53_55,t55_63] M_64 fun t56 M_67 =>
 k_66 t56 M_67) (fun k=>k .undef M_64) fun t56_68 M_69 =>
 ae t48 true (fun k_70=>dU t56_68 fun t57 =>
 k_70 t57 M_69 none) (fun k=>k .undef M_69 none) fun t57_71 M_72 b_73 =>
 aP t48 t57_71 (Bo false) fun t58 =>
 aA t58 (
 aH M_72 t8 5 fun t60 =>
 df p1 1 [(N .i64 0),(N .u64 0),(St []),(St []),(St [])] [(0,5,t60)] fun r_74 f_75 =>
 bY r_74 f_75 M_72 fun t61 M_76 =>
 appW p1 5 64 [(N .i64 0),(N .u64 0),(St []),(St []),(St [])] false (aa xs_37 0) t61 M_76 fun t62 M_77 =>
 J_39 [t62] M_77) (
 J_39 [(aa xs_37 0)] M_72)) (fun xs_78 M_79 =>
 af .add (aa xs_37 1) (N .i64 1) fun t63 =>
 next_36 [(aa xs_78 0),t63] M_79)) (
 p4 [(aa xs_37 0),(.fn (.func p5) [] [])] M_38 fun t65 M_80 =>
 bG a0 fun t68 =>
 aD t68 1 fun t69 =>
 aN M_80 t69 (aa xs_37 0) 1 fun M_81 =>
 bG a0 fun t71 =>
 aD t71 0 fun t72 =>
 aj M_81 t72 fun t73 =>
 bG a1 fun t75 =>
 aD t75 0 fun t76 =>
 aj M_81 t76 fun t77 =>
 p6 [t73,t77] M_81 fun t78 M_82 =>
 Q (.tup []) M_82)) [(aa xs 0),(N .i64 0)] M)) [(.sc (.slice none 0 0)),(N .i64 0)] M0
def XB (p1:Nat) (a0 a1 a2:AV) (M0:RM) (Q:ai) : Prop :=
 ER p1 64 [(N .i64 0),(N .u64 0),(St []),(St []),(St [])] (N .i64 0) (N .i64 0) fun r f =>
 bY r f M0 fun t9 M =>
 aU (fun next xs M_0 =>
 bu a0 fun t12 =>
 af .lss (aa xs 1) t12 fun bf =>
 aA bf (
 dE (fun J =>
 ax a0 (aa xs 1) 5 fun t18 =>
 aD t18 2 fun t19 =>
 aj M_0 t19 fun t20 =>
 gQ .eql t20 a1 fun t22 =>
 au t22 true (fun k=>k a2 M_0) (fun k=>k .undef M_0) fun t24 M_1 =>
 au t22 true (fun k_2=>gQ .eql t24 (St []) fun t25 =>
 k_2 t25 M_1) (fun k=>k .undef M_1) fun t25_3 M_4 =>
 au t22 true (fun k_5=>k_5 t25_3 M_4) (fun k=>k .undef M_4) fun t26 M_6 =>
 au t26 false (fun k_7=>k_7 a0 M_6) (fun k=>k .undef M_6) fun t27 M_8 =>
 au t26 false (fun k_9=>k_9 (aa xs 1) M_8) (fun k=>k .undef M_8) fun t28 M_10 =>
 au t26 false (fun k_11=>ax t27 t28 5 fun t29 =>
 k_11 t29 M_10) (fun k=>k .undef M_10) fun t29_12 M_13 =>
 au t26 false (fun k_14=>aD t29_12 3 fun t30 =>
 k_14 t30 M_13) (fun k=>k .undef M_13) fun t30_15 M_16 =>
 au t26 false (fun k_17=>aj M_16 t30_15 fun t31 =>
 k_17 t31 M_16) (fun k=>k .undef M_16) fun t31_18 M_19 =>
 au t26 false (fun k_20=>k_20 a2 M_19) (fun k=>k .undef M_19) fun t32 M_21 =>
 au t26 false (fun k_22=>gQ .eql t31_18 t32 fun t33 =>
 k_22 t33 M_21) (fun k=>k .undef M_21) fun t33_23 M_24 =>
 au t22 true (fun k_25=>aP t26 (Bo true) t33_23 fun t34 =>
 k_25 t34 M_24) (fun k=>k .undef M_24) fun t34_26 M_27 =>
 aP t22 t34_26 (Bo false) fun t35 =>
 aA t35 (
 ax a0 (aa xs 1) 5 fun t39 =>
 aH M_27 t39 5 fun t40 =>
 df p1 1 [(N .i64 0),(N .u64 0),(St []),(St []),(St [])] [(0,5,t40)] fun r_28 f_29 =>
 bY r_28 f_29 M_27 fun t41 M_30 =>
 appW p1 5 64 [(N .i64 0),(N .u64 0),(St []),(St []),(St [])] false (aa xs 0) t41 M_30 fun t42 M_31 =>
 J [t42] M_31) (
 J [(aa xs 0)] M_27)) (fun xs_32 M_33 =>
 af .add (aa xs 1) (N .i64 1) fun t15 =>
 next [(aa xs_32 0),t15] M_33)) (
 Q (aa xs 0) M_0)) [t9,(N .i64 0)] M
def xm (p1:av) (a0:AV) (M0:RM) (Q:ai) : Prop :=
 bG a0 fun t4 =>
 aD t4 0 fun t5 =>
 aj M0 t5 fun t6 =>
 p1 [t6] M0 fun t7 M =>
 Q t7 M
def qB (p1 p2:Nat) (a0:AV) (M0:RM) (Q:ai) : Prop :=
 bG a0 fun t7 =>
 aD t7 1 fun t8 =>
 aj M0 t8 fun t9 =>
 bu t9 fun bQ =>
 aU (fun next xs M =>
 af .lss (aa xs 1) bQ fun t12 =>
 aA t12 (
 dE (fun J =>
 ax t9 (aa xs 1) 5 fun bf =>
 aH M bf 5 fun t14 =>
 bY (.row [(N .i64 0),(N .u64 0),(St []),(St []),(St [])] false p1 0) (fun b=>.ptr b 0) M fun t5 M_0 =>
 aN M_0 t5 t14 5 fun M_1 =>
 bu (aa xs 0) fun t16 =>
 af .eql t16 (N .i64 0) fun t17 =>
 ae t17 false (fun k=>k (aa xs 0) M_1 none) (fun k=>k .undef M_1 none) fun t19 M_2 b =>
 ae t17 false (fun k_3=>k_3 (aa xs 0) M_2 none) (fun k=>k .undef M_2 none) fun t20 M_4 b_5 =>
 ae t17 false (fun k_6=>bu t20 fun t21 =>
 k_6 t21 M_4 none) (fun k=>k .undef M_4 none) fun t21_7 M_8 b_9 =>
 ae t17 false (fun k_10=>af .sub t21_7 (N .i64 1) fun t22 =>
 k_10 t22 M_8 none) (fun k=>k .undef M_8 none) fun t22_11 M_12 b_13 =>
 ae t17 false (fun k_14=>ax t19 t22_11 1 fun t23 =>
 k_14 t23 M_12 none) (fun k=>k .undef M_12 none) fun t23_15 M_16 b_17 =>
 ae t17 false (fun k_18=>aj M_16 t23_15 fun t24 =>
 k_18 t24 M_16 none) (fun k=>k .undef M_16 none) fun t24_19 M_20 b_21 =>
 ae t17 false (fun k_22=>aD t5 2 fun t25 =>
 k_22 t25 M_20 none) (fun k=>k .undef M_20 none) fun t25_23 M_24 b_25 =>
 ae t17 false (fun k_26=>aj M_24 t25_23 fun t26 =>
 k_26 t26 M_24 none) (fun k=>k .undef M_24 none) fun t26_27 M_28 b_29 =>
 ae t17 false (fun k_30=>gQ .neq t24_19 t26_27 fun t27 =>
 k_30 t27 M_28 none) (fun k=>k .undef M_28 none) fun t27_31 M_32 b_33 =>
 aP t17 (Bo true) t27_31 fun t28 =>
 aA t28 (
 aD t5 2 fun t30 =>
 aj M_32 t30 fun t31 =>
 df p2 1 [(St [])] [(0,1,t31)] fun r f =>
 bY r f M_32 fun t32 M_34 =>
 appW p2 1 16 [(St [])] false (aa xs 0) t32 M_34 fun t33 M_35 =>
 J [t33] M_35) (
 J [(aa xs 0)] M_32)) (fun xs_36 M_37 =>
 af .add (aa xs 1) (N .i64 1) fun t34 =>
 next [(aa xs_36 0),t34] M_37)) (
 Q (aa xs 0) M)) [(.sc (.slice none 0 0)),(N .i64 0)] M0
def rP (p1:Nat) (a0 a1:AV) (M0:RM) (Q:ai) : Prop :=
 bG a0 fun t9 =>
 aD t9 1 fun bQ =>
 aj M0 bQ fun bT =>
 bu bT fun t12 =>
 aU (fun next xs M =>
 af .lss (aa xs 1) t12 fun t14 =>
 aA t14 (
 dE (fun J =>
 ax bT (aa xs 1) 5 fun t15 =>
 aH M t15 5 fun t16 =>
 bY (.row [(N .i64 0),(N .u64 0),(St []),(St []),(St [])] false p1 0) (fun b=>.ptr b 0) M fun t7 M_0 =>
 aN M_0 t7 t16 5 fun M_1 =>
 aD t7 2 fun t17 =>
 aj M_1 t17 fun t18 =>
 gQ .eql t18 a1 fun t20 =>
 aA t20 (
 aH M_1 t7 5 fun t22 =>
 df p1 1 [(N .i64 0),(N .u64 0),(St []),(St []),(St [])] [(0,5,t22)] fun r f =>
 bY r f M_1 fun t23 M_2 =>
 appW p1 5 64 [(N .i64 0),(N .u64 0),(St []),(St []),(St [])] false (aa xs 0) t23 M_2 fun t24 M_3 =>
 J [t24] M_3) (
 J [(aa xs 0)] M_1)) (fun xs_4 M_5 =>
 af .add (aa xs 1) (N .i64 1) fun t25 =>
 next [(aa xs_4 0),t25] M_5)) (
 Q (aa xs 0) M)) [(.sc (.slice none 0 0)),(N .i64 0)] M0
def vo (p1:Nat) (a0:AV) (M0:RM) (Q:ai) : Prop :=
 jD false 2 a0 (.sc (.slice none 0 0)) fun t4 =>
 aA t4 (
 Q (.sc (.slice none 0 0)) M0) (
 df p1 0 [(N .i64 0),(N .u64 0),(St []),(St []),(St [])] [] fun r f =>
 bY r f M0 fun t5 M =>
 appW p1 5 64 [(N .i64 0),(N .u64 0),(St []),(St []),(St [])] false t5 a0 M fun t7 M_0 =>
 Q t7 M_0)
def qK (p1 p2:av) (a0 a1:AV) (M0:RM) (Q:ai) : Prop :=
 bu a0 fun t6 =>
 gp .u64 t6 fun bQ =>
 p1 [bQ] M0 fun bT M =>
 p2 [a0,(N .i64 0),t6,bT,a1] M fun bf M_0 =>
 Q (.tup []) M_0
def Dj (p1:Nat) (p2 p3:av) (p4:Nat) (p5:av) (a0 a1:AV) (M0:RM) (Q:ai) : Prop :=
 gJ p1 a0 fun r f =>
 bY r f M0 fun t2 M =>
 gJ p1 a1 fun r_0 f_1 =>
 bY r_0 f_1 M fun t3 M_2 =>
 aD t2 2 fun t5 =>
 aj M_2 t5 fun t6 =>
 aD t3 2 fun t7 =>
 aj M_2 t7 fun t8 =>
 aD t2 3 fun bQ =>
 aj M_2 bQ fun bT =>
 aD t3 3 fun t12 =>
 aj M_2 t12 fun bf =>
 aD t2 0 fun t15 =>
 aH M_2 t15 2 fun t16 =>
 aD t3 0 fun t17 =>
 aH M_2 t17 2 fun t18 =>
 p2 [t6,t8] M_2 fun t9 M_3 =>
 aj M_3 bQ fun t11_15 =>
 (t11_15=bT∧aj M_3 t12 fun t13_14 =>
 (t13_14=bf∧aH M_3 t15 2 fun t16_13 =>
 (t16_13=t16∧aH M_3 t17 2 fun t18_12 =>
 (t18_12=t18∧p2 [bT,bf] M_3 fun t14 M_4 =>
 aH M_4 t15 2 fun t16_11 =>
 (t16_11=t16∧aH M_4 t17 2 fun t18_10 =>
 (t18_10=t18∧p3 [t16,t18] M_4 fun t19 M_5 =>
 df p4 3 [(N .i64 0)] [(0,1,t9),(1,1,t14),(2,1,t19)] fun r_6 f_7 =>
 jZ r_6 f_7 M_5 fun t20 M_8 b =>
 p5 [t20] M_8 fun t21 M_9 =>
 Q t21 M_9))))))
def nT (p1:av) (p2:Nat) (cv:(FuncId→av)) (a0 a1:AV) (M0:RM) (Q:ai) : Prop :=
 p1 [a0,a1] M0 fun bQ M =>
 af .eql bQ (N .i64 (-1)) fun t12 =>
 aA t12 (
 Q a0 M) (
 af .add bQ (N .i64 1) fun t15 =>
 aU (fun next xs M_0 =>
 bu a0 fun t18 =>
 af .lss (aa xs 1) t18 fun t19 =>
 aA t19 (
 dE (fun J =>
 ax a0 (aa xs 1) 5 fun t24 =>
 aH M_0 t24 5 fun t25 =>
 bY (.row [(N .i64 0),(N .u64 0),(St []),(St []),(St [])] false p2 0) (fun b=>.ptr b 0) M_0 fun t7 M_1 =>
 aN M_1 t7 t25 5 fun M_2 =>
 aH M_2 t7 5 fun t27 =>
 dZ cv a1 [t27] M_2 fun t28 M_3 =>
 dU t28 fun t29 =>
 aA t29 (
 aH M_3 t7 5 fun t32 =>
 ax a0 (aa xs 0) 5 fun t33 =>
 aN M_3 t33 t32 5 fun M_4 =>
 af .add (aa xs 0) (N .i64 1) fun t35 =>
 J [t35] M_4) (
 J [(aa xs 0)] M_3)) (fun xs_5 M_6 =>
 af .add (aa xs 1) (N .i64 1) fun t21 =>
 next [(aa xs_5 0),t21] M_6)) (
 eZ (bR 5 a0 (some (aa xs 0)) none none) fun t38 =>
 Jj [(N .i64 0),(N .u64 0),(St []),(St []),(St [])] t38 M_0 fun u M_7 =>
 eZ (bR 5 a0 none (some (aa xs 0)) none) fun t41 =>
 Q t41 M_7)) [bQ,t15] M)
def sD (p1:Nat) (p2:av) (a0 a1:AV) (M0:RM) (Q:ai) : Prop :=
 gJ p1 a0 fun r f =>
 bY r f M0 fun t2 M =>
 aD a1 6 fun t4 =>
 aj M t4 fun t5 =>
 aD t2 0 fun t6 =>
 aH M t6 2 fun t7 =>
 p2 [t5,t7] M fun t8 M_0 =>
 Q t8 M_0
def uf (p1:Nat) (p2:av) (a0 a1:AV) (M0:RM) (Q:ai) : Prop :=
 gJ p1 a1 fun r f =>
 bY r f M0 fun t3 M =>
 aH M t3 2 fun t6 =>
 p2 [a0,t6] M fun t7 M_0 =>
 af .geq t7 (N .i64 0) fun t8 =>
 Q t8 M_0
def vk (a0 a1:AV) (M0:RM) (Q:ai) : Prop :=
 bu a0 fun t7 =>
 bu a1 fun t9 =>
 af .neq t7 t9 fun bQ =>
 aA bQ (
 Q (Bo false) M0) (
 bu a0 fun t12 =>
 aU (fun next xs M =>
 af .lss (aa xs 0) t12 fun t14 =>
 aA t14 (
 ax a0 (aa xs 0) 5 fun t18 =>
 aH M t18 5 fun t19 =>
 ax a1 (aa xs 0) 5 fun t22 =>
 aH M t22 5 fun t23 =>
 kV true [1,1,2,2,2] t19 t23 fun t24 =>
 aA t24 (
 Q (Bo false) M) (
 af .add (aa xs 0) (N .i64 1) fun t25 =>
 next [t25] M)) (
 Q (Bo true) M)) [(N .i64 0)] M0)
def zg (a0 a1 a2:AV) (M0:RM) (Q:ai) : Prop :=
 mK a0 fun t8 =>
 af .geq t8 (N .i64 1) fun t9 =>
 au t9 true (fun k=>k a0 M0) (fun k=>k .undef M0) fun bT M =>
 au t9 true (fun k_0=>mK bT fun t12 =>
 k_0 t12 M) (fun k=>k .undef M) fun t12_1 M_2 =>
 au t9 true (fun k_3=>af .leq t12_1 (N .i64 64) fun bf =>
 k_3 bf M_2) (fun k=>k .undef M_2) fun t13_4 M_5 =>
 aP t9 t13_4 (Bo false) fun t14 =>
 au t14 true (fun k_6=>k_6 a1 M_5) (fun k=>k .undef M_5) fun t16 M_7 =>
 au t14 true (fun k_8=>mK t16 fun t17 =>
 k_8 t17 M_7) (fun k=>k .undef M_7) fun t17_9 M_10 =>
 au t14 true (fun k_11=>af .leq t17_9 (N .i64 64) fun t18 =>
 k_11 t18 M_10) (fun k=>k .undef M_10) fun t18_12 M_13 =>
 aP t14 t18_12 (Bo false) fun t19 =>
 au t19 true (fun k_14=>k_14 a2 M_13) (fun k=>k .undef M_13) fun t21 M_15 =>
 au t19 true (fun k_16=>mK t21 fun t22 =>
 k_16 t22 M_15) (fun k=>k .undef M_15) fun t22_17 M_18 =>
 au t19 true (fun k_19=>af .leq t22_17 (N .i64 512) fun t23 =>
 k_19 t23 M_18) (fun k=>k .undef M_18) fun t23_20 M_21 =>
 aP t19 t23_20 (Bo false) fun t24 =>
 Q t24 M_21
def MZ (p1:av) (p2:Nat) (a0 a1:AV) (M0:RM) (Q:ai) : Prop :=
 mK a1 fun t7 =>
 gp .u64 t7 fun t8 =>
 p1 [a0,t8] M0 fun t9 M =>
 appW p2 1 1 [(N .u8 0)] false t9 a1 M fun bT M_0 =>
 Q bT M_0
def Ep (p1:Nat) (p2 p3:av) (a0:AV) (M0:RM) (Q:ai) : Prop :=
 ER p1 64 [(N .i64 0),(N .u64 0),(St []),(St []),(St [])] (N .i64 0) (N .i64 0) fun r f =>
 bY r f M0 fun t7 M =>
 aU (fun next xs M_0 =>
 bu a0 fun bQ =>
 af .lss (aa xs 1) bQ fun bT =>
 aA bT (
 dE (fun J =>
 ax a0 (aa xs 1) 7 fun t16 =>
 aD t16 2 fun t17 =>
 aj M_0 t17 fun t18 =>
 af .eql t18 (N .i64 1) fun t19 =>
 aU (fun next_1 xs_2 M_3 =>
 bu a0 fun t22 =>
 af .lss (aa xs_2 1) t22 fun t23 =>
 aA t23 (
 ae (aa xs_2 0) true (fun k=>k a0 M_3 none) (fun k=>k .undef M_3 none) fun t28 M_4 b =>
 ae (aa xs_2 0) true (fun k_5=>k_5 (aa xs_2 1) M_4 none) (fun k=>k .undef M_4 none) fun t29 M_6 b_7 =>
 ae (aa xs_2 0) true (fun k_8=>ax t28 t29 7 fun t30 =>
 k_8 t30 M_6 none) (fun k=>k .undef M_6 none) fun t30_9 M_10 b_11 =>
 ae (aa xs_2 0) true (fun k_12=>aD t30_9 6 fun t31 =>
 k_12 t31 M_10 none) (fun k=>k .undef M_10 none) fun t31_13 M_14 b_15 =>
 ae (aa xs_2 0) true (fun k_16=>aj M_14 t31_13 fun t32 =>
 k_16 t32 M_14 none) (fun k=>k .undef M_14 none) fun t32_17 M_18 b_19 =>
 ae (aa xs_2 0) true (fun k_20=>k_20 a0 M_18 none) (fun k=>k .undef M_18 none) fun t33 M_21 b_22 =>
 ae (aa xs_2 0) true (fun k_23=>k_23 (aa xs 1) M_21 none) (fun k=>k .undef M_21 none) fun t34 M_24 b_25 =>
 ae (aa xs_2 0) true (fun k_26=>ax t33 t34 7 fun t35 =>
 k_26 t35 M_24 none) (fun k=>k .undef M_24 none) fun t35_27 M_28 b_29 =>
 ae (aa xs_2 0) true (fun k_30=>aD t35_27 0 fun t36 =>
 k_30 t36 M_28 none) (fun k=>k .undef M_28 none) fun t36_31 M_32 b_33 =>
 ae (aa xs_2 0) true (fun k_34=>aH M_32 t36_31 2 fun t37 =>
 k_34 t37 M_32 none) (fun k=>k .undef M_32 none) fun t37_35 M_36 b_37 =>
 au (aa xs_2 0) true (fun k_38=>p2 [t32_17,t37_35] M_36 fun t38 M_39 =>
 k_38 t38 M_39) (fun k=>k .undef M_36) fun t38_40 M_41 =>
 ae (aa xs_2 0) true (fun k_42=>dU t38_40 fun t39 =>
 k_42 t39 M_41 none) (fun k=>k .undef M_41 none) fun t39_43 M_44 b_45 =>
 aP (aa xs_2 0) t39_43 (Bo false) fun t40 =>
 ae t40 true (fun k_46=>k_46 (aa xs_2 1) M_44 none) (fun k=>k .undef M_44 none) fun t42 M_47 b_48 =>
 ae t40 true (fun k_49=>k_49 (aa xs 1) M_47 none) (fun k=>k .undef M_47 none) fun t43 M_50 b_51 =>
 ae t40 true (fun k_52=>af .lss t42 t43 fun t44 =>
 k_52 t44 M_50 none) (fun k=>k .undef M_50 none) fun t44_53 M_54 b_55 =>
 ae t40 true (fun k_56=>k_56 t44_53 M_54 none) (fun k=>k .undef M_54 none) fun t45 M_57 b_58 =>
 ae t45 true (fun k_59=>k_59 a0 M_57 none) (fun k=>k .undef M_57 none) fun t46 M_60 b_61 =>
 ae t45 true (fun k_62=>k_62 (aa xs_2 1) M_60 none) (fun k=>k .undef M_60 none) fun t47 M_63 b_64 =>
 ae t45 true (fun k_65=>ax t46 t47 7 fun t48 =>
 k_65 t48 M_63 none) (fun k=>k .undef M_63 none) fun t48_66 M_67 b_68 =>
 ae t45 true (fun k_69=>aD t48_66 0 fun t49 =>
 k_69 t49 M_67 none) (fun k=>k .undef M_67 none) fun t49_70 M_71 b_72 =>
 ae t45 true (fun k_73=>aH M_71 t49_70 2 fun t50 =>
 k_73 t50 M_71 none) (fun k=>k .undef M_71 none) fun t50_74 M_75 b_76 =>
 ae t45 true (fun k_77=>k_77 a0 M_75 none) (fun k=>k .undef M_75 none) fun t51 M_78 b_79 =>
 ae t45 true (fun k_80=>k_80 (aa xs 1) M_78 none) (fun k=>k .undef M_78 none) fun t52 M_81 b_82 =>
 ae t45 true (fun k_83=>ax t51 t52 7 fun t53 =>
 k_83 t53 M_81 none) (fun k=>k .undef M_81 none) fun t53_84 M_85 b_86 =>
 ae t45 true (fun k_87=>aD t53_84 0 fun t54 =>
 k_87 t54 M_85 none) (fun k=>k .undef M_85 none) fun t54_88 M_89 b_90 =>
 ae t45 true (fun k_91=>aH M_89 t54_88 2 fun t55 =>
 k_91 t55 M_89 none) (fun k=>k .undef M_89 none) fun t55_92 M_93 b_94 =>
 ae t45 true (fun k_95=>kV false [1,1] t50_74 t55_92 fun t56 =>
 k_95 t56 M_93 none) (fun k=>k .undef M_93 none) fun t56_96 M_97 b_98 =>
 ae t40 true (fun k_99=>aP t45 t56_96 (Bo false) fun t57 =>
 k_99 t57 M_97 none) (fun k=>k .undef M_97 none) fun t57_100 M_101 b_102 =>
 ae t40 true (fun k_103=>dU t57_100 fun t58 =>
 k_103 t58 M_101 none) (fun k=>k .undef M_101 none) fun t58_104 M_105 b_106 =>
 aP t40 t58_104 (Bo false) fun t59 =>
 af .add (aa xs_2 1) (N .i64 1) fun t25 =>
 next_1 [t59,t25] M_105) (
 aA (aa xs_2 0) (
 ax a0 (aa xs 1) 7 fun t64 =>
 aD t64 0 fun t65 =>
 aH M_3 t65 2 fun t66 =>
 ax a0 (aa xs 1) 7 fun t69 =>
 aD t69 3 fun t70 =>
 aj M_3 t70 fun t71 =>
 ax a0 (aa xs 1) 7 fun t74 =>
 aD t74 4 fun t75 =>
 aj M_3 t75 fun t76 =>
 ax a0 (aa xs 1) 7 fun t79 =>
 aD t79 5 fun t80 =>
 aj M_3 t80 fun t81 =>
 mG [(N .i64 0),(N .u64 0),(St []),(St []),(St [])] [(0,2,t66),(2,1,t71),(3,1,t76),(4,1,t81)] fun t82 =>
 p3 [(aa xs 0),t82] M_3 fun t83 M_107 =>
 J [t83] M_107) (
 J [(aa xs 0)] M_3))) [t19,(N .i64 0)] M_0) (fun xs_108 M_109 =>
 af .add (aa xs 1) (N .i64 1) fun bf =>
 next [(aa xs_108 0),bf] M_109)) (
 Q (aa xs 0) M_0)) [t7,(N .i64 0)] M
def BQ (p1:Nat) (a0:AV) (M0:RM) (Q:ai) : Prop :=
 ER p1 16 [(St [])] (N .i64 0) (N .i64 0) fun r f =>
 bY r f M0 fun t5 M =>
 aU (fun next xs M_0 =>
 bu a0 fun t8 =>
 af .lss (aa xs 1) t8 fun t9 =>
 aA t9 (
 dE (fun J =>
 af .eql (aa xs 1) (N .i64 0) fun bf =>
 ae bf false (fun k=>k a0 M_0 none) (fun k=>k .undef M_0 none) fun t15 M_1 b =>
 ae bf false (fun k_2=>k_2 (aa xs 1) M_1 none) (fun k=>k .undef M_1 none) fun t16 M_3 b_4 =>
 ae bf false (fun k_5=>ax t15 t16 5 fun t17 =>
 k_5 t17 M_3 none) (fun k=>k .undef M_3 none) fun t17_6 M_7 b_8 =>
 ae bf false (fun k_9=>aD t17_6 2 fun t18 =>
 k_9 t18 M_7 none) (fun k=>k .undef M_7 none) fun t18_10 M_11 b_12 =>
 ae bf false (fun k_13=>aj M_11 t18_10 fun t19 =>
 k_13 t19 M_11 none) (fun k=>k .undef M_11 none) fun t19_14 M_15 b_16 =>
 ae bf false (fun k_17=>k_17 a0 M_15 none) (fun k=>k .undef M_15 none) fun t20 M_18 b_19 =>
 ae bf false (fun k_20=>k_20 (aa xs 1) M_18 none) (fun k=>k .undef M_18 none) fun t21 M_21 b_22 =>
 ae bf false (fun k_23=>af .sub t21 (N .i64 1) fun t22 =>
 k_23 t22 M_21 none) (fun k=>k .undef M_21 none) fun t22_24 M_25 b_26 =>
 ae bf false (fun k_27=>ax t20 t22_24 5 fun t23 =>
 k_27 t23 M_25 none) (fun k=>k .undef M_25 none) fun t23_28 M_29 b_30 =>
 ae bf false (fun k_31=>aD t23_28 2 fun t24 =>
 k_31 t24 M_29 none) (fun k=>k .undef M_29 none) fun t24_32 M_33 b_34 =>
 ae bf false (fun k_35=>aj M_33 t24_32 fun t25 =>
 k_35 t25 M_33 none) (fun k=>k .undef M_33 none) fun t25_36 M_37 b_38 =>
 ae bf false (fun k_39=>gQ .neq t19_14 t25_36 fun t26 =>
 k_39 t26 M_37 none) (fun k=>k .undef M_37 none) fun t26_40 M_41 b_42 =>
 aP bf (Bo true) t26_40 fun t27 =>
 aA t27 (
 ax a0 (aa xs 1) 5 fun t31 =>
 aD t31 2 fun t32 =>
 aj M_41 t32 fun t33 =>
 df p1 1 [(St [])] [(0,1,t33)] fun r_43 f_44 =>
 bY r_43 f_44 M_41 fun t34 M_45 =>
 appW p1 1 16 [(St [])] false (aa xs 0) t34 M_45 fun t35 M_46 =>
 J [t35] M_46) (
 J [(aa xs 0)] M_41)) (fun xs_47 M_48 =>
 af .add (aa xs 1) (N .i64 1) fun bT =>
 next [(aa xs_47 0),bT] M_48)) (
 Q (aa xs 0) M_0)) [t5,(N .i64 0)] M
def OH (a0 a1:AV) (M0:RM) (Q:ai) : Prop :=
 bu a0 fun t7 =>
 bu a1 fun t9 =>
 af .neq t7 t9 fun bQ =>
 aA bQ (
 Q (Bo false) M0) (
 aU (fun next xs M =>
 bu a0 fun bf =>
 af .lss (aa xs 0) bf fun t14 =>
 aA t14 (
 ax a0 (aa xs 0) 5 fun t19 =>
 aH M t19 5 fun t20 =>
 ax a1 (aa xs 0) 5 fun t23 =>
 aH M t23 5 fun t24 =>
 kV true [1,1,2,2,2] t20 t24 fun t25 =>
 aA t25 (
 Q (Bo false) M) (
 af .add (aa xs 0) (N .i64 1) fun t16 =>
 next [t16] M)) (
 Q (Bo true) M)) [(N .i64 0)] M0)
def MP (p1:av) (a0:AV) (M0:RM) (Q:ai) : Prop :=
 aU (fun next xs M =>
 bu a0 fun t8 =>
 af .lss (aa xs 1) t8 fun t9 =>
 aA t9 (
 ax a0 (aa xs 1) 7 fun t15 =>
 aD t15 0 fun t16 =>
 aH M t16 2 fun t17 =>
 p1 [(aa xs 0),t17] M fun t18 M_0 =>
 aU (fun next_1 xs_2 M_3 =>
 ax a0 (aa xs 1) 7 fun t22 =>
 aD t22 6 fun t23 =>
 aj M_3 t23 fun t24 =>
 bu t24 fun t25 =>
 af .lss (aa xs_2 1) t25 fun t26 =>
 aA t26 (
 ax a0 (aa xs 1) 7 fun t32 =>
 aD t32 6 fun t33 =>
 aj M_3 t33 fun t34 =>
 ax t34 (aa xs_2 1) 2 fun t36 =>
 aH M_3 t36 2 fun t37 =>
 p1 [(aa xs_2 0),t37] M_3 fun t38 M_4 =>
 af .add (aa xs_2 1) (N .i64 1) fun t28 =>
 next_1 [t38,t28] M_4) (
 af .add (aa xs 1) (N .i64 1) fun bT =>
 next [(aa xs_2 0),bT] M_3)) [t18,(N .i64 0)] M_0) (
 Q (aa xs 0) M)) [(.sc (.slice none 0 0)),(N .i64 0)] M0
def u7 (p1 p2 p3:av) (p4:Nat) (a0 a1:AV) (M0:RM) (Q:ai) : Prop :=
 p1 [a0] M0 fun t8 M =>
 iJ M t8 fun t9 =>
 p2 [t9] M fun bQ M_0 =>
 bu a1 fun bf =>
 gp .u64 bf fun t14 =>
 p3 [t14] M_0 fun t15 M_1 =>
 appW p4 1 1 [(N .u8 0)] false bQ t15 M_1 fun t16 M_2 =>
 aU (fun next xs M_3 =>
 bu a1 fun t19 =>
 af .lss (aa xs 1) t19 fun t20 =>
 aA t20 (
 ax a1 (aa xs 1) 5 fun t26 =>
 aD t26 0 fun t27 =>
 aD t27 0 fun t28 =>
 aj M_3 t28 fun t29 =>
 gp .u64 t29 fun t30 =>
 ax a1 (aa xs 1) 5 fun t35 =>
 aD t35 0 fun t36 =>
 aD t36 1 fun t37 =>
 aj M_3 t37 fun t38 =>
 p3 [t30] M_3 fun t31 M_4 =>
 aj M_4 t37 fun t38_21 =>
 (t38_21=t38∧appW p4 1 1 [(N .u8 0)] false (aa xs 0) t31 M_4 fun t32 M_5 =>
 aj M_5 t37 fun t38_20 =>
 (t38_20=t38∧p3 [t38] M_5 fun t39 M_6 =>
 appW p4 1 1 [(N .u8 0)] false t32 t39 M_6 fun t40 M_7 =>
 ax a1 (aa xs 1) 5 fun t44 =>
 aD t44 2 fun t45 =>
 aj M_7 t45 fun t46 =>
 ax a1 (aa xs 1) 5 fun t51 =>
 aD t51 3 fun t52 =>
 aj M_7 t52 fun t53 =>
 ax a1 (aa xs 1) 5 fun t58 =>
 aD t58 4 fun t59 =>
 aj M_7 t59 fun t60 =>
 p2 [t46] M_7 fun t47 M_8 =>
 aj M_8 t52 fun t53_19 =>
 (t53_19=t53∧aj M_8 t59 fun t60_18 =>
 (t60_18=t60∧appW p4 1 1 [(N .u8 0)] false t40 t47 M_8 fun t48 M_9 =>
 aj M_9 t52 fun t53_17 =>
 (t53_17=t53∧aj M_9 t59 fun t60_16 =>
 (t60_16=t60∧p2 [t53] M_9 fun t54 M_10 =>
 aj M_10 t59 fun t60_15 =>
 (t60_15=t60∧appW p4 1 1 [(N .u8 0)] false t48 t54 M_10 fun t55 M_11 =>
 aj M_11 t59 fun t60_14 =>
 (t60_14=t60∧p2 [t60] M_11 fun t61 M_12 =>
 appW p4 1 1 [(N .u8 0)] false t55 t61 M_12 fun t62 M_13 =>
 af .add (aa xs 1) (N .i64 1) fun t22 =>
 next [t62,t22] M_13))))))))) (
 Q (aa xs 0) M_3)) [t16,(N .i64 0)] M_2
def yO (p1:Nat) (p2:av) (p3:Nat) (a0 a1:AV) (M0:RM) (Q:ai) : Prop :=
 gJ p1 a1 fun r f =>
 bY r f M0 fun t3 M =>
 bG a0 fun t9 =>
 aD t9 1 fun bQ =>
 aj M bQ fun bT =>
 aH M t3 5 fun t12 =>
 p2 [bT,t12,(.fn (.func p3) [] [])] M fun bf M_0 =>
 gU bf 0 fun t14 =>
 gU bf 1 fun t15 =>
 Q t15 M_0
def zi (p1:av) (p2:Nat) (a0:AV) (M0:RM) (Q:ai) : Prop :=
 mK a0 fun t4 =>
 gp .u64 t4 fun t5 =>
 p1 [t5] M0 fun t6 M =>
 appW p2 1 1 [(N .u8 0)] false t6 a0 M fun t8 M_0 =>
 Q t8 M_0
def Kv (p1:Nat) (p2 p3:av) (p4:Nat) (p5:av) (a0 a1:AV) (M0:RM) (Q:ai) : Prop :=
 gJ p1 a0 fun r f =>
 bY r f M0 fun t2 M =>
 gJ p1 a1 fun r_0 f_1 =>
 bY r_0 f_1 M fun t3 M_2 =>
 aD t2 1 fun t5 =>
 aj M_2 t5 fun t6 =>
 aD t3 1 fun t7 =>
 aj M_2 t7 fun t8 =>
 aD t2 0 fun bQ =>
 aj M_2 bQ fun bT =>
 aD t3 0 fun t12 =>
 aj M_2 t12 fun bf =>
 p2 [t6,t8] M_2 fun t9 M_3 =>
 aj M_3 bQ fun t11_10 =>
 (t11_10=bT∧aj M_3 t12 fun t13_9 =>
 (t13_9=bf∧p3 [bT,bf] M_3 fun t14 M_4 =>
 df p4 2 [(N .i64 0)] [(0,1,t9),(1,1,t14)] fun r_5 f_6 =>
 jZ r_5 f_6 M_4 fun t15 M_7 b =>
 p5 [t15] M_7 fun t16 M_8 =>
 Q t16 M_8))
def ik (p1 p2 p3 p4 p5 p6:av) (cv:(FuncId→av)) (p7 p8 p9:av) (a0 a1 a2 a3 a4:AV) (M0:RM) (Q:ai) : Prop :=
 aU (fun next xs M =>
 af .sub (aa xs 1) (aa xs 0) fun t23 =>
 af .leq t23 (N .i64 12) fun t25 =>
 aA t25 (
 p1 [a0,(aa xs 0),(aa xs 1),a4] M fun t30 M_0 =>
 Q (.tup []) M_0) (
 af .eql (aa xs 2) (N .i64 0) fun t32 =>
 aA t32 (
 p2 [a0,(aa xs 0),(aa xs 1),a4] M fun t37 M_1 =>
 Q (.tup []) M_1) (
 dE (fun J =>
 dU (aa xs 3) fun t39 =>
 aA t39 (
 p3 [a0,(aa xs 0),(aa xs 1),a4] M fun t44 M_2 =>
 af .sub (aa xs 2) (N .i64 1) fun t46 =>
 J [t46] M_2) (
 J [(aa xs 2)] M)) (fun xs_3 M_4 =>
 p4 [a0,(aa xs 0),(aa xs 1),a4] M_4 fun t52 M_5 =>
 gU t52 0 fun t53 =>
 gU t52 1 fun t54 =>
 dE (fun J_6 =>
 af .eql t54 (N .i64 2) fun t56 =>
 aA t56 (
 p5 [a0,(aa xs 0),(aa xs 1),a4] M_5 fun t61 M_7 =>
 af .sub (aa xs 1) (N .i64 1) fun t63 =>
 af .sub t53 (aa xs 0) fun t66 =>
 af .sub t63 t66 fun t67 =>
 J_6 [t67,(N .i64 1)] M_7) (
 J_6 [t53,t54] M_5)) (fun xs_8 M_9 =>
 dE (fun J_10 =>
 au (aa xs 3) true (fun k=>k (aa xs 4) M_9) (fun k=>k .undef M_9) fun t70 M_11 =>
 aP (aa xs 3) t70 (Bo false) fun t71 =>
 au t71 true (fun k_12=>k_12 (aa xs_8 1) M_11) (fun k=>k .undef M_11) fun t73 M_13 =>
 au t71 true (fun k_14=>af .eql t73 (N .i64 1) fun t74 =>
 k_14 t74 M_13) (fun k=>k .undef M_13) fun t74_15 M_16 =>
 aP t71 t74_15 (Bo false) fun t75 =>
 aA t75 (
 p6 [a0,(aa xs 0),(aa xs 1),a4] M_16 fun t80 M_17 =>
 aA t80 (
 Q (.tup []) M_17) (
 J_10 [] M_17)) (
 J_10 [] M_16)) (fun xs_18 M_19 =>
 af .gtr (aa xs 0) (N .i64 0) fun t82 =>
 ae t82 true (fun k_20=>k_20 a4 M_19 none) (fun k=>k .undef M_19 none) fun t84 M_21 b =>
 ae t82 true (fun k_22=>k_22 a0 M_21 none) (fun k=>k .undef M_21 none) fun t85 M_23 b_24 =>
 ae t82 true (fun k_25=>k_25 (aa xs 0) M_23 none) (fun k=>k .undef M_23 none) fun t86 M_26 b_27 =>
 ae t82 true (fun k_28=>af .sub t86 (N .i64 1) fun t87 =>
 k_28 t87 M_26 none) (fun k=>k .undef M_26 none) fun t87_29 M_30 b_31 =>
 ae t82 true (fun k_32=>ax t85 t87_29 5 fun t88 =>
 k_32 t88 M_30 none) (fun k=>k .undef M_30 none) fun t88_33 M_34 b_35 =>
 ae t82 true (fun k_36=>aH M_34 t88_33 5 fun t89 =>
 k_36 t89 M_34 none) (fun k=>k .undef M_34 none) fun t89_37 M_38 b_39 =>
 ae t82 true (fun k_40=>k_40 a0 M_38 none) (fun k=>k .undef M_38 none) fun t90 M_41 b_42 =>
 ae t82 true (fun k_43=>k_43 (aa xs_8 0) M_41 none) (fun k=>k .undef M_41 none) fun t91 M_44 b_45 =>
 ae t82 true (fun k_46=>ax t90 t91 5 fun t92 =>
 k_46 t92 M_44 none) (fun k=>k .undef M_44 none) fun t92_47 M_48 b_49 =>
 ae t82 true (fun k_50=>aH M_48 t92_47 5 fun t93 =>
 k_50 t93 M_48 none) (fun k=>k .undef M_48 none) fun t93_51 M_52 b_53 =>
 au t82 true (fun k_54=>dZ cv t84 [t89_37,t93_51] M_52 fun t94 M_55 =>
 k_54 t94 M_55) (fun k=>k .undef M_52) fun t94_56 M_57 =>
 ae t82 true (fun k_58=>af .lss t94_56 (N .i64 0) fun t95 =>
 k_58 t95 M_57 none) (fun k=>k .undef M_57 none) fun t95_59 M_60 b_61 =>
 ae t82 true (fun k_62=>dU t95_59 fun t96 =>
 k_62 t96 M_60 none) (fun k=>k .undef M_60 none) fun t96_63 M_64 b_65 =>
 aP t82 t96_63 (Bo false) fun t97 =>
 aA t97 (
 p7 [a0,(aa xs 0),(aa xs 1),(aa xs_8 0),a4] M_64 fun t103 M_66 =>
 next [t103,(aa xs 1),(aa xs_3 0),(aa xs 3),(aa xs 4)] M_66) (
 p8 [a0,(aa xs 0),(aa xs 1),(aa xs_8 0),a4] M_64 fun t111 M_67 =>
 gU t111 0 fun t112 =>
 gU t111 1 fun t113 =>
 af .sub t112 (aa xs 0) fun t117 =>
 af .sub (aa xs 1) t112 fun t120 =>
 af .quo t23 (N .i64 8) fun t122 =>
 af .lss t117 t120 fun t125 =>
 aA t125 (
 af .geq t117 t122 fun t128 =>
 p9 [a0,(aa xs 0),t112,(aa xs_3 0),a4] M_67 fun t134 M_68 =>
 af .add t112 (N .i64 1) fun t136 =>
 next [t136,(aa xs 1),(aa xs_3 0),t128,t113] M_68) (
 af .geq t120 t122 fun t139 =>
 af .add t112 (N .i64 1) fun t142 =>
 p9 [a0,t142,(aa xs 1),(aa xs_3 0),a4] M_67 fun t146 M_69 =>
 next [(aa xs 0),t112,(aa xs_3 0),t139,t113] M_69)))))))) [a1,a2,a3,(Bo true),(Bo true)] M0
def GJ (a0:AV) (M0:RM) (Q:ai) : Prop :=
 bu a0 fun t7 =>
 aU (fun next xs M =>
 af .lss (aa xs 0) t7 fun t9 =>
 aA t9 (
 ax a0 (aa xs 0) 1 fun bQ =>
 aj M bQ fun bT =>
 af .neq bT (N .i64 0) fun t14 =>
 aA t14 (
 Q bT M) (
 af .add (aa xs 0) (N .i64 1) fun t16 =>
 next [t16] M)) (
 Q (N .i64 0) M)) [(N .i64 0)] M0
def qz (p1:av) (a0 a1:AV) (M0:RM) (Q:ai) : Prop :=
 p1 [a0] M0 fun t8 M =>
 p1 [a1] M fun bQ M_0 =>
 aA t8 (
 aA bQ (
 Q (N .i64 0) M_0) (
 Q (N .i64 (-1)) M_0)) (
 aA bQ (
 Q (N .i64 1) M_0) (
 gQ .lss a0 a1 fun t16 =>
 aA t16 (
 Q (N .i64 (-1)) M_0) (
 gQ .gtr a0 a1 fun t19 =>
 aA t19 (
 Q (N .i64 1) M_0) (
 Q (N .i64 0) M_0))))
def pQ (cv:(FuncId→av)) (a0 a1:AV) (M0:RM) (Q:ai) : Prop :=
 bu a0 fun t7 =>
 aU (fun next xs M =>
 af .lss (aa xs 0) t7 fun t9 =>
 aA t9 (
 ax a0 (aa xs 0) 5 fun t14 =>
 aH M t14 5 fun t15 =>
 dZ cv a1 [t15] M fun t16 M_0 =>
 aA t16 (
 Q (aa xs 0) M_0) (
 af .add (aa xs 0) (N .i64 1) fun t18 =>
 next [t18] M_0)) (
 Q (N .i64 (-1)) M)) [(N .i64 0)] M0
def ze (p1:Nat) (a0 a1:AV) (M0:RM) (Q:ai) : Prop :=
 gJ p1 a1 fun r f =>
 bY r f M0 fun t3 M =>
 bu a0 fun t7 =>
 aU (fun next xs M_0 =>
 af .lss (aa xs 0) t7 fun t9 =>
 aA t9 (
 aH M_0 t3 2 fun bT =>
 ax a0 (aa xs 0) 2 fun t14 =>
 aH M_0 t14 2 fun t15 =>
 kV false [1,1] bT t15 fun t16 =>
 aA t16 (
 Q (aa xs 0) M_0) (
 af .add (aa xs 0) (N .i64 1) fun t18 =>
 next [t18] M_0)) (
 Q (N .i64 (-1)) M_0)) [(N .i64 0)] M
def Bu (p1:Nat) (p2:av) (a0 a1:AV) (M0:RM) (Q:ai) : Prop :=
 gJ p1 a1 fun r f =>
 bY r f M0 fun t3 M =>
 aU (fun next xs M_0 =>
 bu a0 fun t8 =>
 af .lss (aa xs 0) t8 fun t9 =>
 ae t9 true (fun k=>k a0 M_0 none) (fun k=>k .undef M_0 none) fun bT M_1 b =>
 ae t9 true (fun k_2=>k_2 (aa xs 0) M_1 none) (fun k=>k .undef M_1 none) fun t12 M_3 b_4 =>
 ae t9 true (fun k_5=>ax bT t12 5 fun bf =>
 k_5 bf M_3 none) (fun k=>k .undef M_3 none) fun t13_6 M_7 b_8 =>
 ae t9 true (fun k_9=>aH M_7 t13_6 5 fun t14 =>
 k_9 t14 M_7 none) (fun k=>k .undef M_7 none) fun t14_10 M_11 b_12 =>
 ae t9 true (fun k_13=>aH M_11 t3 5 fun t15 =>
 k_13 t15 M_11 none) (fun k=>k .undef M_11 none) fun t15_14 M_15 b_16 =>
 au t9 true (fun k_17=>p2 [t14_10,t15_14] M_15 fun t16 M_18 =>
 k_17 t16 M_18) (fun k=>k .undef M_15) fun t16_19 M_20 =>
 aP t9 t16_19 (Bo false) fun t17 =>
 aA t17 (
 af .add (aa xs 0) (N .i64 1) fun t19 =>
 next [t19] M_20) (
 df p1 0 [(N .i64 0),(N .u64 0),(St []),(St []),(St [])] [] fun r_21 f_22 =>
 jZ r_21 f_22 M_20 fun t20 M_23 b_24 =>
 eZ (bR 5 a0 none (some (aa xs 0)) none) fun t23 =>
 aH M_23 t3 5 fun t25 =>
 df p1 1 [(N .i64 0),(N .u64 0),(St []),(St []),(St [])] [(0,5,t25)] fun r_25 f_26 =>
 jZ r_25 f_26 M_23 fun t26 M_27 b_28 =>
 eZ (bR 5 a0 (some (aa xs 0)) none none) fun t30 =>
 appW p1 5 64 [(N .i64 0),(N .u64 0),(St []),(St []),(St [])] false t20 t23 M_27 fun t24 M_29 =>
 aH M_29 t3 5 fun t25_36 =>
 (t25_36=t25∧df p1 1 [(N .i64 0),(N .u64 0),(St []),(St []),(St [])] [(0,5,t25)] fun r_34 f_35 =>
 (uA b_28 M_29 r_34 f_35 t26∧eZ (bR 5 a0 (some (aa xs 0)) none none) fun t30_33 =>
 (t30_33=t30∧appW p1 5 64 [(N .i64 0),(N .u64 0),(St []),(St []),(St [])] false t24 t26 M_29 fun t27 M_30 =>
 eZ (bR 5 a0 (some (aa xs 0)) none none) fun t30_32 =>
 (t30_32=t30∧appW p1 5 64 [(N .i64 0),(N .u64 0),(St []),(St []),(St [])] false t27 t30 M_30 fun t31 M_31 =>
 Q t31 M_31)))))) [(N .i64 0)] M
def kH (p1:Nat) (cv:(FuncId→av)) (a0 a1 a2:AV) (M0:RM) (Q:ai) : Prop :=
 gJ p1 a1 fun r f =>
 bY r f M0 fun t4 M =>
 bu a0 fun bf =>
 aU (fun next xs M_0 =>
 af .lss (aa xs 0) (aa xs 1) fun t17 =>
 aA t17 (
 af .add (aa xs 0) (aa xs 1) fun t20 =>
 gp .u64 t20 fun t21 =>
 vE .shr t21 (N .u64 1) fun t22 =>
 gp .i64 t22 fun t23 =>
 ax a0 t23 5 fun t27 =>
 aH M_0 t27 5 fun t28 =>
 aH M_0 t4 5 fun t29 =>
 dZ cv a2 [t28,t29] M_0 fun t30 M_1 =>
 af .lss t30 (N .i64 0) fun t31 =>
 aA t31 (
 af .add t23 (N .i64 1) fun t33 =>
 next [t33,(aa xs 1)] M_1) (
 next [(aa xs 0),t23] M_1)) (
 af .lss (aa xs 0) bf fun t38 =>
 ae t38 true (fun k=>k a2 M_0 none) (fun k=>k .undef M_0 none) fun t40 M_2 b =>
 ae t38 true (fun k_3=>k_3 a0 M_2 none) (fun k=>k .undef M_2 none) fun t41 M_4 b_5 =>
 ae t38 true (fun k_6=>k_6 (aa xs 0) M_4 none) (fun k=>k .undef M_4 none) fun t42 M_7 b_8 =>
 ae t38 true (fun k_9=>ax t41 t42 5 fun t43 =>
 k_9 t43 M_7 none) (fun k=>k .undef M_7 none) fun t43_10 M_11 b_12 =>
 ae t38 true (fun k_13=>aH M_11 t43_10 5 fun t44 =>
 k_13 t44 M_11 none) (fun k=>k .undef M_11 none) fun t44_14 M_15 b_16 =>
 ae t38 true (fun k_17=>aH M_15 t4 5 fun t45 =>
 k_17 t45 M_15 none) (fun k=>k .undef M_15 none) fun t45_18 M_19 b_20 =>
 au t38 true (fun k_21=>dZ cv t40 [t44_14,t45_18] M_19 fun t46 M_22 =>
 k_21 t46 M_22) (fun k=>k .undef M_19) fun t46_23 M_24 =>
 ae t38 true (fun k_25=>af .eql t46_23 (N .i64 0) fun t47 =>
 k_25 t47 M_24 none) (fun k=>k .undef M_24 none) fun t47_26 M_27 b_28 =>
 aP t38 t47_26 (Bo false) fun t48 =>
 Q (.tup [(aa xs 0),t48]) M_27)) [(N .i64 0),bf] M
def qJ (p1:av) (a0 a1:AV) (M0:RM) (Q:ai) : Prop :=
 p1 [a0] M0 fun t8 M =>
 p1 [a1] M fun bQ M_0 =>
 aA t8 (
 aA bQ (
 Q (N .i64 0) M_0) (
 Q (N .i64 (-1)) M_0)) (
 aA bQ (
 Q (N .i64 1) M_0) (
 af .lss a0 a1 fun t16 =>
 aA t16 (
 Q (N .i64 (-1)) M_0) (
 af .gtr a0 a1 fun t19 =>
 aA t19 (
 Q (N .i64 1) M_0) (
 Q (N .i64 0) M_0))))
def ve (p1:av) (a0 a1:AV) (M0:RM) (Q:ai) : Prop :=
 p1 [a0] M0 fun t8 M =>
 p1 [a1] M fun bQ M_0 =>
 aA t8 (
 aA bQ (
 Q (N .i64 0) M_0) (
 Q (N .i64 (-1)) M_0)) (
 aA bQ (
 Q (N .i64 1) M_0) (
 af .lss a0 a1 fun t16 =>
 aA t16 (
 Q (N .i64 (-1)) M_0) (
 af .gtr a0 a1 fun t19 =>
 aA t19 (
 Q (N .i64 1) M_0) (
 Q (N .i64 0) M_0))))
def fC (cv:(FuncId→av)) (a0 a1 a2 a3:AV) (M0:RM) (Q:ai) : Prop :=
 af .add a1 (N .i64 1) fun bT =>
 aU (fun next xs M =>
 af .lss (aa xs 0) a2 fun t14 =>
 aA t14 (
 aU (fun next_0 xs_1 M_2 =>
 af .gtr (aa xs_1 0) a1 fun t20 =>
 ae t20 true (fun k=>k a3 M_2 none) (fun k=>k .undef M_2 none) fun t22 M_3 b =>
 ae t20 true (fun k_4=>k_4 a0 M_3 none) (fun k=>k .undef M_3 none) fun t23 M_5 b_6 =>
 ae t20 true (fun k_7=>k_7 (aa xs_1 0) M_5 none) (fun k=>k .undef M_5 none) fun t24 M_8 b_9 =>
 ae t20 true (fun k_10=>ax t23 t24 5 fun t25 =>
 k_10 t25 M_8 none) (fun k=>k .undef M_8 none) fun t25_11 M_12 b_13 =>
 ae t20 true (fun k_14=>aH M_12 t25_11 5 fun t26 =>
 k_14 t26 M_12 none) (fun k=>k .undef M_12 none) fun t26_15 M_16 b_17 =>
 ae t20 true (fun k_18=>k_18 a0 M_16 none) (fun k=>k .undef M_16 none) fun t27 M_19 b_20 =>
 ae t20 true (fun k_21=>k_21 (aa xs_1 0) M_19 none) (fun k=>k .undef M_19 none) fun t28 M_22 b_23 =>
 ae t20 true (fun k_24=>af .sub t28 (N .i64 1) fun t29 =>
 k_24 t29 M_22 none) (fun k=>k .undef M_22 none) fun t29_25 M_26 b_27 =>
 ae t20 true (fun k_28=>ax t27 t29_25 5 fun t30 =>
 k_28 t30 M_26 none) (fun k=>k .undef M_26 none) fun t30_29 M_30 b_31 =>
 ae t20 true (fun k_32=>aH M_30 t30_29 5 fun t31 =>
 k_32 t31 M_30 none) (fun k=>k .undef M_30 none) fun t31_33 M_34 b_35 =>
 au t20 true (fun k_36=>dZ cv t22 [t26_15,t31_33] M_34 fun t32 M_37 =>
 k_36 t32 M_37) (fun k=>k .undef M_34) fun t32_38 M_39 =>
 ae t20 true (fun k_40=>af .lss t32_38 (N .i64 0) fun t33 =>
 k_40 t33 M_39 none) (fun k=>k .undef M_39 none) fun t33_41 M_42 b_43 =>
 aP t20 t33_41 (Bo false) fun t34 =>
 aA t34 (
 af .sub (aa xs_1 0) (N .i64 1) fun t41 =>
 af .sub (aa xs_1 0) (N .i64 1) fun t44 =>
 ax a0 t44 5 fun t45 =>
 aH M_42 t45 5 fun t46 =>
 ax a0 (aa xs_1 0) 5 fun t49 =>
 aH M_42 t49 5 fun t50 =>
 ax a0 (aa xs_1 0) 5 fun t51 =>
 aN M_42 t51 t46 5 fun M_44 =>
 ax a0 t41 5 fun t52 =>
 aN M_44 t52 t50 5 fun M_45 =>
 af .sub (aa xs_1 0) (N .i64 1) fun t36 =>
 next_0 [t36] M_45) (
 af .add (aa xs 0) (N .i64 1) fun t16 =>
 next [t16] M_42)) [(aa xs 0)] M) (
 Q (.tup []) M)) [bT] M0
def lh (p1:av) (a0 a1 a2 a3:AV) (M0:RM) (Q:ai) : Prop :=
 af .sub a2 a1 fun t16 =>
 af .sub t16 (N .i64 1) fun t18 =>
 af .quo t18 (N .i64 2) fun t19 =>
 aU (fun next xs M =>
 af .geq (aa xs 0) (N .i64 0) fun t21 =>
 aA t21 (
 p1 [a0,(aa xs 0),t16,a1,a3] M fun t29 M_0 =>
 af .sub (aa xs 0) (N .i64 1) fun t23 =>
 next [t23] M_0) (
 af .sub t16 (N .i64 1) fun t31 =>
 aU (fun next_1 xs_2 M_3 =>
 af .geq (aa xs_2 0) (N .i64 0) fun t33 =>
 aA t33 (
 af .add a1 (aa xs_2 0) fun t41 =>
 af .add a1 (aa xs_2 0) fun t45 =>
 ax a0 t45 5 fun t46 =>
 aH M_3 t46 5 fun t47 =>
 ax a0 a1 5 fun t50 =>
 aH M_3 t50 5 fun t51 =>
 ax a0 a1 5 fun t52 =>
 aN M_3 t52 t47 5 fun M_4 =>
 ax a0 t41 5 fun t53 =>
 aN M_4 t53 t51 5 fun M_5 =>
 p1 [a0,(N .i64 0),(aa xs_2 0),a1,a3] M_5 fun t59 M_6 =>
 af .sub (aa xs_2 0) (N .i64 1) fun t35 =>
 next_1 [t35] M_6) (
 Q (.tup []) M_3)) [t31] M)) [t19] M0
def jv (p1:Nat) (p2 p3:av) (a0 a1 a2 a3:AV) (M0:RM) (Q:ai) : Prop :=
 af .sub a2 a1 fun t15 =>
 af .geq t15 (N .i64 8) fun t17 =>
 aA t17 (
 gp .u64 t15 fun t19 =>
 bY (.row [(N .u64 0)] false p1 0) (fun b=>.ptr b 0) M0 fun t9 M =>
 aN M t9 t19 1 fun M_0 =>
 p2 [t15] M_0 fun t21 M_1 =>
 af .quo t15 (N .i64 4) fun t24 =>
 af .mul t24 (N .i64 2) fun t25 =>
 af .add a1 t25 fun t26 =>
 af .sub t26 (N .i64 1) fun t27 =>
 aU (fun next xs M_2 =>
 af .quo t15 (N .i64 4) fun t31 =>
 af .mul t31 (N .i64 2) fun t32 =>
 af .add a1 t32 fun t33 =>
 af .add t33 (N .i64 1) fun t34 =>
 af .leq (aa xs 0) t34 fun t35 =>
 aA t35 (
 dE (fun J =>
 p3 [t9] M_2 fun t38 M_3 =>
 af .sub t21 (N .u64 1) fun t40 =>
 af .and t38 t40 fun t41 =>
 gp .i64 t41 fun t42 =>
 dE (fun J_4 =>
 af .geq t42 t15 fun t45 =>
 aA t45 (
 af .sub t42 t15 fun t48 =>
 J_4 [t48] M_3) (
 J_4 [t42] M_3)) (fun xs_5 M_6 =>
 af .add a1 (aa xs_5 0) fun t54 =>
 af .add a1 (aa xs_5 0) fun t58 =>
 ax a0 t58 5 fun t59 =>
 aH M_6 t59 5 fun t60 =>
 ax a0 (aa xs 0) 5 fun t63 =>
 aH M_6 t63 5 fun t64 =>
 ax a0 (aa xs 0) 5 fun t65 =>
 aN M_6 t65 t60 5 fun M_7 =>
 ax a0 t54 5 fun t66 =>
 aN M_7 t66 t64 5 fun M_8 =>
 J [] M_8)) (fun xs_9 M_10 =>
 af .add (aa xs 0) (N .i64 1) fun t37 =>
 next [t37] M_10)) (
 Q (.tup []) M_2)) [t27] M_1) (
 Q (.tup []) M0)
def jT (p1:Nat) (p2 p3:av) (a0 a1 a2 a3:AV) (M0:RM) (Q:ai) : Prop :=
 af .sub a2 a1 fun t17 =>
 bY (.row [(N .i64 0)] false p1 0) (fun b=>.ptr b 0) M0 fun bT M =>
 af .quo t17 (N .i64 4) fun t20 =>
 af .mul t20 (N .i64 1) fun t21 =>
 af .add a1 t21 fun t22 =>
 af .quo t17 (N .i64 4) fun t25 =>
 af .mul t25 (N .i64 2) fun t26 =>
 af .add a1 t26 fun t27 =>
 af .quo t17 (N .i64 4) fun t30 =>
 af .mul t30 (N .i64 3) fun t31 =>
 af .add a1 t31 fun t32 =>
 dE (fun J =>
 af .geq t17 (N .i64 8) fun t34 =>
 aA t34 (
 dE (fun J_0 =>
 af .geq t17 (N .i64 50) fun t36 =>
 aA t36 (
 p2 [a0,t22,bT,a3] M fun t40 M_1 =>
 p2 [a0,t27,bT,a3] M_1 fun t44 M_2 =>
 p2 [a0,t32,bT,a3] M_2 fun t48 M_3 =>
 J_0 [t40,t44,t48] M_3) (
 J_0 [t22,t27,t32] M)) (fun xs M_4 =>
 p3 [a0,(aa xs 0),(aa xs 1),(aa xs 2),bT,a3] M_4 fun t54 M_5 =>
 J [t54] M_5)) (
 J [t27] M)) (fun xs_6 M_7 =>
 aj M_7 bT fun t55 =>
 af .eql t55 (N .i64 0) fun t58 =>
 aA t58 (
 Q (.tup [(aa xs_6 0),(N .i64 1)]) M_7) (
 af .eql t55 (N .i64 12) fun t61 =>
 aA t61 (
 Q (.tup [(aa xs_6 0),(N .i64 2)]) M_7) (
 Q (.tup [(aa xs_6 0),(N .i64 0)]) M_7)))
def jK (a0 a1 a2 a3:AV) (M0:RM) (Q:ai) : Prop :=
 af .sub a2 (N .i64 1) fun t12 =>
 aU (fun next xs M =>
 af .lss (aa xs 0) (aa xs 1) fun t15 =>
 aA t15 (
 ax a0 (aa xs 1) 5 fun t22 =>
 aH M t22 5 fun t23 =>
 ax a0 (aa xs 0) 5 fun t26 =>
 aH M t26 5 fun t27 =>
 ax a0 (aa xs 0) 5 fun t28 =>
 aN M t28 t23 5 fun M_0 =>
 ax a0 (aa xs 1) 5 fun t29 =>
 aN M_0 t29 t27 5 fun M_1 =>
 af .add (aa xs 0) (N .i64 1) fun t31 =>
 af .sub (aa xs 1) (N .i64 1) fun t33 =>
 next [t31,t33] M_1) (
 Q (.tup []) M)) [a1,t12] M0
def gL (cv:(FuncId→av)) (a0 a1 a2 a3:AV) (M0:RM) (Q:ai) : Prop :=
 af .add a1 (N .i64 1) fun t14 =>
 aU (fun next xs M =>
 af .lss (aa xs 1) (N .i64 5) fun t16 =>
 aA t16 (
 dE (fun J =>
 aU (fun next_0 xs_1 M_2 =>
 af .lss (aa xs_1 0) a2 fun t21 =>
 ae t21 true (fun k=>k a3 M_2 none) (fun k=>k .undef M_2 none) fun t23 M_3 b =>
 ae t21 true (fun k_4=>k_4 a0 M_3 none) (fun k=>k .undef M_3 none) fun t24 M_5 b_6 =>
 ae t21 true (fun k_7=>k_7 (aa xs_1 0) M_5 none) (fun k=>k .undef M_5 none) fun t25 M_8 b_9 =>
 ae t21 true (fun k_10=>ax t24 t25 5 fun t26 =>
 k_10 t26 M_8 none) (fun k=>k .undef M_8 none) fun t26_11 M_12 b_13 =>
 ae t21 true (fun k_14=>aH M_12 t26_11 5 fun t27 =>
 k_14 t27 M_12 none) (fun k=>k .undef M_12 none) fun t27_15 M_16 b_17 =>
 ae t21 true (fun k_18=>k_18 a0 M_16 none) (fun k=>k .undef M_16 none) fun t28 M_19 b_20 =>
 ae t21 true (fun k_21=>k_21 (aa xs_1 0) M_19 none) (fun k=>k .undef M_19 none) fun t29 M_22 b_23 =>
 ae t21 true (fun k_24=>af .sub t29 (N .i64 1) fun t30 =>
 k_24 t30 M_22 none) (fun k=>k .undef M_22 none) fun t30_25 M_26 b_27 =>
 ae t21 true (fun k_28=>ax t28 t30_25 5 fun t31 =>
 k_28 t31 M_26 none) (fun k=>k .undef M_26 none) fun t31_29 M_30 b_31 =>
 ae t21 true (fun k_32=>aH M_30 t31_29 5 fun t32 =>
 k_32 t32 M_30 none) (fun k=>k .undef M_30 none) fun t32_33 M_34 b_35 =>
 au t21 true (fun k_36=>dZ cv t23 [t27_15,t32_33] M_34 fun t33 M_37 =>
 k_36 t33 M_37) (fun k=>k .undef M_34) fun t33_38 M_39 =>
 ae t21 true (fun k_40=>af .lss t33_38 (N .i64 0) fun t34 =>
 k_40 t34 M_39 none) (fun k=>k .undef M_39 none) fun t34_41 M_42 b_43 =>
 ae t21 true (fun k_44=>dU t34_41 fun t35 =>
 k_44 t35 M_42 none) (fun k=>k .undef M_42 none) fun t35_45 M_46 b_47 =>
 aP t21 t35_45 (Bo false) fun t36 =>
 aA t36 (
 af .add (aa xs_1 0) (N .i64 1) fun t38 =>
 next_0 [t38] M_46) (
 af .eql (aa xs_1 0) a2 fun t41 =>
 aA t41 (
 Q (Bo true) M_46) (
 af .sub a2 a1 fun t44 =>
 af .lss t44 (N .i64 50) fun t45 =>
 aA t45 (
 Q (Bo false) M_46) (
 af .sub (aa xs_1 0) (N .i64 1) fun t50 =>
 af .sub (aa xs_1 0) (N .i64 1) fun t53 =>
 ax a0 t53 5 fun t54 =>
 aH M_46 t54 5 fun t55 =>
 ax a0 (aa xs_1 0) 5 fun t58 =>
 aH M_46 t58 5 fun t59 =>
 ax a0 (aa xs_1 0) 5 fun t60 =>
 aN M_46 t60 t55 5 fun M_48 =>
 ax a0 t50 5 fun t61 =>
 aN M_48 t61 t59 5 fun M_49 =>
 dE (fun J_50 =>
 af .sub (aa xs_1 0) a1 fun t64 =>
 af .geq t64 (N .i64 2) fun t65 =>
 aA t65 (
 af .sub (aa xs_1 0) (N .i64 1) fun t67 =>
 aU (fun next_51 xs_52 M_53 =>
 af .geq (aa xs_52 0) (N .i64 1) fun t69 =>
 aA t69 (
 ax a0 (aa xs_52 0) 5 fun t75 =>
 aH M_53 t75 5 fun t76 =>
 af .sub (aa xs_52 0) (N .i64 1) fun t79 =>
 ax a0 t79 5 fun t80 =>
 aH M_53 t80 5 fun t81 =>
 dZ cv a3 [t76,t81] M_53 fun t82 M_54 =>
 af .lss t82 (N .i64 0) fun t83 =>
 dU t83 fun t84 =>
 aA t84 (
 J_50 [] M_54) (
 af .sub (aa xs_52 0) (N .i64 1) fun t89 =>
 af .sub (aa xs_52 0) (N .i64 1) fun t92 =>
 ax a0 t92 5 fun t93 =>
 aH M_54 t93 5 fun t94 =>
 ax a0 (aa xs_52 0) 5 fun t97 =>
 aH M_54 t97 5 fun t98 =>
 ax a0 (aa xs_52 0) 5 fun t99 =>
 aN M_54 t99 t94 5 fun M_55 =>
 ax a0 t89 5 fun t100 =>
 aN M_55 t100 t98 5 fun M_56 =>
 af .sub (aa xs_52 0) (N .i64 1) fun t71 =>
 next_51 [t71] M_56)) (
 J_50 [] M_53)) [t67] M_49) (
 J_50 [] M_49)) (fun xs_57 M_58 =>
 af .sub a2 (aa xs_1 0) fun t103 =>
 af .geq t103 (N .i64 2) fun t104 =>
 aA t104 (
 af .add (aa xs_1 0) (N .i64 1) fun t106 =>
 aU (fun next_59 xs_60 M_61 =>
 af .lss (aa xs_60 0) a2 fun t109 =>
 aA t109 (
 ax a0 (aa xs_60 0) 5 fun t115 =>
 aH M_61 t115 5 fun t116 =>
 af .sub (aa xs_60 0) (N .i64 1) fun t119 =>
 ax a0 t119 5 fun t120 =>
 aH M_61 t120 5 fun t121 =>
 dZ cv a3 [t116,t121] M_61 fun t122 M_62 =>
 af .lss t122 (N .i64 0) fun t123 =>
 dU t123 fun t124 =>
 aA t124 (
 J [(aa xs_1 0)] M_62) (
 af .sub (aa xs_60 0) (N .i64 1) fun t129 =>
 af .sub (aa xs_60 0) (N .i64 1) fun t132 =>
 ax a0 t132 5 fun t133 =>
 aH M_62 t133 5 fun t134 =>
 ax a0 (aa xs_60 0) 5 fun t137 =>
 aH M_62 t137 5 fun t138 =>
 ax a0 (aa xs_60 0) 5 fun t139 =>
 aN M_62 t139 t134 5 fun M_63 =>
 ax a0 t129 5 fun t140 =>
 aN M_63 t140 t138 5 fun M_64 =>
 af .add (aa xs_60 0) (N .i64 1) fun t111 =>
 next_59 [t111] M_64)) (
 J [(aa xs_1 0)] M_61)) [t106] M_58) (
 J [(aa xs_1 0)] M_58)))))) [(aa xs 0)] M) (fun xs_65 M_66 =>
 af .add (aa xs 1) (N .i64 1) fun t18 =>
 next [(aa xs_65 0),t18] M_66)) (
 Q (Bo false) M)) [t14,(N .i64 0)] M0
def jb (cv:(FuncId→av)) (a0 a1 a2 a3 a4:AV) (M0:RM) (Q:ai) : Prop :=
 ax a0 a3 5 fun t19 =>
 aH M0 t19 5 fun t20 =>
 ax a0 a1 5 fun t23 =>
 aH M0 t23 5 fun t24 =>
 ax a0 a1 5 fun t25 =>
 aN M0 t25 t20 5 fun M =>
 ax a0 a3 5 fun t26 =>
 aN M t26 t24 5 fun M_0 =>
 af .add a1 (N .i64 1) fun t28 =>
 af .sub a2 (N .i64 1) fun t30 =>
 aU (fun next xs M_1 =>
 aU (fun next_2 xs_3 M_4 =>
 af .leq (aa xs_3 0) (aa xs 1) fun t33 =>
 ae t33 true (fun k=>k a4 M_4 none) (fun k=>k .undef M_4 none) fun t35 M_5 b =>
 ae t33 true (fun k_6=>k_6 a0 M_5 none) (fun k=>k .undef M_5 none) fun t36 M_7 b_8 =>
 ae t33 true (fun k_9=>k_9 a1 M_7 none) (fun k=>k .undef M_7 none) fun t37 M_10 b_11 =>
 ae t33 true (fun k_12=>ax t36 t37 5 fun t38 =>
 k_12 t38 M_10 none) (fun k=>k .undef M_10 none) fun t38_13 M_14 b_15 =>
 ae t33 true (fun k_16=>aH M_14 t38_13 5 fun t39 =>
 k_16 t39 M_14 none) (fun k=>k .undef M_14 none) fun t39_17 M_18 b_19 =>
 ae t33 true (fun k_20=>k_20 a0 M_18 none) (fun k=>k .undef M_18 none) fun t40 M_21 b_22 =>
 ae t33 true (fun k_23=>k_23 (aa xs_3 0) M_21 none) (fun k=>k .undef M_21 none) fun t41 M_24 b_25 =>
 ae t33 true (fun k_26=>ax t40 t41 5 fun t42 =>
 k_26 t42 M_24 none) (fun k=>k .undef M_24 none) fun t42_27 M_28 b_29 =>
 ae t33 true (fun k_30=>aH M_28 t42_27 5 fun t43 =>
 k_30 t43 M_28 none) (fun k=>k .undef M_28 none) fun t43_31 M_32 b_33 =>
 au t33 true (fun k_34=>dZ cv t35 [t39_17,t43_31] M_32 fun t44 M_35 =>
 k_34 t44 M_35) (fun k=>k .undef M_32) fun t44_36 M_37 =>
 ae t33 true (fun k_38=>af .lss t44_36 (N .i64 0) fun t45 =>
 k_38 t45 M_37 none) (fun k=>k .undef M_37 none) fun t45_39 M_40 b_41 =>
 ae t33 true (fun k_42=>dU t45_39 fun t46 =>
 k_42 t46 M_40 none) (fun k=>k .undef M_40 none) fun t46_43 M_44 b_45 =>
 aP t33 t46_43 (Bo false) fun t47 =>
 aA t47 (
 af .add (aa xs_3 0) (N .i64 1) fun t49 =>
 next_2 [t49] M_44) (
 aU (fun next_46 xs_47 M_48 =>
 af .leq (aa xs_3 0) (aa xs_47 0) fun t52 =>
 ae t52 true (fun k_49=>k_49 a4 M_48 none) (fun k=>k .undef M_48 none) fun t54 M_50 b_51 =>
 ae t52 true (fun k_52=>k_52 a0 M_50 none) (fun k=>k .undef M_50 none) fun t55 M_53 b_54 =>
 ae t52 true (fun k_55=>k_55 a1 M_53 none) (fun k=>k .undef M_53 none) fun t56 M_56 b_57 =>
 ae t52 true (fun k_58=>ax t55 t56 5 fun t57 =>
 k_58 t57 M_56 none) (fun k=>k .undef M_56 none) fun t57_59 M_60 b_61 =>
 ae t52 true (fun k_62=>aH M_60 t57_59 5 fun t58 =>
 k_62 t58 M_60 none) (fun k=>k .undef M_60 none) fun t58_63 M_64 b_65 =>
 ae t52 true (fun k_66=>k_66 a0 M_64 none) (fun k=>k .undef M_64 none) fun t59 M_67 b_68 =>
 ae t52 true (fun k_69=>k_69 (aa xs_47 0) M_67 none) (fun k=>k .undef M_67 none) fun t60 M_70 b_71 =>
 ae t52 true (fun k_72=>ax t59 t60 5 fun t61 =>
 k_72 t61 M_70 none) (fun k=>k .undef M_70 none) fun t61_73 M_74 b_75 =>
 ae t52 true (fun k_76=>aH M_74 t61_73 5 fun t62 =>
 k_76 t62 M_74 none) (fun k=>k .undef M_74 none) fun t62_77 M_78 b_79 =>
 au t52 true (fun k_80=>dZ cv t54 [t58_63,t62_77] M_78 fun t63 M_81 =>
 k_80 t63 M_81) (fun k=>k .undef M_78) fun t63_82 M_83 =>
 ae t52 true (fun k_84=>af .lss t63_82 (N .i64 0) fun t64 =>
 k_84 t64 M_83 none) (fun k=>k .undef M_83 none) fun t64_85 M_86 b_87 =>
 aP t52 t64_85 (Bo false) fun t65 =>
 aA t65 (
 af .sub (aa xs_47 0) (N .i64 1) fun t67 =>
 next_46 [t67] M_86) (
 af .gtr (aa xs_3 0) (aa xs_47 0) fun t70 =>
 aA t70 (
 Q (aa xs_3 0) M_86) (
 ax a0 (aa xs_47 0) 5 fun t77 =>
 aH M_86 t77 5 fun t78 =>
 ax a0 (aa xs_3 0) 5 fun t81 =>
 aH M_86 t81 5 fun t82 =>
 ax a0 (aa xs_3 0) 5 fun t83 =>
 aN M_86 t83 t78 5 fun M_88 =>
 ax a0 (aa xs_47 0) 5 fun t84 =>
 aN M_88 t84 t82 5 fun M_89 =>
 af .add (aa xs_3 0) (N .i64 1) fun t86 =>
 af .sub (aa xs_47 0) (N .i64 1) fun t88 =>
 next [t86,t88] M_89))) [(aa xs 1)] M_44)) [(aa xs 0)] M_1) [t28,t30] M_0
def kJ (cv:(FuncId→av)) (a0 a1 a2 a3 a4:AV) (M0:RM) (Q:ai) : Prop :=
 ax a0 a3 5 fun t20 =>
 aH M0 t20 5 fun t21 =>
 ax a0 a1 5 fun t24 =>
 aH M0 t24 5 fun t25 =>
 ax a0 a1 5 fun t26 =>
 aN M0 t26 t21 5 fun M =>
 ax a0 a3 5 fun t27 =>
 aN M t27 t25 5 fun M_0 =>
 af .add a1 (N .i64 1) fun t29 =>
 af .sub a2 (N .i64 1) fun t31 =>
 aU (fun next xs M_1 =>
 af .leq (aa xs 0) t31 fun t34 =>
 ae t34 true (fun k=>k a4 M_1 none) (fun k=>k .undef M_1 none) fun t36 M_2 b =>
 ae t34 true (fun k_3=>k_3 a0 M_2 none) (fun k=>k .undef M_2 none) fun t37 M_4 b_5 =>
 ae t34 true (fun k_6=>k_6 (aa xs 0) M_4 none) (fun k=>k .undef M_4 none) fun t38 M_7 b_8 =>
 ae t34 true (fun k_9=>ax t37 t38 5 fun t39 =>
 k_9 t39 M_7 none) (fun k=>k .undef M_7 none) fun t39_10 M_11 b_12 =>
 ae t34 true (fun k_13=>aH M_11 t39_10 5 fun t40 =>
 k_13 t40 M_11 none) (fun k=>k .undef M_11 none) fun t40_14 M_15 b_16 =>
 ae t34 true (fun k_17=>k_17 a0 M_15 none) (fun k=>k .undef M_15 none) fun t41 M_18 b_19 =>
 ae t34 true (fun k_20=>k_20 a1 M_18 none) (fun k=>k .undef M_18 none) fun t42 M_21 b_22 =>
 ae t34 true (fun k_23=>ax t41 t42 5 fun t43 =>
 k_23 t43 M_21 none) (fun k=>k .undef M_21 none) fun t43_24 M_25 b_26 =>
 ae t34 true (fun k_27=>aH M_25 t43_24 5 fun t44 =>
 k_27 t44 M_25 none) (fun k=>k .undef M_25 none) fun t44_28 M_29 b_30 =>
 au t34 true (fun k_31=>dZ cv t36 [t40_14,t44_28] M_29 fun t45 M_32 =>
 k_31 t45 M_32) (fun k=>k .undef M_29) fun t45_33 M_34 =>
 ae t34 true (fun k_35=>af .lss t45_33 (N .i64 0) fun t46 =>
 k_35 t46 M_34 none) (fun k=>k .undef M_34 none) fun t46_36 M_37 b_38 =>
 aP t34 t46_36 (Bo false) fun t47 =>
 aA t47 (
 af .add (aa xs 0) (N .i64 1) fun t49 =>
 next [t49] M_37) (
 aU (fun next_39 xs_40 M_41 =>
 af .leq (aa xs 0) (aa xs_40 0) fun t52 =>
 ae t52 true (fun k_42=>k_42 a4 M_41 none) (fun k=>k .undef M_41 none) fun t54 M_43 b_44 =>
 ae t52 true (fun k_45=>k_45 a0 M_43 none) (fun k=>k .undef M_43 none) fun t55 M_46 b_47 =>
 ae t52 true (fun k_48=>k_48 (aa xs_40 0) M_46 none) (fun k=>k .undef M_46 none) fun t56 M_49 b_50 =>
 ae t52 true (fun k_51=>ax t55 t56 5 fun t57 =>
 k_51 t57 M_49 none) (fun k=>k .undef M_49 none) fun t57_52 M_53 b_54 =>
 ae t52 true (fun k_55=>aH M_53 t57_52 5 fun t58 =>
 k_55 t58 M_53 none) (fun k=>k .undef M_53 none) fun t58_56 M_57 b_58 =>
 ae t52 true (fun k_59=>k_59 a0 M_57 none) (fun k=>k .undef M_57 none) fun t59 M_60 b_61 =>
 ae t52 true (fun k_62=>k_62 a1 M_60 none) (fun k=>k .undef M_60 none) fun t60 M_63 b_64 =>
 ae t52 true (fun k_65=>ax t59 t60 5 fun t61 =>
 k_65 t61 M_63 none) (fun k=>k .undef M_63 none) fun t61_66 M_67 b_68 =>
 ae t52 true (fun k_69=>aH M_67 t61_66 5 fun t62 =>
 k_69 t62 M_67 none) (fun k=>k .undef M_67 none) fun t62_70 M_71 b_72 =>
 au t52 true (fun k_73=>dZ cv t54 [t58_56,t62_70] M_71 fun t63 M_74 =>
 k_73 t63 M_74) (fun k=>k .undef M_71) fun t63_75 M_76 =>
 ae t52 true (fun k_77=>af .lss t63_75 (N .i64 0) fun t64 =>
 k_77 t64 M_76 none) (fun k=>k .undef M_76 none) fun t64_78 M_79 b_80 =>
 ae t52 true (fun k_81=>dU t64_78 fun t65 =>
 k_81 t65 M_79 none) (fun k=>k .undef M_79 none) fun t65_82 M_83 b_84 =>
 aP t52 t65_82 (Bo false) fun t66 =>
 aA t66 (
 af .sub (aa xs_40 0) (N .i64 1) fun t68 =>
 next_39 [t68] M_83) (
 af .gtr (aa xs 0) (aa xs_40 0) fun t71 =>
 aA t71 (
 ax a0 a1 5 fun t78 =>
 aH M_83 t78 5 fun t79 =>
 ax a0 (aa xs_40 0) 5 fun t82 =>
 aH M_83 t82 5 fun t83 =>
 ax a0 (aa xs_40 0) 5 fun t84 =>
 aN M_83 t84 t79 5 fun M_85 =>
 ax a0 a1 5 fun t85 =>
 aN M_85 t85 t83 5 fun M_86 =>
 Q (.tup [(aa xs_40 0),(Bo true)]) M_86) (
 ax a0 (aa xs_40 0) 5 fun t93 =>
 aH M_83 t93 5 fun t94 =>
 ax a0 (aa xs 0) 5 fun t97 =>
 aH M_83 t97 5 fun t98 =>
 ax a0 (aa xs 0) 5 fun t99 =>
 aN M_83 t99 t94 5 fun M_87 =>
 ax a0 (aa xs_40 0) 5 fun t100 =>
 aN M_87 t100 t98 5 fun M_88 =>
 af .add (aa xs 0) (N .i64 1) fun t102 =>
 af .sub (aa xs_40 0) (N .i64 1) fun t104 =>
 aU (fun next_89 xs_90 M_91 =>
 aU (fun next_92 xs_93 M_94 =>
 af .leq (aa xs_93 0) (aa xs_90 1) fun t107 =>
 ae t107 true (fun k_95=>k_95 a4 M_94 none) (fun k=>k .undef M_94 none) fun t109 M_96 b_97 =>
 ae t107 true (fun k_98=>k_98 a0 M_96 none) (fun k=>k .undef M_96 none) fun t110 M_99 b_100 =>
 ae t107 true (fun k_101=>k_101 (aa xs_93 0) M_99 none) (fun k=>k .undef M_99 none) fun t111 M_102 b_103 =>
 ae t107 true (fun k_104=>ax t110 t111 5 fun t112 =>
 k_104 t112 M_102 none) (fun k=>k .undef M_102 none) fun t112_105 M_106 b_107 =>
 ae t107 true (fun k_108=>aH M_106 t112_105 5 fun t113 =>
 k_108 t113 M_106 none) (fun k=>k .undef M_106 none) fun t113_109 M_110 b_111 =>
 ae t107 true (fun k_112=>k_112 a0 M_110 none) (fun k=>k .undef M_110 none) fun t114 M_113 b_114 =>
 ae t107 true (fun k_115=>k_115 a1 M_113 none) (fun k=>k .undef M_113 none) fun t115 M_116 b_117 =>
 ae t107 true (fun k_118=>ax t114 t115 5 fun t116 =>
 k_118 t116 M_116 none) (fun k=>k .undef M_116 none) fun t116_119 M_120 b_121 =>
 ae t107 true (fun k_122=>aH M_120 t116_119 5 fun t117 =>
 k_122 t117 M_120 none) (fun k=>k .undef M_120 none) fun t117_123 M_124 b_125 =>
 au t107 true (fun k_126=>dZ cv t109 [t113_109,t117_123] M_124 fun t118 M_127 =>
 k_126 t118 M_127) (fun k=>k .undef M_124) fun t118_128 M_129 =>
 ae t107 true (fun k_130=>af .lss t118_128 (N .i64 0) fun t119 =>
 k_130 t119 M_129 none) (fun k=>k .undef M_129 none) fun t119_131 M_132 b_133 =>
 aP t107 t119_131 (Bo false) fun t120 =>
 aA t120 (
 af .add (aa xs_93 0) (N .i64 1) fun t122 =>
 next_92 [t122] M_132) (
 aU (fun next_134 xs_135 M_136 =>
 af .leq (aa xs_93 0) (aa xs_135 0) fun t125 =>
 ae t125 true (fun k_137=>k_137 a4 M_136 none) (fun k=>k .undef M_136 none) fun t127 M_138 b_139 =>
 ae t125 true (fun k_140=>k_140 a0 M_138 none) (fun k=>k .undef M_138 none) fun t128 M_141 b_142 =>
 ae t125 true (fun k_143=>k_143 (aa xs_135 0) M_141 none) (fun k=>k .undef M_141 none) fun t129 M_144 b_145 =>
 ae t125 true (fun k_146=>ax t128 t129 5 fun t130 =>
 k_146 t130 M_144 none) (fun k=>k .undef M_144 none) fun t130_147 M_148 b_149 =>
 ae t125 true (fun k_150=>aH M_148 t130_147 5 fun t131 =>
 k_150 t131 M_148 none) (fun k=>k .undef M_148 none) fun t131_151 M_152 b_153 =>
 ae t125 true (fun k_154=>k_154 a0 M_152 none) (fun k=>k .undef M_152 none) fun t132 M_155 b_156 =>
 ae t125 true (fun k_157=>k_157 a1 M_155 none) (fun k=>k .undef M_155 none) fun t133 M_158 b_159 =>
 ae t125 true (fun k_160=>ax t132 t133 5 fun t134 =>
 k_160 t134 M_158 none) (fun k=>k .undef M_158 none) fun t134_161 M_162 b_163 =>
 ae t125 true (fun k_164=>aH M_162 t134_161 5 fun t135 =>
 k_164 t135 M_162 none) (fun k=>k .undef M_162 none) fun t135_165 M_166 b_167 =>
 au t125 true (fun k_168=>dZ cv t127 [t131_151,t135_165] M_166 fun t136 M_169 =>
 k_168 t136 M_169) (fun k=>k .undef M_166) fun t136_170 M_171 =>
 ae t125 true (fun k_172=>af .lss t136_170 (N .i64 0) fun t137 =>
 k_172 t137 M_171 none) (fun k=>k .undef M_171 none) fun t137_173 M_174 b_175 =>
 ae t125 true (fun k_176=>dU t137_173 fun t138 =>
 k_176 t138 M_174 none) (fun k=>k .undef M_174 none) fun t138_177 M_178 b_179 =>
 aP t125 t138_177 (Bo false) fun t139 =>
 aA t139 (
 af .sub (aa xs_135 0) (N .i64 1) fun t141 =>
 next_134 [t141] M_178) (
 af .gtr (aa xs_93 0) (aa xs_135 0) fun t144 =>
 aA t144 (
 ax a0 a1 5 fun t169 =>
 aH M_178 t169 5 fun t170 =>
 ax a0 (aa xs_135 0) 5 fun t173 =>
 aH M_178 t173 5 fun t174 =>
 ax a0 (aa xs_135 0) 5 fun t175 =>
 aN M_178 t175 t170 5 fun M_180 =>
 ax a0 a1 5 fun t176 =>
 aN M_180 t176 t174 5 fun M_181 =>
 Q (.tup [(aa xs_135 0),(Bo false)]) M_181) (
 ax a0 (aa xs_135 0) 5 fun t151 =>
 aH M_178 t151 5 fun t152 =>
 ax a0 (aa xs_93 0) 5 fun t155 =>
 aH M_178 t155 5 fun t156 =>
 ax a0 (aa xs_93 0) 5 fun t157 =>
 aN M_178 t157 t152 5 fun M_182 =>
 ax a0 (aa xs_135 0) 5 fun t158 =>
 aN M_182 t158 t156 5 fun M_183 =>
 af .add (aa xs_93 0) (N .i64 1) fun t160 =>
 af .sub (aa xs_135 0) (N .i64 1) fun t162 =>
 next_89 [t160,t162] M_183))) [(aa xs_90 1)] M_132)) [(aa xs_90 0)] M_91) [t102,t104] M_88))) [t31] M_37)) [t29] M_0
def tu (a0:AV) (M0:RM) (Q:ai) : Prop :=
 gQ .neq a0 a0 fun t5 =>
 Q t5 M0
def GQ (p1:Nat) (p2:av) (a0 a1:AV) (M0:RM) (Q:ai) : Prop :=
 gJ p1 a0 fun r f =>
 bY r f M0 fun t2 M =>
 gJ p1 a1 fun r_0 f_1 =>
 bY r_0 f_1 M fun t3 M_2 =>
 aD t2 2 fun t5 =>
 aj M_2 t5 fun t6 =>
 aD t3 2 fun t7 =>
 aj M_2 t7 fun t8 =>
 gQ .neq t6 t8 fun t9 =>
 aA t9 (
 aD t2 2 fun bQ =>
 aj M_2 bQ fun bT =>
 aD t3 2 fun t12 =>
 aj M_2 t12 fun bf =>
 gQ .lss bT bf fun t14 =>
 Q t14 M_2) (
 aD t2 3 fun t15 =>
 aj M_2 t15 fun t16 =>
 aD t3 3 fun t17 =>
 aj M_2 t17 fun t18 =>
 gQ .neq t16 t18 fun t19 =>
 aA t19 (
 aD t2 3 fun t20 =>
 aj M_2 t20 fun t21 =>
 aD t3 3 fun t22 =>
 aj M_2 t22 fun t23 =>
 gQ .lss t21 t23 fun t24 =>
 Q t24 M_2) (
 aD t2 0 fun t25 =>
 aH M_2 t25 2 fun t26 =>
 aD t3 0 fun t27 =>
 aH M_2 t27 2 fun t28 =>
 p2 [t26,t28] M_2 fun t29 M_3 =>
 Q t29 M_3))
def y7 (a0:AV) (M0:RM) (Q:ai) : Prop :=
 af .neq a0 a0 fun t5 =>
 Q t5 M0
def lc (cv:(FuncId→av)) (a0 a1 a2 a3 a4:AV) (M0:RM) (Q:ai) : Prop :=
 aU (fun next xs M =>
 af .mul (N .i64 2) (aa xs 0) fun t14 =>
 af .add t14 (N .i64 1) fun t15 =>
 af .geq t15 a2 fun t18 =>
 aA t18 (
 Q (.tup []) M) (
 dE (fun J =>
 af .add t15 (N .i64 1) fun t20 =>
 af .lss t20 a2 fun t22 =>
 ae t22 true (fun k=>k a4 M none) (fun k=>k .undef M none) fun t24 M_0 b =>
 ae t22 true (fun k_1=>k_1 a0 M_0 none) (fun k=>k .undef M_0 none) fun t25 M_2 b_3 =>
 ae t22 true (fun k_4=>k_4 a3 M_2 none) (fun k=>k .undef M_2 none) fun t26 M_5 b_6 =>
 ae t22 true (fun k_7=>k_7 t15 M_5 none) (fun k=>k .undef M_5 none) fun t27 M_8 b_9 =>
 ae t22 true (fun k_10=>af .add t26 t27 fun t28 =>
 k_10 t28 M_8 none) (fun k=>k .undef M_8 none) fun t28_11 M_12 b_13 =>
 ae t22 true (fun k_14=>ax t25 t28_11 5 fun t29 =>
 k_14 t29 M_12 none) (fun k=>k .undef M_12 none) fun t29_15 M_16 b_17 =>
 ae t22 true (fun k_18=>aH M_16 t29_15 5 fun t30 =>
 k_18 t30 M_16 none) (fun k=>k .undef M_16 none) fun t30_19 M_20 b_21 =>
 ae t22 true (fun k_22=>k_22 a0 M_20 none) (fun k=>k .undef M_20 none) fun t31 M_23 b_24 =>
 ae t22 true (fun k_25=>k_25 a3 M_23 none) (fun k=>k .undef M_23 none) fun t32 M_26 b_27 =>
 ae t22 true (fun k_28=>k_28 t15 M_26 none) (fun k=>k .undef M_26 none) fun t33 M_29 b_30 =>
 ae t22 true (fun k_31=>af .add t32 t33 fun t34 =>
 k_31 t34 M_29 none) (fun k=>k .undef M_29 none) fun t34_32 M_33 b_34 =>
 ae t22 true (fun k_35=>af .add t34_32 (N .i64 1) fun t35 =>
 k_35 t35 M_33 none) (fun k=>k .undef M_33 none) fun t35_36 M_37 b_38 =>
 ae t22 true (fun k_39=>ax t31 t35_36 5 fun t36 =>
 k_39 t36 M_37 none) (fun k=>k .undef M_37 none) fun t36_40 M_41 b_42 =>
 ae t22 true (fun k_43=>aH M_41 t36_40 5 fun t37 =>
 k_43 t37 M_41 none) (fun k=>k .undef M_41 none) fun t37_44 M_45 b_46 =>
 au t22 true (fun k_47=>dZ cv t24 [t30_19,t37_44] M_45 fun t38 M_48 =>
 k_47 t38 M_48) (fun k=>k .undef M_45) fun t38_49 M_50 =>
 ae t22 true (fun k_51=>af .lss t38_49 (N .i64 0) fun t39 =>
 k_51 t39 M_50 none) (fun k=>k .undef M_50 none) fun t39_52 M_53 b_54 =>
 aP t22 t39_52 (Bo false) fun t40 =>
 aA t40 (
 af .add t15 (N .i64 1) fun t42 =>
 J [t42] M_53) (
 J [t15] M_53)) (fun xs_55 M_56 =>
 af .add a3 (aa xs 0) fun t47 =>
 ax a0 t47 5 fun t48 =>
 aH M_56 t48 5 fun t49 =>
 af .add a3 (aa xs_55 0) fun t53 =>
 ax a0 t53 5 fun t54 =>
 aH M_56 t54 5 fun t55 =>
 dZ cv a4 [t49,t55] M_56 fun t56 M_57 =>
 af .lss t56 (N .i64 0) fun t57 =>
 dU t57 fun t58 =>
 aA t58 (
 Q (.tup []) M_57) (
 af .add a3 (aa xs 0) fun t62 =>
 af .add a3 (aa xs_55 0) fun t66 =>
 af .add a3 (aa xs_55 0) fun t70 =>
 ax a0 t70 5 fun t71 =>
 aH M_57 t71 5 fun t72 =>
 af .add a3 (aa xs 0) fun t76 =>
 ax a0 t76 5 fun t77 =>
 aH M_57 t77 5 fun t78 =>
 ax a0 t62 5 fun t79 =>
 aN M_57 t79 t72 5 fun M_58 =>
 ax a0 t66 5 fun t80 =>
 aN M_58 t80 t78 5 fun M_59 =>
 next [(aa xs_55 0)] M_59)))) [a1] M0
def jc (p1:av) (a0 a1 a2 a3:AV) (M0:RM) (Q:ai) : Prop :=
 af .sub a1 (N .i64 1) fun bT =>
 af .add a1 (N .i64 1) fun t14 =>
 p1 [a0,bT,a1,t14,a2,a3] M0 fun t17 M =>
 Q t17 M
def mg (p1:av) (a0 a1 a2 a3 a4 a5:AV) (M0:RM) (Q:ai) : Prop :=
 p1 [a0,a1,a2,a4,a5] M0 fun t19 M =>
 gU t19 0 fun t20 =>
 gU t19 1 fun t21 =>
 p1 [a0,t21,a3,a4,a5] M fun t28 M_0 =>
 gU t28 0 fun t29 =>
 gU t28 1 fun t30 =>
 p1 [a0,t20,t29,a4,a5] M_0 fun t37 M_1 =>
 gU t37 0 fun t38 =>
 gU t37 1 fun t39 =>
 Q t39 M_1
def mr (cv:(FuncId→av)) (a0 a1 a2 a3 a4:AV) (M0:RM) (Q:ai) : Prop :=
 ax a0 a2 5 fun t15 =>
 aH M0 t15 5 fun t16 =>
 ax a0 a1 5 fun t19 =>
 aH M0 t19 5 fun t20 =>
 dZ cv a4 [t16,t20] M0 fun t21 M =>
 af .lss t21 (N .i64 0) fun t22 =>
 aA t22 (
 bG a3 fun t24 =>
 aj M t24 fun t25 =>
 af .add t25 (N .i64 1) fun t26 =>
 bG a3 fun t27 =>
 aN M t27 t26 1 fun M_0 =>
 Q (.tup [a2,a1]) M_0) (
 Q (.tup [a1,a2]) M)
end Go.Ab.Crw
set_option maxRecDepth 100000
set_option linter.unusedVariables false
set_option linter.unusedSimpArgs false
namespace Go.Ab.aC
open Go Go.Ab
def KL (p1:Nat) (M0:RM) (Q:ai) : Prop :=
 mG [(N .u64 0),(.sc (.slice none 0 0)),(N .u64 0),(.sc (.slice none 0 0)),(N .u64 0),(.sc (.slice none 0 0)),(N .u64 0),(.sc (.slice none 0 0)),(N .u64 0),(.sc (.slice none 0 0)),(N .u64 0),(.sc (.slice none 0 0)),(N .u64 0),(.sc (.slice none 0 0)),(N .u64 0),(.sc (.slice none 0 0)),(N .u64 0),(.sc (.slice none 0 0)),(N .u64 0),(.sc (.slice none 0 0)),(N .u64 0),(.sc (.slice none 0 0)),(N .u64 0),(.sc (.slice none 0 0)),(N .u64 0),(.sc (.slice none 0 0)),(N .u64 0),(.sc (.slice none 0 0)),(N .u64 0),(.sc (.slice none 0 0)),(N .u64 0),(.sc (.slice none 0 0))] [] fun t1 =>
 gJ p1 t1 fun r f =>
 bY r f M0 fun t2 M =>
 Q t2 M
def Eh (p1:Nat) (p2 p3:av) (a0 a1:AV) (M0:RM) (Q:ai) : Prop :=
 gJ p1 a1 fun r f =>
 bY r f M0 fun t3 M =>
 aH M t3 2 fun t6 =>
 p2 [t6] M fun t7 M_0 =>
 dU t7 fun t8 =>
 aA t8 (
 Q (N .i64 1) M_0) (
 aD t3 0 fun bT =>
 aj M_0 bT fun t12 =>
 bG a0 fun bf =>
 aD bf 0 fun t14 =>
 mJ t14 t12 16 2 fun t15 =>
 aD t3 1 fun t16 =>
 aj M_0 t16 fun t17 =>
 p3 [t15,t17] M_0 fun t18 M_1 =>
 dU t18 fun t19 =>
 aA t19 (
 Q (N .i64 2) M_1) (
 Q (N .i64 0) M_1))
def y5 (p1:Nat) (p2:av) (p3:Nat) (a0:AV) (M0:RM) (Q:ai) : Prop :=
 bG a0 fun t7 =>
 aD t7 0 fun t8 =>
 aH M0 t8 32 fun t9 =>
 aU (fun next xs M =>
 af .lss (aa xs 1) (N .i64 16) fun bT =>
 aA bT (
 dE (fun J =>
 Iq t9 (aa xs 1) 16 2 fun bf =>
 bY (.row [(N .u64 0),(.sc (.slice none 0 0))] false p1 0) (fun b=>.ptr b 0) M fun t5 M_0 =>
 aN M_0 t5 bf 2 fun M_1 =>
 aD t5 0 fun t14 =>
 aj M_1 t14 fun t15 =>
 af .gtr t15 (N .u64 0) fun t16 =>
 au t16 false (fun k=>aD t5 1 fun t18 =>
 k t18 M_1) (fun k=>k .undef M_1) fun t18_2 M_3 =>
 au t16 false (fun k_4=>aj M_3 t18_2 fun t19 =>
 k_4 t19 M_3) (fun k=>k .undef M_3) fun t19_5 M_6 =>
 au t16 false (fun k_7=>bu t19_5 fun t20 =>
 k_7 t20 M_6) (fun k=>k .undef M_6) fun t20_8 M_9 =>
 au t16 false (fun k_10=>af .gtr t20_8 (N .i64 0) fun t21 =>
 k_10 t21 M_9) (fun k=>k .undef M_9) fun t21_11 M_12 =>
 aP t16 (Bo true) t21_11 fun t22 =>
 aA t22 (
 aD t5 0 fun t25 =>
 aj M_12 t25 fun t26 =>
 aD t5 1 fun t27 =>
 aj M_12 t27 fun t28 =>
 p2 [t28] M_12 fun t29 M_13 =>
 aj M_13 t25 fun t26_16 =>
 (t26_16=t26∧mG [(N .i64 0),(N .u64 0),(.sc (.slice none 0 0))] [(0,1,(aa xs 1)),(1,1,t26),(2,1,t29)] fun t30 =>
 df p3 1 [(N .i64 0),(N .u64 0),(.sc (.slice none 0 0))] [(0,3,t30)] fun r f =>
 jZ r f M_13 fun t31 M_14 b =>
 appW p3 3 40 [(N .i64 0),(N .u64 0),(.sc (.slice none 0 0))] false (aa xs 0) t31 M_14 fun t32 M_15 =>
 J [t32] M_15)) (
 J [(aa xs 0)] M_12)) (fun xs_17 M_18 =>
 af .add (aa xs 1) (N .i64 1) fun t33 =>
 next [(aa xs_17 0),t33] M_18)) (
 Q (aa xs 0) M)) [(.sc (.slice none 0 0)),(N .i64 0)] M0
def G9 (p1:Nat) (a0:AV) (M0:RM) (Q:ai) : Prop :=
 gJ p1 a0 fun r f =>
 bY r f M0 fun t1 M =>
 aD t1 0 fun t3 =>
 aj M t3 fun t4 =>
 af .geq t4 (N .i64 0) fun t5 =>
 au t5 true (fun k=>aD t1 0 fun t7 =>
 k t7 M) (fun k=>k .undef M) fun t7_0 M_1 =>
 au t5 true (fun k_2=>aj M_1 t7_0 fun t8 =>
 k_2 t8 M_1) (fun k=>k .undef M_1) fun t8_3 M_4 =>
 au t5 true (fun k_5=>af .lss t8_3 (N .i64 16) fun t9 =>
 k_5 t9 M_4) (fun k=>k .undef M_4) fun t9_6 M_7 =>
 aP t5 t9_6 (Bo false) fun bQ =>
 au bQ true (fun k_8=>aD t1 1 fun t12 =>
 k_8 t12 M_7) (fun k=>k .undef M_7) fun t12_9 M_10 =>
 au bQ true (fun k_11=>aj M_10 t12_9 fun bf =>
 k_11 bf M_10) (fun k=>k .undef M_10) fun t13_12 M_13 =>
 au bQ true (fun k_14=>af .geq t13_12 (N .u64 1) fun t14 =>
 k_14 t14 M_13) (fun k=>k .undef M_13) fun t14_15 M_16 =>
 aP bQ t14_15 (Bo false) fun t15 =>
 au t15 true (fun k_17=>aD t1 1 fun t17 =>
 k_17 t17 M_16) (fun k=>k .undef M_16) fun t17_18 M_19 =>
 au t15 true (fun k_20=>aj M_19 t17_18 fun t18 =>
 k_20 t18 M_19) (fun k=>k .undef M_19) fun t18_21 M_22 =>
 au t15 true (fun k_23=>af .leq t18_21 (N .u64 1099511627776) fun t19 =>
 k_23 t19 M_22) (fun k=>k .undef M_22) fun t19_24 M_25 =>
 aP t15 t19_24 (Bo false) fun t20 =>
 Q t20 M_25
def Hw (p1:Nat) (a0:AV) (M0:RM) (Q:ai) : Prop :=
 gJ p1 a0 fun r f =>
 bY r f M0 fun t1 M =>
 aD t1 0 fun t3 =>
 aj M t3 fun t4 =>
 af .geq t4 (N .i64 0) fun t5 =>
 au t5 true (fun k=>aD t1 0 fun t7 =>
 k t7 M) (fun k=>k .undef M) fun t7_0 M_1 =>
 au t5 true (fun k_2=>aj M_1 t7_0 fun t8 =>
 k_2 t8 M_1) (fun k=>k .undef M_1) fun t8_3 M_4 =>
 au t5 true (fun k_5=>af .lss t8_3 (N .i64 16) fun t9 =>
 k_5 t9 M_4) (fun k=>k .undef M_4) fun t9_6 M_7 =>
 aP t5 t9_6 (Bo false) fun bQ =>
 au bQ true (fun k_8=>aD t1 1 fun t12 =>
 k_8 t12 M_7) (fun k=>k .undef M_7) fun t12_9 M_10 =>
 au bQ true (fun k_11=>aj M_10 t12_9 fun bf =>
 k_11 bf M_10) (fun k=>k .undef M_10) fun t13_12 M_13 =>
 au bQ true (fun k_14=>af .geq t13_12 (N .u64 1) fun t14 =>
 k_14 t14 M_13) (fun k=>k .undef M_13) fun t14_15 M_16 =>
 aP bQ t14_15 (Bo false) fun t15 =>
 au t15 true (fun k_17=>aD t1 1 fun t17 =>
 k_17 t17 M_16) (fun k=>k .undef M_16) fun t17_18 M_19 =>
 au t15 true (fun k_20=>aj M_19 t17_18 fun t18 =>
 k_20 t18 M_19) (fun k=>k .undef M_19) fun t18_21 M_22 =>
 au t15 true (fun k_23=>af .leq t18_21 (N .u64 1099511627776) fun t19 =>
 k_23 t19 M_22) (fun k=>k .undef M_22) fun t19_24 M_25 =>
 aP t15 t19_24 (Bo false) fun t20 =>
 Q t20 M_25
def Uk (p1:Nat) (p2 p3:av) (a0 a1:AV) (M0:RM) (Q:ai) : Prop :=
 gJ p1 a1 fun r f =>
 bY r f M0 fun t3 M =>
 aH M t3 2 fun t7 =>
 p2 [a0,t7] M fun t8 M_0 =>
 aA t8 (
 Q a0 M_0) (
 aU (fun next xs M_1 =>
 bu a0 fun t12 =>
 af .lss (aa xs 0) t12 fun bf =>
 ae bf true (fun k=>k a0 M_1 none) (fun k=>k .undef M_1 none) fun t15 M_2 b =>
 ae bf true (fun k_3=>k_3 (aa xs 0) M_2 none) (fun k=>k .undef M_2 none) fun t16 M_4 b_5 =>
 ae bf true (fun k_6=>ax t15 t16 2 fun t17 =>
 k_6 t17 M_4 none) (fun k=>k .undef M_4 none) fun t17_7 M_8 b_9 =>
 ae bf true (fun k_10=>aH M_8 t17_7 2 fun t18 =>
 k_10 t18 M_8 none) (fun k=>k .undef M_8 none) fun t18_11 M_12 b_13 =>
 ae bf true (fun k_14=>aH M_12 t3 2 fun t19 =>
 k_14 t19 M_12 none) (fun k=>k .undef M_12 none) fun t19_15 M_16 b_17 =>
 au bf true (fun k_18=>p3 [t18_11,t19_15] M_16 fun t20 M_19 =>
 k_18 t20 M_19) (fun k=>k .undef M_16) fun t20_20 M_21 =>
 aP bf t20_20 (Bo false) fun t21 =>
 aA t21 (
 af .add (aa xs 0) (N .i64 1) fun t23 =>
 next [t23] M_21) (
 df p1 0 [(N .i64 0),(N .u64 0)] [] fun r_22 f_23 =>
 jZ r_22 f_23 M_21 fun t24 M_24 b_25 =>
 eZ (bR 2 a0 none (some (aa xs 0)) none) fun t27 =>
 aH M_24 t3 2 fun t29 =>
 df p1 1 [(N .i64 0),(N .u64 0)] [(0,2,t29)] fun r_26 f_27 =>
 jZ r_26 f_27 M_24 fun t30 M_28 b_29 =>
 eZ (bR 2 a0 (some (aa xs 0)) none none) fun t34 =>
 appW p1 2 16 [(N .i64 0),(N .u64 0)] false t24 t27 M_28 fun t28 M_30 =>
 aH M_30 t3 2 fun t29_37 =>
 (t29_37=t29∧df p1 1 [(N .i64 0),(N .u64 0)] [(0,2,t29)] fun r_35 f_36 =>
 (uA b_29 M_30 r_35 f_36 t30∧eZ (bR 2 a0 (some (aa xs 0)) none none) fun t34_34 =>
 (t34_34=t34∧appW p1 2 16 [(N .i64 0),(N .u64 0)] false t28 t30 M_30 fun t31 M_31 =>
 eZ (bR 2 a0 (some (aa xs 0)) none none) fun t34_33 =>
 (t34_33=t34∧appW p1 2 16 [(N .i64 0),(N .u64 0)] false t31 t34 M_31 fun t35 M_32 =>
 Q t35 M_32)))))) [(N .i64 0)] M_0)
def Ag (p1 p2:av) (a0:AV) (M0:RM) (Q:ai) : Prop :=
 p1 [] M0 fun t4 M =>
 p2 [t4,a0] M fun t7 M_0 =>
 Q t4 M_0
def wX (p1 p2:av) (p3:Nat) (a0:AV) (M0:RM) (Q:ai) : Prop :=
 p1 [a0] M0 fun bT M =>
 bu bT fun bf =>
 gp .u64 bf fun t14 =>
 p2 [(.sc (.slice none 0 0)),t14] M fun t15 M_0 =>
 bu bT fun t17 =>
 aU (fun next xs M_1 =>
 af .lss (aa xs 1) t17 fun t19 =>
 aA t19 (
 ax bT (aa xs 1) 3 fun t20 =>
 aH M_1 t20 3 fun t21 =>
 bY (.row [(N .i64 0),(N .u64 0),(.sc (.slice none 0 0))] false p3 0) (fun b=>.ptr b 0) M_1 fun t6 M_2 =>
 aN M_2 t6 t21 3 fun M_3 =>
 aD t6 0 fun t23 =>
 aj M_3 t23 fun t24 =>
 gp .u64 t24 fun t25 =>
 aD t6 1 fun t27 =>
 aj M_3 t27 fun t28 =>
 aD t6 2 fun t30 =>
 aj M_3 t30 fun t31 =>
 bu t31 fun t32 =>
 gp .u64 t32 fun t33 =>
 p2 [(aa xs 0),t25] M_3 fun t26 M_4 =>
 aj M_4 t27 fun t28_13 =>
 (t28_13=t28∧aj M_4 t30 fun t31_12 =>
 (t31_12=t31∧p2 [t26,t28] M_4 fun t29 M_5 =>
 aj M_5 t30 fun t31_11 =>
 (t31_11=t31∧p2 [t29,t33] M_5 fun t34 M_6 =>
 aD t6 1 fun t35 =>
 aj M_6 t35 fun t36 =>
 aD t6 2 fun t37 =>
 aj M_6 t37 fun t38 =>
 bu t38 fun t39 =>
 aU (fun next_7 xs_8 M_9 =>
 af .lss (aa xs_8 2) t39 fun t41 =>
 aA t41 (
 ax t38 (aa xs_8 2) 1 fun t42 =>
 aj M_9 t42 fun t43 =>
 af .sub t43 (aa xs_8 1) fun t47 =>
 p2 [(aa xs_8 0),t47] M_9 fun t48 M_10 =>
 af .add (aa xs_8 2) (N .i64 1) fun t50 =>
 next_7 [t48,t43,t50] M_10) (
 af .add (aa xs 1) (N .i64 1) fun t51 =>
 next [(aa xs_8 0),t51] M_9)) [t34,t36,(N .i64 0)] M_6)))) (
 Q (aa xs 0) M_1)) [t15,(N .i64 0)] M_0
def ZG (p1 p2 p3 p4:av) (a0 a1:AV) (M0:RM) (Q:ai) : Prop :=
 p1 [a0] M0 fun bQ M =>
 p2 [a1] M fun t12 M_0 =>
 bu bQ fun t14 =>
 bu t12 fun t16 =>
 af .neq t14 t16 fun t17 =>
 ae t17 false (fun k=>k a0 M_0 none) (fun k=>k .undef M_0 none) fun t19 M_1 b =>
 ae t17 false (fun k_2=>k_2 a1 M_1 none) (fun k=>k .undef M_1 none) fun t22 M_3 b_4 =>
 au t17 false (fun k_5=>p3 [t19] M_3 fun t20 M_6 =>
 k_5 t20 M_6) (fun k=>k .undef M_3) fun t20_7 M_8 =>
 ae t17 false (fun k_9=>iJ M_8 t20_7 fun t21 =>
 k_9 t21 M_8 none) (fun k=>k .undef M_8 none) fun t21_10 M_11 b_12 =>
 au t17 false (fun k_13=>p4 [t22] M_11 fun t23 M_14 =>
 k_13 t23 M_14) (fun k=>k .undef M_11) fun t23_15 M_16 =>
 rX t17 false (fun k_17=>iJ M_16 t20_7 fun t21_18 =>
 (t21_18=t21_10∧k_17)) (fun k=>k) (ae t17 false (fun k_19=>iJ M_16 t23_15 fun t24 =>
 k_19 t24 M_16 none) (fun k=>k .undef M_16 none) fun t24_20 M_21 b_22 =>
 ae t17 false (fun k_23=>gQ .neq t21_10 t24_20 fun t25 =>
 k_23 t25 M_21 none) (fun k=>k .undef M_21 none) fun t25_24 M_25 b_26 =>
 aP t17 (Bo true) t25_24 fun t26 =>
 aA t26 (
 Q (Bo false) M_25) (
 aU (fun next xs M_27 =>
 bu bQ fun t29 =>
 af .lss (aa xs 0) t29 fun t30 =>
 aA t30 (
 ax bQ (aa xs 0) 3 fun t35 =>
 aD t35 0 fun t36 =>
 aj M_27 t36 fun t37 =>
 ax t12 (aa xs 0) 3 fun t40 =>
 aD t40 0 fun t41 =>
 aj M_27 t41 fun t42 =>
 af .neq t37 t42 fun t43 =>
 ae t43 false (fun k_28=>k_28 bQ M_27 none) (fun k=>k .undef M_27 none) fun t45 M_29 b_30 =>
 ae t43 false (fun k_31=>k_31 (aa xs 0) M_29 none) (fun k=>k .undef M_29 none) fun t46 M_32 b_33 =>
 ae t43 false (fun k_34=>ax t45 t46 3 fun t47 =>
 k_34 t47 M_32 none) (fun k=>k .undef M_32 none) fun t47_35 M_36 b_37 =>
 ae t43 false (fun k_38=>aD t47_35 1 fun t48 =>
 k_38 t48 M_36 none) (fun k=>k .undef M_36 none) fun t48_39 M_40 b_41 =>
 ae t43 false (fun k_42=>aj M_40 t48_39 fun t49 =>
 k_42 t49 M_40 none) (fun k=>k .undef M_40 none) fun t49_43 M_44 b_45 =>
 ae t43 false (fun k_46=>k_46 t12 M_44 none) (fun k=>k .undef M_44 none) fun t50 M_47 b_48 =>
 ae t43 false (fun k_49=>k_49 (aa xs 0) M_47 none) (fun k=>k .undef M_47 none) fun t51 M_50 b_51 =>
 ae t43 false (fun k_52=>ax t50 t51 3 fun t52 =>
 k_52 t52 M_50 none) (fun k=>k .undef M_50 none) fun t52_53 M_54 b_55 =>
 ae t43 false (fun k_56=>aD t52_53 1 fun t53 =>
 k_56 t53 M_54 none) (fun k=>k .undef M_54 none) fun t53_57 M_58 b_59 =>
 ae t43 false (fun k_60=>aj M_58 t53_57 fun t54 =>
 k_60 t54 M_58 none) (fun k=>k .undef M_58 none) fun t54_61 M_62 b_63 =>
 ae t43 false (fun k_64=>af .neq t49_43 t54_61 fun t55 =>
 k_64 t55 M_62 none) (fun k=>k .undef M_62 none) fun t55_65 M_66 b_67 =>
 aP t43 (Bo true) t55_65 fun t56 =>
 ae t56 false (fun k_68=>k_68 bQ M_66 none) (fun k=>k .undef M_66 none) fun t58 M_69 b_70 =>
 ae t56 false (fun k_71=>k_71 (aa xs 0) M_69 none) (fun k=>k .undef M_69 none) fun t59 M_72 b_73 =>
 ae t56 false (fun k_74=>ax t58 t59 3 fun t60 =>
 k_74 t60 M_72 none) (fun k=>k .undef M_72 none) fun t60_75 M_76 b_77 =>
 ae t56 false (fun k_78=>aD t60_75 2 fun t61 =>
 k_78 t61 M_76 none) (fun k=>k .undef M_76 none) fun t61_79 M_80 b_81 =>
 ae t56 false (fun k_82=>aj M_80 t61_79 fun t62 =>
 k_82 t62 M_80 none) (fun k=>k .undef M_80 none) fun t62_83 M_84 b_85 =>
 ae t56 false (fun k_86=>bu t62_83 fun t63 =>
 k_86 t63 M_84 none) (fun k=>k .undef M_84 none) fun t63_87 M_88 b_89 =>
 ae t56 false (fun k_90=>k_90 t12 M_88 none) (fun k=>k .undef M_88 none) fun t64 M_91 b_92 =>
 ae t56 false (fun k_93=>k_93 (aa xs 0) M_91 none) (fun k=>k .undef M_91 none) fun t65 M_94 b_95 =>
 ae t56 false (fun k_96=>ax t64 t65 3 fun t66 =>
 k_96 t66 M_94 none) (fun k=>k .undef M_94 none) fun t66_97 M_98 b_99 =>
 ae t56 false (fun k_100=>aD t66_97 2 fun t67 =>
 k_100 t67 M_98 none) (fun k=>k .undef M_98 none) fun t67_101 M_102 b_103 =>
 ae t56 false (fun k_104=>aj M_102 t67_101 fun t68 =>
 k_104 t68 M_102 none) (fun k=>k .undef M_102 none) fun t68_105 M_106 b_107 =>
 ae t56 false (fun k_108=>bu t68_105 fun t69 =>
 k_108 t69 M_106 none) (fun k=>k .undef M_106 none) fun t69_109 M_110 b_111 =>
 ae t56 false (fun k_112=>af .neq t63_87 t69_109 fun t70 =>
 k_112 t70 M_110 none) (fun k=>k .undef M_110 none) fun t70_113 M_114 b_115 =>
 aP t56 (Bo true) t70_113 fun t71 =>
 aA t71 (
 Q (Bo false) M_114) (
 aU (fun next_116 xs_117 M_118 =>
 ax bQ (aa xs 0) 3 fun t75 =>
 aD t75 2 fun t76 =>
 aj M_118 t76 fun t77 =>
 bu t77 fun t78 =>
 af .lss (aa xs_117 0) t78 fun t79 =>
 aA t79 (
 ax bQ (aa xs 0) 3 fun t84 =>
 aD t84 2 fun t85 =>
 aj M_118 t85 fun t86 =>
 ax t86 (aa xs_117 0) 1 fun t88 =>
 aj M_118 t88 fun t89 =>
 ax t12 (aa xs 0) 3 fun t92 =>
 aD t92 2 fun t93 =>
 aj M_118 t93 fun t94 =>
 ax t94 (aa xs_117 0) 1 fun t96 =>
 aj M_118 t96 fun t97 =>
 af .neq t89 t97 fun t98 =>
 aA t98 (
 Q (Bo false) M_118) (
 ax bQ (aa xs 0) 3 fun t101 =>
 aD t101 2 fun t102 =>
 aj M_118 t102 fun t103 =>
 ax t103 (aa xs_117 0) 1 fun t105 =>
 aN M_118 t105 (N .u64 99) 1 fun M_119 =>
 af .add (aa xs_117 0) (N .i64 1) fun t81 =>
 next_116 [t81] M_119)) (
 af .add (aa xs 0) (N .i64 1) fun t32 =>
 next [t32] M_118)) [(N .i64 0)] M_114)) (
 Q (Bo true) M_27)) [(N .i64 0)] M_25))
def Eg (p1:Nat) (p2 p3:av) (a0 a1:AV) (M0:RM) (Q:ai) : Prop :=
 gJ p1 a1 fun r f =>
 bY r f M0 fun t3 M =>
 aH M t3 2 fun t5 =>
 p2 [t5] M fun t6 M_0 =>
 ae t6 true (fun k=>k a0 M_0 none) (fun k=>k .undef M_0 none) fun t8 M_1 b =>
 ae t6 true (fun k_2=>aD t3 0 fun t9 =>
 k_2 t9 M_1 none) (fun k=>k .undef M_1 none) fun t9_3 M_4 b_5 =>
 ae t6 true (fun k_6=>aj M_4 t9_3 fun bQ =>
 k_6 bQ M_4 none) (fun k=>k .undef M_4 none) fun t10_7 M_8 b_9 =>
 ae t6 true (fun k_10=>bG t8 fun bT =>
 k_10 bT M_8 none) (fun k=>k .undef M_8 none) fun t11_11 M_12 b_13 =>
 ae t6 true (fun k_14=>aD t11_11 0 fun t12 =>
 k_14 t12 M_12 none) (fun k=>k .undef M_12 none) fun t12_15 M_16 b_17 =>
 ae t6 true (fun k_18=>mJ t12_15 t10_7 16 2 fun bf =>
 k_18 bf M_16 none) (fun k=>k .undef M_16 none) fun t13_19 M_20 b_21 =>
 ae t6 true (fun k_22=>aD t3 1 fun t14 =>
 k_22 t14 M_20 none) (fun k=>k .undef M_20 none) fun t14_23 M_24 b_25 =>
 ae t6 true (fun k_26=>aj M_24 t14_23 fun t15 =>
 k_26 t15 M_24 none) (fun k=>k .undef M_24 none) fun t15_27 M_28 b_29 =>
 au t6 true (fun k_30=>p3 [t13_19,t15_27] M_28 fun t16 M_31 =>
 k_30 t16 M_31) (fun k=>k .undef M_28) fun t16_32 M_33 =>
 aP t6 t16_32 (Bo false) fun t17 =>
 Q t17 M_33
def Sw (p1:Nat) (a0 a1:AV) (M0:RM) (Q:ai) : Prop :=
 gJ p1 a1 fun r f =>
 bY r f M0 fun t3 M =>
 aU (fun next xs M_0 =>
 bu a0 fun t8 =>
 af .lss (aa xs 0) t8 fun t9 =>
 aA t9 (
 ax a0 (aa xs 0) 2 fun t14 =>
 aH M_0 t14 2 fun t15 =>
 aH M_0 t3 2 fun t16 =>
 kV false [1,1] t15 t16 fun t17 =>
 aA t17 (
 Q (Bo true) M_0) (
 af .add (aa xs 0) (N .i64 1) fun bT =>
 next [bT] M_0)) (
 Q (Bo false) M_0)) [(N .i64 0)] M
def Bn (p1 p2:Nat) (p3 p4 p5 p6:av) (a0 a1:AV) (M0:RM) (Q:ai) : Prop :=
 aU (fun next xs M =>
 af .lss (aa xs 0) (N .i64 16) fun t8 =>
 aA t8 (
 bG a0 fun t12 =>
 aD t12 0 fun bf =>
 mJ bf (aa xs 0) 16 2 fun t14 =>
 bG a1 fun t17 =>
 aD t17 0 fun t18 =>
 mJ t18 (aa xs 0) 16 2 fun t19 =>
 aH M t19 2 fun t20 =>
 jZ (.row [(N .u64 0),(.sc (.slice none 0 0))] false p1 0) (fun b=>.ptr b 0) M fun t6 M_0 b =>
 aN M_0 t6 t20 2 fun M_1 =>
 bG t14 fun t23 =>
 aD t23 0 fun t24 =>
 aj M_1 t24 fun t25 =>
 aD t6 0 fun t26 =>
 aj M_1 t26 fun t27 =>
 JU true t25 t27 fun t28 =>
 bG t14 fun t29 =>
 aD t29 0 fun t30 =>
 aN M_1 t30 t28 1 fun M_2 =>
 bG t14 fun t33 =>
 aD t33 1 fun t34 =>
 aj M_2 t34 fun t35 =>
 aD t6 1 fun t36 =>
 aj M_2 t36 fun t37 =>
 df p2 2 [(.sc (.slice none 0 0))] [(0,1,t35),(1,1,t37)] fun r f =>
 jZ r f M_2 fun t38 M_3 b_4 =>
 p3 [t38] M_3 fun t39 M_5 =>
 bG t14 fun t40 =>
 aD t40 1 fun t41 =>
 aN M_5 t41 t39 1 fun M_6 =>
 bG t14 fun t43 =>
 aD t43 1 fun t44 =>
 aj M_6 t44 fun t45 =>
 p4 [t45] M_6 fun t46 M_7 =>
 bG t14 fun t49 =>
 aD t49 1 fun t50 =>
 aj M_7 t50 fun t51 =>
 p5 [t51] M_7 fun t52 M_8 =>
 bG t14 fun t53 =>
 aD t53 1 fun t54 =>
 aN M_8 t54 t52 1 fun M_9 =>
 p6 [t14] M_9 fun t56 M_10 =>
 af .add (aa xs 0) (N .i64 1) fun t57 =>
 next [t57] M_10) (
 Q (.tup []) M)) [(N .i64 0)] M0
def xg (p1:Nat) (p2:av) (a0 a1:AV) (M0:RM) (Q:ai) : Prop :=
 bG a0 fun bT =>
 aD bT 0 fun t12 =>
 aH M0 t12 32 fun bf =>
 aU (fun next xs M =>
 af .lss (aa xs 0) (N .i64 16) fun t15 =>
 aA t15 (
 Iq bf (aa xs 0) 16 2 fun t17 =>
 bY (.row [(N .u64 0),(.sc (.slice none 0 0))] false p1 0) (fun b=>.ptr b 0) M fun t6 M_0 =>
 aN M_0 t6 t17 2 fun M_1 =>
 bG a1 fun t20 =>
 aD t20 0 fun t21 =>
 mJ t21 (aa xs 0) 16 2 fun t22 =>
 aD t6 0 fun t23 =>
 aj M_1 t23 fun t24 =>
 bG t22 fun t26 =>
 aD t26 0 fun t27 =>
 aj M_1 t27 fun t28 =>
 af .gtr t24 t28 fun t29 =>
 aA t29 (
 Q (Bo false) M_1) (
 aD t6 1 fun t30 =>
 aj M_1 t30 fun t31 =>
 bu t31 fun t32 =>
 aU (fun next_2 xs_3 M_4 =>
 af .lss (aa xs_3 0) t32 fun t34 =>
 aA t34 (
 ax t31 (aa xs_3 0) 1 fun t35 =>
 aj M_4 t35 fun t36 =>
 p2 [t22,t36] M_4 fun t39 M_5 =>
 dU t39 fun t40 =>
 aA t40 (
 Q (Bo false) M_5) (
 af .add (aa xs_3 0) (N .i64 1) fun t41 =>
 next_2 [t41] M_5)) (
 af .add (aa xs 0) (N .i64 1) fun t42 =>
 next [t42] M_4)) [(N .i64 0)] M_1)) (
 Q (Bo true) M)) [(N .i64 0)] M0
def Po (p1:Nat) (a0 a1:AV) (M0:RM) (Q:ai) : Prop :=
 gJ p1 a0 fun r f =>
 bY r f M0 fun t2 M =>
 gJ p1 a1 fun r_0 f_1 =>
 bY r_0 f_1 M fun t3 M_2 =>
 aD t2 1 fun t5 =>
 aj M_2 t5 fun t6 =>
 aD t3 1 fun t7 =>
 aj M_2 t7 fun t8 =>
 af .lss t6 t8 fun t9 =>
 au t9 false (fun k=>aD t2 1 fun bT =>
 k bT M_2) (fun k=>k .undef M_2) fun t11_3 M_4 =>
 au t9 false (fun k_5=>aj M_4 t11_3 fun t12 =>
 k_5 t12 M_4) (fun k=>k .undef M_4) fun t12_6 M_7 =>
 au t9 false (fun k_8=>aD t3 1 fun bf =>
 k_8 bf M_7) (fun k=>k .undef M_7) fun t13_9 M_10 =>
 au t9 false (fun k_11=>aj M_10 t13_9 fun t14 =>
 k_11 t14 M_10) (fun k=>k .undef M_10) fun t14_12 M_13 =>
 au t9 false (fun k_14=>af .eql t12_6 t14_12 fun t15 =>
 k_14 t15 M_13) (fun k=>k .undef M_13) fun t15_15 M_16 =>
 au t9 false (fun k_17=>k_17 t15_15 M_16) (fun k=>k .undef M_16) fun t16 M_18 =>
 au t16 true (fun k_19=>aD t2 0 fun t17 =>
 k_19 t17 M_18) (fun k=>k .undef M_18) fun t17_20 M_21 =>
 au t16 true (fun k_22=>aj M_21 t17_20 fun t18 =>
 k_22 t18 M_21) (fun k=>k .undef M_21) fun t18_23 M_24 =>
 au t16 true (fun k_25=>aD t3 0 fun t19 =>
 k_25 t19 M_24) (fun k=>k .undef M_24) fun t19_26 M_27 =>
 au t16 true (fun k_28=>aj M_27 t19_26 fun t20 =>
 k_28 t20 M_27) (fun k=>k .undef M_27) fun t20_29 M_30 =>
 au t16 true (fun k_31=>af .lss t18_23 t20_29 fun t21 =>
 k_31 t21 M_30) (fun k=>k .undef M_30) fun t21_32 M_33 =>
 au t9 false (fun k_34=>aP t16 t21_32 (Bo false) fun t22 =>
 k_34 t22 M_33) (fun k=>k .undef M_33) fun t22_35 M_36 =>
 aP t9 (Bo true) t22_35 fun t23 =>
 Q t23 M_36
def GR (p1:Nat) (a0 a1:AV) (M0:RM) (Q:ai) : Prop :=
 gJ p1 a0 fun r f =>
 bY r f M0 fun t2 M =>
 gJ p1 a1 fun r_0 f_1 =>
 bY r_0 f_1 M fun t3 M_2 =>
 aD t2 1 fun t5 =>
 aj M_2 t5 fun t6 =>
 aD t3 1 fun t7 =>
 aj M_2 t7 fun t8 =>
 af .lss t6 t8 fun t9 =>
 au t9 false (fun k=>aD t2 1 fun bT =>
 k bT M_2) (fun k=>k .undef M_2) fun t11_3 M_4 =>
 au t9 false (fun k_5=>aj M_4 t11_3 fun t12 =>
 k_5 t12 M_4) (fun k=>k .undef M_4) fun t12_6 M_7 =>
 au t9 false (fun k_8=>aD t3 1 fun bf =>
 k_8 bf M_7) (fun k=>k .undef M_7) fun t13_9 M_10 =>
 au t9 false (fun k_11=>aj M_10 t13_9 fun t14 =>
 k_11 t14 M_10) (fun k=>k .undef M_10) fun t14_12 M_13 =>
 au t9 false (fun k_14=>af .eql t12_6 t14_12 fun t15 =>
 k_14 t15 M_13) (fun k=>k .undef M_13) fun t15_15 M_16 =>
 au t9 false (fun k_17=>k_17 t15_15 M_16) (fun k=>k .undef M_16) fun t16 M_18 =>
 au t16 true (fun k_19=>aD t2 0 fun t17 =>
 k_19 t17 M_18) (fun k=>k .undef M_18) fun t17_20 M_21 =>
 au t16 true (fun k_22=>aj M_21 t17_20 fun t18 =>
 k_22 t18 M_21) (fun k=>k .undef M_21) fun t18_23 M_24 =>
 au t16 true (fun k_25=>aD t3 0 fun t19 =>
 k_25 t19 M_24) (fun k=>k .undef M_24) fun t19_26 M_27 =>
 au t16 true (fun k_28=>aj M_27 t19_26 fun t20 =>
 k_28 t20 M_27) (fun k=>k .undef M_27) fun t20_29 M_30 =>
 au t16 true (fun k_31=>af .lss t18_23 t20_29 fun t21 =>
 k_31 t21 M_30) (fun k=>k .undef M_30) fun t21_32 M_33 =>
 au t9 false (fun k_34=>aP t16 t21_32 (Bo false) fun t22 =>
 k_34 t22 M_33) (fun k=>k .undef M_33) fun t22_35 M_36 =>
 aP t9 (Bo true) t22_35 fun t23 =>
 Q t23 M_36
def Bf (p1:av) (p2 p3:Nat) (p4 p5 p6:av) (a0 a1:AV) (M0:RM) (Q:ai) : Prop :=
 bG a0 fun bQ =>
 aD bQ 1 fun bT =>
 aj M0 bT fun t12 =>
 p1 [t12,a1] M0 fun t14 M =>
 gU t14 0 fun t15 =>
 gU t14 1 fun t16 =>
 au t16 false (fun k=>k a1 M) (fun k=>k .undef M) fun t19 M_0 =>
 au t16 false (fun k_1=>k_1 a0 M_0) (fun k=>k .undef M_0) fun t20 M_2 =>
 au t16 false (fun k_3=>bG t20 fun t21 =>
 k_3 t21 M_2) (fun k=>k .undef M_2) fun t21_4 M_5 =>
 au t16 false (fun k_6=>aD t21_4 0 fun t22 =>
 k_6 t22 M_5) (fun k=>k .undef M_5) fun t22_7 M_8 =>
 au t16 false (fun k_9=>aj M_8 t22_7 fun t23 =>
 k_9 t23 M_8) (fun k=>k .undef M_8) fun t23_10 M_11 =>
 au t16 false (fun k_12=>af .leq t19 t23_10 fun t24 =>
 k_12 t24 M_11) (fun k=>k .undef M_11) fun t24_13 M_14 =>
 aP t16 (Bo true) t24_13 fun t25 =>
 aA t25 (
 Q (Bo true) M_14) (
 bG a0 fun t27 =>
 aD t27 0 fun t28 =>
 aj M_14 t28 fun t29 =>
 bG a0 fun t31 =>
 aD t31 1 fun t32 =>
 aj M_14 t32 fun t33 =>
 df p2 1 [(N .u64 0)] [(0,1,a1)] fun r f =>
 jZ r f M_14 fun t37 M_15 b =>
 jZ (.row [(N .u64 0),(.sc (.slice none 0 0))] false p3 0) (fun b=>.ptr b 0) M_15 fun t7 M_16 b_17 =>
 p4 [t33] M_16 fun t34 M_18 =>
 aj M_18 t28 fun t29_26 =>
 (t29_26=t29∧df p2 1 [(N .u64 0)] [(0,1,a1)] fun r_24 f_25 =>
 (uA b M_18 r_24 f_25 t37∧(uA b_17 M_18 (.row [(N .u64 0),(.sc (.slice none 0 0))] false p3 0) (fun b=>.ptr b 0) t7∧p5 [t34,t15,t37] M_18 fun t38 M_19 =>
 aj M_19 t28 fun t29_23 =>
 (t29_23=t29∧(uA b_17 M_19 (.row [(N .u64 0),(.sc (.slice none 0 0))] false p3 0) (fun b=>.ptr b 0) t7∧mG [(N .u64 0),(.sc (.slice none 0 0))] [(0,1,t29),(1,1,t38)] fun t39 =>
 aN M_19 t7 t39 2 fun M_20 =>
 p6 [t7] M_20 fun t40 M_21 =>
 aD t7 1 fun t41 =>
 aj M_21 t41 fun t42 =>
 bu t42 fun t43 =>
 af .gtr t43 (N .i64 4096) fun t44 =>
 aA t44 (
 Q (Bo false) M_21) (
 aH M_21 t7 2 fun t46 =>
 bG a0 fun t47 =>
 aN M_21 t47 t46 2 fun M_22 =>
 Q (Bo true) M_22)))))))
def KM (p1:Nat) (a0:AV) (M0:RM) (Q:ai) : Prop :=
 jD false 2 a0 (.sc (.slice none 0 0)) fun t4 =>
 aA t4 (
 Q (.sc (.slice none 0 0)) M0) (
 df p1 0 [(N .u64 0)] [] fun r f =>
 bY r f M0 fun t5 M =>
 appW p1 1 8 [(N .u64 0)] false t5 a0 M fun t7 M_0 =>
 Q t7 M_0)
def JH (p1:Nat) (a0 a1:AV) (M0:RM) (Q:ai) : Prop :=
 gJ p1 a0 fun r f =>
 bY r f M0 fun t2 M =>
 gJ p1 a1 fun r_0 f_1 =>
 bY r_0 f_1 M fun t3 M_2 =>
 aD t2 0 fun t5 =>
 aj M_2 t5 fun t6 =>
 aD t3 0 fun t7 =>
 aj M_2 t7 fun t8 =>
 af .lss t6 t8 fun t9 =>
 au t9 false (fun k=>aD t2 0 fun bT =>
 k bT M_2) (fun k=>k .undef M_2) fun t11_3 M_4 =>
 au t9 false (fun k_5=>aj M_4 t11_3 fun t12 =>
 k_5 t12 M_4) (fun k=>k .undef M_4) fun t12_6 M_7 =>
 au t9 false (fun k_8=>aD t3 0 fun bf =>
 k_8 bf M_7) (fun k=>k .undef M_7) fun t13_9 M_10 =>
 au t9 false (fun k_11=>aj M_10 t13_9 fun t14 =>
 k_11 t14 M_10) (fun k=>k .undef M_10) fun t14_12 M_13 =>
 au t9 false (fun k_14=>af .eql t12_6 t14_12 fun t15 =>
 k_14 t15 M_13) (fun k=>k .undef M_13) fun t15_15 M_16 =>
 au t9 false (fun k_17=>k_17 t15_15 M_16) (fun k=>k .undef M_16) fun t16 M_18 =>
 au t16 true (fun k_19=>aD t2 1 fun t17 =>
 k_19 t17 M_18) (fun k=>k .undef M_18) fun t17_20 M_21 =>
 au t16 true (fun k_22=>aj M_21 t17_20 fun t18 =>
 k_22 t18 M_21) (fun k=>k .undef M_21) fun t18_23 M_24 =>
 au t16 true (fun k_25=>aD t3 1 fun t19 =>
 k_25 t19 M_24) (fun k=>k .undef M_24) fun t19_26 M_27 =>
 au t16 true (fun k_28=>aj M_27 t19_26 fun t20 =>
 k_28 t20 M_27) (fun k=>k .undef M_27) fun t20_29 M_30 =>
 au t16 true (fun k_31=>af .lss t18_23 t20_29 fun t21 =>
 k_31 t21 M_30) (fun k=>k .undef M_30) fun t21_32 M_33 =>
 au t9 false (fun k_34=>aP t16 t21_32 (Bo false) fun t22 =>
 k_34 t22 M_33) (fun k=>k .undef M_33) fun t22_35 M_36 =>
 aP t9 (Bo true) t22_35 fun t23 =>
 Q t23 M_36
def OP (p1:av) (p2:Nat) (a0 a1:AV) (M0:RM) (Q:ai) : Prop :=
 p1 [a0] M0 fun t6 M =>
 aU (fun next xs M_0 =>
 af .geq (aa xs 1) (N .u64 128) fun t8 =>
 aA t8 (
 gp .u8 (aa xs 1) fun bf =>
 af .or bf (N .u8 128) fun t14 =>
 df p2 1 [(N .u8 0)] [(0,1,t14)] fun r f =>
 bY r f M_0 fun t15 M_1 =>
 appW p2 1 1 [(N .u8 0)] false (aa xs 0) t15 M_1 fun t16 M_2 =>
 vE .shr (aa xs 1) (N .u64 7) fun bQ =>
 next [t16,bQ] M_2) (
 gp .u8 (aa xs 1) fun t19 =>
 df p2 1 [(N .u8 0)] [(0,1,t19)] fun r_3 f_4 =>
 bY r_3 f_4 M_0 fun t20 M_5 =>
 appW p2 1 1 [(N .u8 0)] false (aa xs 0) t20 M_5 fun t21 M_6 =>
 Q t21 M_6)) [t6,a1] M
def Km (p1 p2:Nat) (a0:AV) (M0:RM) (Q:ai) : Prop :=
 ER p1 40 [(N .i64 0),(N .u64 0),(.sc (.slice none 0 0))] (N .i64 0) (N .i64 0) fun r f =>
 bY r f M0 fun t6 M =>
 aU (fun next xs M_0 =>
 bu a0 fun t9 =>
 af .lss (aa xs 1) t9 fun bQ =>
 aA bQ (
 dE (fun J =>
 dE (fun J_1 =>
 af .eql (aa xs 1) (N .i64 0) fun t14 =>
 ae t14 false (fun k=>k a0 M_0 none) (fun k=>k .undef M_0 none) fun t16 M_2 b =>
 ae t14 false (fun k_3=>k_3 (aa xs 1) M_2 none) (fun k=>k .undef M_2 none) fun t17 M_4 b_5 =>
 ae t14 false (fun k_6=>ax t16 t17 2 fun t18 =>
 k_6 t18 M_4 none) (fun k=>k .undef M_4 none) fun t18_7 M_8 b_9 =>
 ae t14 false (fun k_10=>aD t18_7 0 fun t19 =>
 k_10 t19 M_8 none) (fun k=>k .undef M_8 none) fun t19_11 M_12 b_13 =>
 ae t14 false (fun k_14=>aj M_12 t19_11 fun t20 =>
 k_14 t20 M_12 none) (fun k=>k .undef M_12 none) fun t20_15 M_16 b_17 =>
 ae t14 false (fun k_18=>k_18 a0 M_16 none) (fun k=>k .undef M_16 none) fun t21 M_19 b_20 =>
 ae t14 false (fun k_21=>k_21 (aa xs 1) M_19 none) (fun k=>k .undef M_19 none) fun t22 M_22 b_23 =>
 ae t14 false (fun k_24=>af .sub t22 (N .i64 1) fun t23 =>
 k_24 t23 M_22 none) (fun k=>k .undef M_22 none) fun t23_25 M_26 b_27 =>
 ae t14 false (fun k_28=>ax t21 t23_25 2 fun t24 =>
 k_28 t24 M_26 none) (fun k=>k .undef M_26 none) fun t24_29 M_30 b_31 =>
 ae t14 false (fun k_32=>aD t24_29 0 fun t25 =>
 k_32 t25 M_30 none) (fun k=>k .undef M_30 none) fun t25_33 M_34 b_35 =>
 ae t14 false (fun k_36=>aj M_34 t25_33 fun t26 =>
 k_36 t26 M_34 none) (fun k=>k .undef M_34 none) fun t26_37 M_38 b_39 =>
 ae t14 false (fun k_40=>af .neq t20_15 t26_37 fun t27 =>
 k_40 t27 M_38 none) (fun k=>k .undef M_38 none) fun t27_41 M_42 b_43 =>
 aP t14 (Bo true) t27_41 fun t28 =>
 aA t28 (
 ax a0 (aa xs 1) 2 fun t32 =>
 aD t32 0 fun t33 =>
 aj M_42 t33 fun t34 =>
 mG [(N .i64 0),(N .u64 0),(.sc (.slice none 0 0))] [(0,1,t34)] fun t35 =>
 df p1 1 [(N .i64 0),(N .u64 0),(.sc (.slice none 0 0))] [(0,3,t35)] fun r_44 f_45 =>
 bY r_44 f_45 M_42 fun t36 M_46 =>
 appW p1 3 40 [(N .i64 0),(N .u64 0),(.sc (.slice none 0 0))] false (aa xs 0) t36 M_46 fun t37 M_47 =>
 J_1 [t37] M_47) (
 J_1 [(aa xs 0)] M_42)) (fun xs_48 M_49 =>
 bu (aa xs_48 0) fun t40 =>
 af .sub t40 (N .i64 1) fun t41 =>
 ax (aa xs_48 0) t41 3 fun t42 =>
 bG t42 fun t44 =>
 aD t44 2 fun t45 =>
 aj M_49 t45 fun t46 =>
 bu t46 fun t47 =>
 af .eql t47 (N .i64 0) fun t48 =>
 ae t48 true (fun k_50=>k_50 a0 M_49 none) (fun k=>k .undef M_49 none) fun t50 M_51 b_52 =>
 ae t48 true (fun k_53=>k_53 (aa xs 1) M_51 none) (fun k=>k .undef M_51 none) fun t51 M_54 b_55 =>
 ae t48 true (fun k_56=>ax t50 t51 2 fun t52 =>
 k_56 t52 M_54 none) (fun k=>k .undef M_54 none) fun t52_57 M_58 b_59 =>
 ae t48 true (fun k_60=>aD t52_57 1 fun t53 =>
 k_60 t53 M_58 none) (fun k=>k .undef M_58 none) fun t53_61 M_62 b_63 =>
 ae t48 true (fun k_64=>aj M_62 t53_61 fun t54 =>
 k_64 t54 M_62 none) (fun k=>k .undef M_62 none) fun t54_65 M_66 b_67 =>
 ae t48 true (fun k_68=>k_68 t42 M_66 none) (fun k=>k .undef M_66 none) fun t55 M_69 b_70 =>
 ae t48 true (fun k_71=>bG t55 fun t56 =>
 k_71 t56 M_69 none) (fun k=>k .undef M_69 none) fun t56_72 M_73 b_74 =>
 ae t48 true (fun k_75=>aD t56_72 1 fun t57 =>
 k_75 t57 M_73 none) (fun k=>k .undef M_73 none) fun t57_76 M_77 b_78 =>
 ae t48 true (fun k_79=>aj M_77 t57_76 fun t58 =>
 k_79 t58 M_77 none) (fun k=>k .undef M_77 none) fun t58_80 M_81 b_82 =>
 ae t48 true (fun k_83=>af .add t58_80 (N .u64 1) fun t59 =>
 k_83 t59 M_81 none) (fun k=>k .undef M_81 none) fun t59_84 M_85 b_86 =>
 ae t48 true (fun k_87=>af .eql t54_65 t59_84 fun t60 =>
 k_87 t60 M_85 none) (fun k=>k .undef M_85 none) fun t60_88 M_89 b_90 =>
 aP t48 t60_88 (Bo false) fun t61 =>
 aA t61 (
 bG t42 fun t63 =>
 aD t63 1 fun t64 =>
 aj M_89 t64 fun t65 =>
 af .add t65 (N .u64 1) fun t66 =>
 bG t42 fun t67 =>
 aD t67 1 fun t68 =>
 aN M_89 t68 t66 1 fun M_91 =>
 J [(aa xs_48 0)] M_91) (
 bG t42 fun t71 =>
 aD t71 2 fun t72 =>
 aj M_89 t72 fun t73 =>
 ax a0 (aa xs 1) 2 fun t76 =>
 aD t76 1 fun t77 =>
 aj M_89 t77 fun t78 =>
 df p2 1 [(N .u64 0)] [(0,1,t78)] fun r_92 f_93 =>
 jZ r_92 f_93 M_89 fun t79 M_94 b_95 =>
 appW p2 1 8 [(N .u64 0)] false t73 t79 M_94 fun t80 M_96 =>
 bG t42 fun t81 =>
 aD t81 2 fun t82 =>
 aN M_96 t82 t80 1 fun M_97 =>
 J [(aa xs_48 0)] M_97))) (fun xs_98 M_99 =>
 af .add (aa xs 1) (N .i64 1) fun t12 =>
 next [(aa xs_98 0),t12] M_99)) (
 Q (aa xs 0) M_0)) [t6,(N .i64 0)] M
def GZ (p1 p2:av) (p3:Nat) (a0:AV) (M0:RM) (Q:ai) : Prop :=
 p1 [a0] M0 fun t9 M =>
 bu t9 fun bT =>
 gp .u64 bT fun t12 =>
 p2 [t12] M fun bf M_0 =>
 aU (fun next xs M_1 =>
 bu t9 fun t16 =>
 af .lss (aa xs 1) t16 fun t17 =>
 aA t17 (
 ax t9 (aa xs 1) 3 fun t23 =>
 aD t23 0 fun t24 =>
 aj M_1 t24 fun t25 =>
 gp .u64 t25 fun t26 =>
 p2 [t26] M_1 fun t27 M_2 =>
 appW p3 1 1 [(N .u8 0)] false (aa xs 0) t27 M_2 fun t28 M_3 =>
 ax t9 (aa xs 1) 3 fun t32 =>
 aD t32 1 fun t33 =>
 aj M_3 t33 fun t34 =>
 p2 [t34] M_3 fun t35 M_4 =>
 appW p3 1 1 [(N .u8 0)] false t28 t35 M_4 fun t36 M_5 =>
 ax t9 (aa xs 1) 3 fun t40 =>
 aD t40 2 fun t41 =>
 aj M_5 t41 fun t42 =>
 bu t42 fun t43 =>
 gp .u64 t43 fun t44 =>
 p2 [t44] M_5 fun t45 M_6 =>
 appW p3 1 1 [(N .u8 0)] false t36 t45 M_6 fun t46 M_7 =>
 ax t9 (aa xs 1) 3 fun t49 =>
 aD t49 1 fun t50 =>
 aj M_7 t50 fun t51 =>
 aU (fun next_8 xs_9 M_10 =>
 ax t9 (aa xs 1) 3 fun t55 =>
 aD t55 2 fun t56 =>
 aj M_10 t56 fun t57 =>
 bu t57 fun t58 =>
 af .lss (aa xs_9 2) t58 fun t59 =>
 aA t59 (
 ax t9 (aa xs 1) 3 fun t65 =>
 aD t65 2 fun t66 =>
 aj M_10 t66 fun t67 =>
 ax t67 (aa xs_9 2) 1 fun t69 =>
 aj M_10 t69 fun t70 =>
 af .sub t70 (aa xs_9 1) fun t72 =>
 p2 [t72] M_10 fun t73 M_11 =>
 appW p3 1 1 [(N .u8 0)] false (aa xs_9 0) t73 M_11 fun t74 M_12 =>
 ax t9 (aa xs 1) 3 fun t77 =>
 aD t77 2 fun t78 =>
 aj M_12 t78 fun t79 =>
 ax t79 (aa xs_9 2) 1 fun t81 =>
 aj M_12 t81 fun t82 =>
 af .add (aa xs_9 2) (N .i64 1) fun t61 =>
 next_8 [t74,t82,t61] M_12) (
 af .add (aa xs 1) (N .i64 1) fun t19 =>
 next [(aa xs_9 0),t19] M_10)) [t46,t51,(N .i64 0)] M_7) (
 Q (aa xs 0) M_1)) [bf,(N .i64 0)] M_0
def AX (p1:av) (a0 a1:AV) (M0:RM) (Q:ai) : Prop :=
 bG a0 fun t9 =>
 aD t9 1 fun bQ =>
 aj M0 bQ fun bT =>
 p1 [bT,a1] M0 fun bf M =>
 gU bf 0 fun t14 =>
 gU bf 1 fun t15 =>
 af .geq a1 (N .u64 1) fun t17 =>
 au t17 true (fun k=>k a1 M) (fun k=>k .undef M) fun t19 M_0 =>
 au t17 true (fun k_1=>k_1 a0 M_0) (fun k=>k .undef M_0) fun t20 M_2 =>
 au t17 true (fun k_3=>bG t20 fun t21 =>
 k_3 t21 M_2) (fun k=>k .undef M_2) fun t21_4 M_5 =>
 au t17 true (fun k_6=>aD t21_4 0 fun t22 =>
 k_6 t22 M_5) (fun k=>k .undef M_5) fun t22_7 M_8 =>
 au t17 true (fun k_9=>aj M_8 t22_7 fun t23 =>
 k_9 t23 M_8) (fun k=>k .undef M_8) fun t23_10 M_11 =>
 au t17 true (fun k_12=>af .leq t19 t23_10 fun t24 =>
 k_12 t24 M_11) (fun k=>k .undef M_11) fun t24_13 M_14 =>
 aP t17 t24_13 (Bo false) fun t25 =>
 au t25 false (fun k_15=>k_15 t15 M_14) (fun k=>k .undef M_14) fun t27 M_16 =>
 aP t25 (Bo true) t27 fun t28 =>
 Q t28 M_16
def rM (p1:Nat) (p2:av) (p3:Nat) (a0:AV) (M0:RM) (Q:ai) : Prop :=
 bu a0 fun bQ =>
 aU (fun next xs M =>
 af .lss (aa xs 1) bQ fun t12 =>
 aA t12 (
 dE (fun J =>
 ax a0 (aa xs 1) 1 fun bf =>
 aj M bf fun t14 =>
 bu t14 fun t17 =>
 af .add (aa xs 0) t17 fun t18 =>
 af .lss t18 (N .i64 0) fun t20 =>
 aA t20 (
 False) (
 J [t18] M)) (fun xs_0 M_1 =>
 af .add (aa xs 1) (N .i64 1) fun t22 =>
 next [(aa xs_0 0),t22] M_1)) (
 p2 [(.sc (.slice none 0 0)),(aa xs 0)] M fun t24 M_2 =>
 bu a0 fun t26 =>
 aU (fun next_3 xs_4 M_5 =>
 af .lss (aa xs_4 1) t26 fun t28 =>
 aA t28 (
 ax a0 (aa xs_4 1) 1 fun t29 =>
 aj M_5 t29 fun t30 =>
 appW p3 1 8 [(N .u64 0)] false (aa xs_4 0) t30 M_5 fun t33 M_6 =>
 af .add (aa xs_4 1) (N .i64 1) fun t34 =>
 next_3 [t33,t34] M_6) (
 Q (aa xs_4 0) M_5)) [t24,(N .i64 0)] M_2)) [(N .i64 0),(N .i64 0)] M0
def u6 (p1 p2:av) (a0:AV) (M0:RM) (Q:ai) : Prop :=
 bu a0 fun t4 =>
 gp .u64 t4 fun t8 =>
 p1 [t8] M0 fun t9 M =>
 p2 [a0,(N .i64 0),t4,t9] M fun bQ M_0 =>
 Q (.tup []) M_0
def qE (a0:AV) (M0:RM) (Q:ai) : Prop :=
 bu a0 fun t7 =>
 af .lss t7 (N .i64 2) fun t8 =>
 aA t8 (
 Q a0 M0) (
 aU (fun next xs M =>
 bu a0 fun t12 =>
 af .lss (aa xs 0) t12 fun bf =>
 aA bf (
 ax a0 (aa xs 0) 1 fun t18 =>
 aj M t18 fun t19 =>
 af .sub (aa xs 0) (N .i64 1) fun t22 =>
 ax a0 t22 1 fun t23 =>
 aj M t23 fun t24 =>
 af .eql t19 t24 fun t25 =>
 aA t25 (
 eZ (bR 1 a0 (some (aa xs 0)) none none) fun t28 =>
 aU (fun next_0 xs_1 M_2 =>
 bu t28 fun t31 =>
 af .lss (aa xs_1 1) t31 fun t32 =>
 aA t32 (
 dE (fun J =>
 ax t28 (aa xs_1 1) 1 fun t37 =>
 aj M_2 t37 fun t38 =>
 af .sub (aa xs_1 1) (N .i64 1) fun t41 =>
 ax t28 t41 1 fun t42 =>
 aj M_2 t42 fun t43 =>
 af .neq t38 t43 fun t44 =>
 aA t44 (
 ax t28 (aa xs_1 1) 1 fun t49 =>
 aj M_2 t49 fun t50 =>
 ax a0 (aa xs_1 0) 1 fun t51 =>
 aN M_2 t51 t50 1 fun M_3 =>
 af .add (aa xs_1 0) (N .i64 1) fun t53 =>
 J [t53] M_3) (
 J [(aa xs_1 0)] M_2)) (fun xs_4 M_5 =>
 af .add (aa xs_1 1) (N .i64 1) fun t34 =>
 next_0 [(aa xs_4 0),t34] M_5)) (
 eZ (bR 1 a0 (some (aa xs_1 0)) none none) fun t56 =>
 Jj [(N .u64 0)] t56 M_2 fun u M_6 =>
 eZ (bR 1 a0 none (some (aa xs_1 0)) none) fun t59 =>
 Q t59 M_6)) [(aa xs 0),(N .i64 1)] M) (
 af .add (aa xs 0) (N .i64 1) fun t15 =>
 next [t15] M)) (
 Q a0 M)) [(N .i64 1)] M0)
def tK (a0:AV) (M0:RM) (Q:ai) : Prop :=
 aU (fun next xs M =>
 bG a0 fun t5 =>
 aD t5 1 fun t6 =>
 aj M t6 fun t7 =>
 bu t7 fun t8 =>
 af .lss (aa xs 0) t8 fun t9 =>
 ae t9 true (fun k=>k a0 M none) (fun k=>k .undef M none) fun bT M_0 b =>
 ae t9 true (fun k_1=>bG bT fun t12 =>
 k_1 t12 M_0 none) (fun k=>k .undef M_0 none) fun t12_2 M_3 b_4 =>
 ae t9 true (fun k_5=>aD t12_2 1 fun bf =>
 k_5 bf M_3 none) (fun k=>k .undef M_3 none) fun t13_6 M_7 b_8 =>
 ae t9 true (fun k_9=>aj M_7 t13_6 fun t14 =>
 k_9 t14 M_7 none) (fun k=>k .undef M_7 none) fun t14_10 M_11 b_12 =>
 ae t9 true (fun k_13=>k_13 (aa xs 0) M_11 none) (fun k=>k .undef M_11 none) fun t15 M_14 b_15 =>
 ae t9 true (fun k_16=>ax t14_10 t15 1 fun t16 =>
 k_16 t16 M_14 none) (fun k=>k .undef M_14 none) fun t16_17 M_18 b_19 =>
 ae t9 true (fun k_20=>aj M_18 t16_17 fun t17 =>
 k_20 t17 M_18 none) (fun k=>k .undef M_18 none) fun t17_21 M_22 b_23 =>
 ae t9 true (fun k_24=>k_24 a0 M_22 none) (fun k=>k .undef M_22 none) fun t18 M_25 b_26 =>
 ae t9 true (fun k_27=>bG t18 fun t19 =>
 k_27 t19 M_25 none) (fun k=>k .undef M_25 none) fun t19_28 M_29 b_30 =>
 ae t9 true (fun k_31=>aD t19_28 0 fun t20 =>
 k_31 t20 M_29 none) (fun k=>k .undef M_29 none) fun t20_32 M_33 b_34 =>
 ae t9 true (fun k_35=>aj M_33 t20_32 fun t21 =>
 k_35 t21 M_33 none) (fun k=>k .undef M_33 none) fun t21_36 M_37 b_38 =>
 ae t9 true (fun k_39=>af .add t21_36 (N .u64 1) fun t22 =>
 k_39 t22 M_37 none) (fun k=>k .undef M_37 none) fun t22_40 M_41 b_42 =>
 ae t9 true (fun k_43=>af .leq t17_21 t22_40 fun t23 =>
 k_43 t23 M_41 none) (fun k=>k .undef M_41 none) fun t23_44 M_45 b_46 =>
 aP t9 t23_44 (Bo false) fun t24 =>
 aA t24 (
 bG a0 fun t27 =>
 aD t27 0 fun t28 =>
 aj M_45 t28 fun t29 =>
 bG a0 fun t31 =>
 aD t31 1 fun t32 =>
 aj M_45 t32 fun t33 =>
 ax t33 (aa xs 0) 1 fun t35 =>
 aj M_45 t35 fun t36 =>
 JU true t29 t36 fun t37 =>
 bG a0 fun t38 =>
 aD t38 0 fun t39 =>
 aN M_45 t39 t37 1 fun M_47 =>
 af .add (aa xs 0) (N .i64 1) fun t41 =>
 next [t41] M_47) (
 bG a0 fun t44 =>
 aD t44 1 fun t45 =>
 aj M_45 t45 fun t46 =>
 eZ (bR 1 t46 (some (aa xs 0)) none none) fun t48 =>
 bG a0 fun t49 =>
 aD t49 1 fun t50 =>
 aN M_45 t50 t48 1 fun M_48 =>
 Q (.tup []) M_48)) [(N .i64 0)] M0
def OE (p1:Nat) (a0:AV) (M0:RM) (Q:ai) : Prop :=
 jD false 2 a0 (.sc (.slice none 0 0)) fun t4 =>
 aA t4 (
 Q (.sc (.slice none 0 0)) M0) (
 df p1 0 [(N .u8 0)] [] fun r f =>
 bY r f M0 fun t5 M =>
 appW p1 1 1 [(N .u8 0)] false t5 a0 M fun t7 M_0 =>
 Q t7 M_0)
def mo (p1 p2:av) (a0 a1:AV) (M0:RM) (Q:ai) : Prop :=
 bu a0 fun bT =>
 aU (fun next xs M =>
 af .lss (aa xs 0) (aa xs 1) fun t15 =>
 aA t15 (
 af .add (aa xs 0) (aa xs 1) fun t18 =>
 gp .u64 t18 fun t19 =>
 vE .shr t19 (N .u64 1) fun t20 =>
 gp .i64 t20 fun t21 =>
 ax a0 t21 1 fun t24 =>
 aj M t24 fun t25 =>
 p1 [t25,a1] M fun t27 M_0 =>
 aA t27 (
 af .add t21 (N .i64 1) fun t29 =>
 next [t29,(aa xs 1)] M_0) (
 next [(aa xs 0),t21] M_0)) (
 af .lss (aa xs 0) bT fun t34 =>
 au t34 true (fun k=>k a0 M) (fun k=>k .undef M) fun t36 M_1 =>
 au t34 true (fun k_2=>k_2 (aa xs 0) M_1) (fun k=>k .undef M_1) fun t37 M_3 =>
 au t34 true (fun k_4=>ax t36 t37 1 fun t38 =>
 k_4 t38 M_3) (fun k=>k .undef M_3) fun t38_5 M_6 =>
 au t34 true (fun k_7=>aj M_6 t38_5 fun t39 =>
 k_7 t39 M_6) (fun k=>k .undef M_6) fun t39_8 M_9 =>
 au t34 true (fun k_10=>k_10 a1 M_9) (fun k=>k .undef M_9) fun t40 M_11 =>
 au t34 true (fun k_12=>af .eql t39_8 t40 fun t41 =>
 k_12 t41 M_11) (fun k=>k .undef M_11) fun t41_13 M_14 =>
 au t34 true (fun k_15=>k_15 t41_13 M_14) (fun k=>k .undef M_14) fun t42 M_16 =>
 au t42 false (fun k_17=>k_17 a0 M_16) (fun k=>k .undef M_16) fun t43 M_18 =>
 au t42 false (fun k_19=>k_19 (aa xs 0) M_18) (fun k=>k .undef M_18) fun t44 M_20 =>
 au t42 false (fun k_21=>ax t43 t44 1 fun t45 =>
 k_21 t45 M_20) (fun k=>k .undef M_20) fun t45_22 M_23 =>
 au t42 false (fun k_24=>aj M_23 t45_22 fun t46 =>
 k_24 t46 M_23) (fun k=>k .undef M_23) fun t46_25 M_26 =>
 au t42 false (fun k_27=>p2 [t46_25] M_26 fun t47 M_28 =>
 k_27 t47 M_28) (fun k=>k .undef M_26) fun t47_29 M_30 =>
 au t42 false (fun k_31=>k_31 t47_29 M_30) (fun k=>k .undef M_30) fun t48 M_32 =>
 au t48 true (fun k_33=>k_33 a1 M_32) (fun k=>k .undef M_32) fun t49 M_34 =>
 au t48 true (fun k_35=>p2 [t49] M_34 fun t50 M_36 =>
 k_35 t50 M_36) (fun k=>k .undef M_34) fun t50_37 M_38 =>
 au t42 false (fun k_39=>aP t48 t50_37 (Bo false) fun t51 =>
 k_39 t51 M_38) (fun k=>k .undef M_38) fun t51_40 M_41 =>
 au t34 true (fun k_42=>aP t42 (Bo true) t51_40 fun t52 =>
 k_42 t52 M_41) (fun k=>k .undef M_41) fun t52_43 M_44 =>
 aP t34 t52_43 (Bo false) fun t53 =>
 Q (.tup [(aa xs 0),t53]) M_44)) [(N .i64 0),bT] M0
def lD (p1:Nat) (p2 p3:av) (a0 a1 a2:AV) (M0:RM) (Q:ai) : Prop :=
 eZ (bR 1 a0 (some a1) none none) fun t12 =>
 bu a2 fun t14 =>
 af .eql t14 (N .i64 0) fun t16 =>
 aA t16 (
 Q a0 M0) (
 bu a0 fun t19 =>
 af .eql a1 t19 fun t22 =>
 aA t22 (
 appW p1 1 8 [(N .u64 0)] false a0 a2 M0 fun t25 M =>
 Q t25 M) (
 af .add t19 t14 fun t28 =>
 yR a0 fun t30 =>
 af .gtr t28 t30 fun t31 =>
 aA t31 (
 eZ (bR 1 a0 none (some a1) none) fun t34 =>
 af .add t19 t14 fun t37 =>
 af .sub t37 a1 fun t39 =>
 appW p1 1 8 [(N .u64 0)] true t34 t39 M0 fun t40 M_0 =>
 eZ (bR 1 t40 (some a1) none none) fun t43 =>
 xI 1 t43 a2 M_0 fun t45 M_1 =>
 af .add a1 t14 fun t49 =>
 eZ (bR 1 t40 (some t49) none none) fun t50 =>
 eZ (bR 1 a0 (some a1) none none) fun t53 =>
 xI 1 t50 t53 M_1 fun t54 M_2 =>
 Q t40 M_2) (
 af .add t19 t14 fun t59 =>
 eZ (bR 1 a0 none (some t59) none) fun t60 =>
 af .add a1 t14 fun t65 =>
 eZ (bR 1 t60 (some t65) none none) fun t66 =>
 p2 [a2,t66] M0 fun t67 M_3 =>
 dU t67 fun t68 =>
 aA t68 (
 af .add a1 t14 fun t72 =>
 eZ (bR 1 t60 (some t72) none none) fun t73 =>
 eZ (bR 1 t60 (some a1) none none) fun t76 =>
 xI 1 t73 t76 M_3 fun t77 M_4 =>
 eZ (bR 1 t60 (some a1) none none) fun t80 =>
 xI 1 t80 a2 M_4 fun t82 M_5 =>
 Q t60 M_5) (
 eZ (bR 1 t60 (some t19) none none) fun t86 =>
 xI 1 t86 a2 M_3 fun t88 M_6 =>
 eZ (bR 1 t60 (some a1) none none) fun t91 =>
 p3 [t91,t14] M_6 fun t93 M_7 =>
 Q t60 M_7))))
def yT (p1:Nat) (p2:av) (a0:AV) (M0:RM) (Q:ai) : Prop :=
 af .lss a0 (N .u64 128) fun t4 =>
 aA t4 (
 gp .u8 a0 fun t6 =>
 df p1 1 [(N .u8 0)] [(0,1,t6)] fun r f =>
 bY r f M0 fun t7 M =>
 Q t7 M) (
 af .rem a0 (N .u64 128) fun t9 =>
 gp .u8 t9 fun bQ =>
 af .add bQ (N .u8 128) fun bT =>
 df p1 1 [(N .u8 0)] [(0,1,bT)] fun r_0 f_1 =>
 bY r_0 f_1 M0 fun t12 M_2 =>
 af .quo a0 (N .u64 128) fun t14 =>
 p2 [t14] M_2 fun t15 M_3 =>
 appW p1 1 1 [(N .u8 0)] false t12 t15 M_3 fun t16 M_4 =>
 Q t16 M_4)
def vg (p1 p2:Nat) (a0 a1:AV) (M0:RM) (Q:ai) : Prop :=
 dE (fun J =>
 af .lss a1 (N .i64 0) fun t6 =>
 aA t6 (
 False) (
 J [] M0)) (fun xs M =>
 dE (fun J_0 =>
 yR a0 fun bQ =>
 bu a0 fun t12 =>
 af .sub bQ t12 fun bf =>
 af .sub a1 bf fun t14 =>
 af .gtr t14 (N .i64 0) fun t16 =>
 aA t16 (
 yR a0 fun t19 =>
 eZ (bR 1 a0 none (some t19) none) fun t20 =>
 appW p2 1 8 [(N .u64 0)] true t20 t14 M fun t22 M_1 =>
 bu a0 fun t24 =>
 eZ (bR 1 t22 none (some t24) none) fun t25 =>
 J_0 [t25] M_1) (
 J_0 [a0] M)) (fun xs_2 M_3 =>
 Q (aa xs_2 0) M_3))
def gN (p1 p2 p3 p4 p5 p6 p7 p8 p9 p10:av) (a0 a1 a2 a3:AV) (M0:RM) (Q:ai) : Prop :=
 aU (fun next xs M =>
 af .sub (aa xs 1) (aa xs 0) fun t21 =>
 af .leq t21 (N .i64 12) fun t23 =>
 aA t23 (
 p1 [a0,(aa xs 0),(aa xs 1)] M fun t27 M_0 =>
 Q (.tup []) M_0) (
 af .eql (aa xs 2) (N .i64 0) fun t29 =>
 aA t29 (
 p2 [a0,(aa xs 0),(aa xs 1)] M fun t33 M_1 =>
 Q (.tup []) M_1) (
 dE (fun J =>
 dU (aa xs 3) fun t35 =>
 aA t35 (
 p3 [a0,(aa xs 0),(aa xs 1)] M fun t39 M_2 =>
 af .sub (aa xs 2) (N .i64 1) fun t41 =>
 J [t41] M_2) (
 J [(aa xs 2)] M)) (fun xs_3 M_4 =>
 p4 [a0,(aa xs 0),(aa xs 1)] M_4 fun t46 M_5 =>
 gU t46 0 fun t47 =>
 gU t46 1 fun t48 =>
 dE (fun J_6 =>
 af .eql t48 (N .i64 2) fun t50 =>
 aA t50 (
 p5 [a0,(aa xs 0),(aa xs 1)] M_5 fun t54 M_7 =>
 af .sub (aa xs 1) (N .i64 1) fun t56 =>
 af .sub t47 (aa xs 0) fun t59 =>
 af .sub t56 t59 fun t60 =>
 J_6 [t60,(N .i64 1)] M_7) (
 J_6 [t47,t48] M_5)) (fun xs_8 M_9 =>
 dE (fun J_10 =>
 au (aa xs 3) true (fun k=>k (aa xs 4) M_9) (fun k=>k .undef M_9) fun t63 M_11 =>
 aP (aa xs 3) t63 (Bo false) fun t64 =>
 au t64 true (fun k_12=>k_12 (aa xs_8 1) M_11) (fun k=>k .undef M_11) fun t66 M_13 =>
 au t64 true (fun k_14=>af .eql t66 (N .i64 1) fun t67 =>
 k_14 t67 M_13) (fun k=>k .undef M_13) fun t67_15 M_16 =>
 aP t64 t67_15 (Bo false) fun t68 =>
 aA t68 (
 p6 [a0,(aa xs 0),(aa xs 1)] M_16 fun t72 M_17 =>
 aA t72 (
 Q (.tup []) M_17) (
 J_10 [] M_17)) (
 J_10 [] M_16)) (fun xs_18 M_19 =>
 af .gtr (aa xs 0) (N .i64 0) fun t74 =>
 ae t74 true (fun k_20=>k_20 a0 M_19 none) (fun k=>k .undef M_19 none) fun t76 M_21 b =>
 ae t74 true (fun k_22=>k_22 (aa xs 0) M_21 none) (fun k=>k .undef M_21 none) fun t77 M_23 b_24 =>
 ae t74 true (fun k_25=>af .sub t77 (N .i64 1) fun t78 =>
 k_25 t78 M_23 none) (fun k=>k .undef M_23 none) fun t78_26 M_27 b_28 =>
 ae t74 true (fun k_29=>ax t76 t78_26 1 fun t79 =>
 k_29 t79 M_27 none) (fun k=>k .undef M_27 none) fun t79_30 M_31 b_32 =>
 ae t74 true (fun k_33=>aj M_31 t79_30 fun t80 =>
 k_33 t80 M_31 none) (fun k=>k .undef M_31 none) fun t80_34 M_35 b_36 =>
 ae t74 true (fun k_37=>k_37 a0 M_35 none) (fun k=>k .undef M_35 none) fun t81 M_38 b_39 =>
 ae t74 true (fun k_40=>k_40 (aa xs_8 0) M_38 none) (fun k=>k .undef M_38 none) fun t82 M_41 b_42 =>
 ae t74 true (fun k_43=>ax t81 t82 1 fun t83 =>
 k_43 t83 M_41 none) (fun k=>k .undef M_41 none) fun t83_44 M_45 b_46 =>
 ae t74 true (fun k_47=>aj M_45 t83_44 fun t84 =>
 k_47 t84 M_45 none) (fun k=>k .undef M_45 none) fun t84_48 M_49 b_50 =>
 au t74 true (fun k_51=>p7 [t80_34,t84_48] M_49 fun t85 M_52 =>
 k_51 t85 M_52) (fun k=>k .undef M_49) fun t85_53 M_54 =>
 ae t74 true (fun k_55=>dU t85_53 fun t86 =>
 k_55 t86 M_54 none) (fun k=>k .undef M_54 none) fun t86_56 M_57 b_58 =>
 aP t74 t86_56 (Bo false) fun t87 =>
 aA t87 (
 p8 [a0,(aa xs 0),(aa xs 1),(aa xs_8 0)] M_57 fun t92 M_59 =>
 next [t92,(aa xs 1),(aa xs_3 0),(aa xs 3),(aa xs 4)] M_59) (
 p9 [a0,(aa xs 0),(aa xs 1),(aa xs_8 0)] M_57 fun t99 M_60 =>
 gU t99 0 fun t100 =>
 gU t99 1 fun t101 =>
 af .sub t100 (aa xs 0) fun t105 =>
 af .sub (aa xs 1) t100 fun t108 =>
 af .quo t21 (N .i64 8) fun t110 =>
 af .lss t105 t108 fun t113 =>
 aA t113 (
 af .geq t105 t110 fun t116 =>
 p10 [a0,(aa xs 0),t100,(aa xs_3 0)] M_60 fun t121 M_61 =>
 af .add t100 (N .i64 1) fun t123 =>
 next [t123,(aa xs 1),(aa xs_3 0),t116,t101] M_61) (
 af .geq t108 t110 fun t126 =>
 af .add t100 (N .i64 1) fun t129 =>
 p10 [a0,t129,(aa xs 1),(aa xs_3 0)] M_60 fun t132 M_62 =>
 next [(aa xs 0),t100,(aa xs_3 0),t126,t101] M_62)))))))) [a1,a2,a3,(Bo true),(Bo true)] M0
def rH (p1 p2:av) (a0:AV) (M0:RM) (Q:ai) : Prop :=
 aA (Bo false) (
 gp .u32 a0 fun t4 =>
 p1 [t4] M0 fun t5 M =>
 Q t5 M) (
 p2 [a0] M0 fun t7 M_0 =>
 Q t7 M_0)
def vz (p1:av) (a0 a1:AV) (M0:RM) (Q:ai) : Prop :=
 p1 [a0] M0 fun t6 M =>
 au t6 true (fun k=>k a1 M) (fun k=>k .undef M) fun t8 M_0 =>
 au t6 true (fun k_1=>p1 [t8] M_0 fun t9 M_2 =>
 k_1 t9 M_2) (fun k=>k .undef M_0) fun t9_3 M_4 =>
 au t6 true (fun k_5=>dU t9_3 fun bQ =>
 k_5 bQ M_4) (fun k=>k .undef M_4) fun t10_6 M_7 =>
 aP t6 t10_6 (Bo false) fun bT =>
 au bT false (fun k_8=>k_8 a0 M_7) (fun k=>k .undef M_7) fun bf M_9 =>
 au bT false (fun k_10=>k_10 a1 M_9) (fun k=>k .undef M_9) fun t14 M_11 =>
 au bT false (fun k_12=>af .lss bf t14 fun t15 =>
 k_12 t15 M_11) (fun k=>k .undef M_11) fun t15_13 M_14 =>
 aP bT (Bo true) t15_13 fun t16 =>
 Q t16 M_14
def qH (a0:AV) (M0:RM) (Q:ai) : Prop :=
 af .neq a0 a0 fun t5 =>
 Q t5 M0
def eY (p1:av) (a0 a1 a2:AV) (M0:RM) (Q:ai) : Prop :=
 af .add a1 (N .i64 1) fun t9 =>
 aU (fun next xs M =>
 af .lss (aa xs 0) a2 fun t12 =>
 aA t12 (
 aU (fun next_0 xs_1 M_2 =>
 af .gtr (aa xs_1 0) a1 fun t18 =>
 ae t18 true (fun k=>k a0 M_2 none) (fun k=>k .undef M_2 none) fun t20 M_3 b =>
 ae t18 true (fun k_4=>k_4 (aa xs_1 0) M_3 none) (fun k=>k .undef M_3 none) fun t21 M_5 b_6 =>
 ae t18 true (fun k_7=>ax t20 t21 1 fun t22 =>
 k_7 t22 M_5 none) (fun k=>k .undef M_5 none) fun t22_8 M_9 b_10 =>
 ae t18 true (fun k_11=>aj M_9 t22_8 fun t23 =>
 k_11 t23 M_9 none) (fun k=>k .undef M_9 none) fun t23_12 M_13 b_14 =>
 ae t18 true (fun k_15=>k_15 a0 M_13 none) (fun k=>k .undef M_13 none) fun t24 M_16 b_17 =>
 ae t18 true (fun k_18=>k_18 (aa xs_1 0) M_16 none) (fun k=>k .undef M_16 none) fun t25 M_19 b_20 =>
 ae t18 true (fun k_21=>af .sub t25 (N .i64 1) fun t26 =>
 k_21 t26 M_19 none) (fun k=>k .undef M_19 none) fun t26_22 M_23 b_24 =>
 ae t18 true (fun k_25=>ax t24 t26_22 1 fun t27 =>
 k_25 t27 M_23 none) (fun k=>k .undef M_23 none) fun t27_26 M_27 b_28 =>
 ae t18 true (fun k_29=>aj M_27 t27_26 fun t28 =>
 k_29 t28 M_27 none) (fun k=>k .undef M_27 none) fun t28_30 M_31 b_32 =>
 au t18 true (fun k_33=>p1 [t23_12,t28_30] M_31 fun t29 M_34 =>
 k_33 t29 M_34) (fun k=>k .undef M_31) fun t29_35 M_36 =>
 aP t18 t29_35 (Bo false) fun t30 =>
 aA t30 (
 af .sub (aa xs_1 0) (N .i64 1) fun t37 =>
 af .sub (aa xs_1 0) (N .i64 1) fun t40 =>
 ax a0 t40 1 fun t41 =>
 aj M_36 t41 fun t42 =>
 ax a0 (aa xs_1 0) 1 fun t45 =>
 aj M_36 t45 fun t46 =>
 ax a0 (aa xs_1 0) 1 fun t47 =>
 aN M_36 t47 t42 1 fun M_37 =>
 ax a0 t37 1 fun t48 =>
 aN M_37 t48 t46 1 fun M_38 =>
 af .sub (aa xs_1 0) (N .i64 1) fun t32 =>
 next_0 [t32] M_38) (
 af .add (aa xs 0) (N .i64 1) fun t14 =>
 next [t14] M_36)) [(aa xs 0)] M) (
 Q (.tup []) M)) [t9] M0
def kT (p1:av) (a0 a1 a2:AV) (M0:RM) (Q:ai) : Prop :=
 af .sub a2 a1 fun t14 =>
 af .sub t14 (N .i64 1) fun t16 =>
 af .quo t16 (N .i64 2) fun t17 =>
 aU (fun next xs M =>
 af .geq (aa xs 0) (N .i64 0) fun t19 =>
 aA t19 (
 p1 [a0,(aa xs 0),t14,a1] M fun t26 M_0 =>
 af .sub (aa xs 0) (N .i64 1) fun t21 =>
 next [t21] M_0) (
 af .sub t14 (N .i64 1) fun t28 =>
 aU (fun next_1 xs_2 M_3 =>
 af .geq (aa xs_2 0) (N .i64 0) fun t30 =>
 aA t30 (
 af .add a1 (aa xs_2 0) fun t38 =>
 af .add a1 (aa xs_2 0) fun t42 =>
 ax a0 t42 1 fun t43 =>
 aj M_3 t43 fun t44 =>
 ax a0 a1 1 fun t47 =>
 aj M_3 t47 fun t48 =>
 ax a0 a1 1 fun t49 =>
 aN M_3 t49 t44 1 fun M_4 =>
 ax a0 t38 1 fun t50 =>
 aN M_4 t50 t48 1 fun M_5 =>
 p1 [a0,(N .i64 0),(aa xs_2 0),a1] M_5 fun t55 M_6 =>
 af .sub (aa xs_2 0) (N .i64 1) fun t32 =>
 next_1 [t32] M_6) (
 Q (.tup []) M_3)) [t28] M)) [t17] M0
def jd (p1:Nat) (p2 p3:av) (a0 a1 a2:AV) (M0:RM) (Q:ai) : Prop :=
 af .sub a2 a1 fun bf =>
 af .geq bf (N .i64 8) fun t15 =>
 aA t15 (
 gp .u64 bf fun t17 =>
 bY (.row [(N .u64 0)] false p1 0) (fun b=>.ptr b 0) M0 fun t7 M =>
 aN M t7 t17 1 fun M_0 =>
 p2 [bf] M_0 fun t19 M_1 =>
 af .quo bf (N .i64 4) fun t22 =>
 af .mul t22 (N .i64 2) fun t23 =>
 af .add a1 t23 fun t24 =>
 af .sub t24 (N .i64 1) fun t25 =>
 aU (fun next xs M_2 =>
 af .quo bf (N .i64 4) fun t29 =>
 af .mul t29 (N .i64 2) fun t30 =>
 af .add a1 t30 fun t31 =>
 af .add t31 (N .i64 1) fun t32 =>
 af .leq (aa xs 0) t32 fun t33 =>
 aA t33 (
 dE (fun J =>
 p3 [t7] M_2 fun t36 M_3 =>
 af .sub t19 (N .u64 1) fun t38 =>
 af .and t36 t38 fun t39 =>
 gp .i64 t39 fun t40 =>
 dE (fun J_4 =>
 af .geq t40 bf fun t43 =>
 aA t43 (
 af .sub t40 bf fun t46 =>
 J_4 [t46] M_3) (
 J_4 [t40] M_3)) (fun xs_5 M_6 =>
 af .add a1 (aa xs_5 0) fun t52 =>
 af .add a1 (aa xs_5 0) fun t56 =>
 ax a0 t56 1 fun t57 =>
 aj M_6 t57 fun t58 =>
 ax a0 (aa xs 0) 1 fun t61 =>
 aj M_6 t61 fun t62 =>
 ax a0 (aa xs 0) 1 fun t63 =>
 aN M_6 t63 t58 1 fun M_7 =>
 ax a0 t52 1 fun t64 =>
 aN M_7 t64 t62 1 fun M_8 =>
 J [] M_8)) (fun xs_9 M_10 =>
 af .add (aa xs 0) (N .i64 1) fun t35 =>
 next [t35] M_10)) (
 Q (.tup []) M_2)) [t25] M_1) (
 Q (.tup []) M0)
def jG (p1:Nat) (p2 p3:av) (a0 a1 a2:AV) (M0:RM) (Q:ai) : Prop :=
 af .sub a2 a1 fun t15 =>
 bY (.row [(N .i64 0)] false p1 0) (fun b=>.ptr b 0) M0 fun t9 M =>
 af .quo t15 (N .i64 4) fun t18 =>
 af .mul t18 (N .i64 1) fun t19 =>
 af .add a1 t19 fun t20 =>
 af .quo t15 (N .i64 4) fun t23 =>
 af .mul t23 (N .i64 2) fun t24 =>
 af .add a1 t24 fun t25 =>
 af .quo t15 (N .i64 4) fun t28 =>
 af .mul t28 (N .i64 3) fun t29 =>
 af .add a1 t29 fun t30 =>
 dE (fun J =>
 af .geq t15 (N .i64 8) fun t32 =>
 aA t32 (
 dE (fun J_0 =>
 af .geq t15 (N .i64 50) fun t34 =>
 aA t34 (
 p2 [a0,t20,t9] M fun t37 M_1 =>
 p2 [a0,t25,t9] M_1 fun t40 M_2 =>
 p2 [a0,t30,t9] M_2 fun t43 M_3 =>
 J_0 [t37,t40,t43] M_3) (
 J_0 [t20,t25,t30] M)) (fun xs M_4 =>
 p3 [a0,(aa xs 0),(aa xs 1),(aa xs 2),t9] M_4 fun t48 M_5 =>
 J [t48] M_5)) (
 J [t25] M)) (fun xs_6 M_7 =>
 aj M_7 t9 fun t49 =>
 af .eql t49 (N .i64 0) fun t52 =>
 aA t52 (
 Q (.tup [(aa xs_6 0),(N .i64 1)]) M_7) (
 af .eql t49 (N .i64 12) fun t55 =>
 aA t55 (
 Q (.tup [(aa xs_6 0),(N .i64 2)]) M_7) (
 Q (.tup [(aa xs_6 0),(N .i64 0)]) M_7)))
def jr (a0 a1 a2:AV) (M0:RM) (Q:ai) : Prop :=
 af .sub a2 (N .i64 1) fun bQ =>
 aU (fun next xs M =>
 af .lss (aa xs 0) (aa xs 1) fun bf =>
 aA bf (
 ax a0 (aa xs 1) 1 fun t20 =>
 aj M t20 fun t21 =>
 ax a0 (aa xs 0) 1 fun t24 =>
 aj M t24 fun t25 =>
 ax a0 (aa xs 0) 1 fun t26 =>
 aN M t26 t21 1 fun M_0 =>
 ax a0 (aa xs 1) 1 fun t27 =>
 aN M_0 t27 t25 1 fun M_1 =>
 af .add (aa xs 0) (N .i64 1) fun t29 =>
 af .sub (aa xs 1) (N .i64 1) fun t31 =>
 next [t29,t31] M_1) (
 Q (.tup []) M)) [a1,bQ] M0
def gF (p1:av) (a0 a1 a2:AV) (M0:RM) (Q:ai) : Prop :=
 af .add a1 (N .i64 1) fun t12 =>
 aU (fun next xs M =>
 af .lss (aa xs 1) (N .i64 5) fun t14 =>
 aA t14 (
 dE (fun J =>
 aU (fun next_0 xs_1 M_2 =>
 af .lss (aa xs_1 0) a2 fun t19 =>
 ae t19 true (fun k=>k a0 M_2 none) (fun k=>k .undef M_2 none) fun t21 M_3 b =>
 ae t19 true (fun k_4=>k_4 (aa xs_1 0) M_3 none) (fun k=>k .undef M_3 none) fun t22 M_5 b_6 =>
 ae t19 true (fun k_7=>ax t21 t22 1 fun t23 =>
 k_7 t23 M_5 none) (fun k=>k .undef M_5 none) fun t23_8 M_9 b_10 =>
 ae t19 true (fun k_11=>aj M_9 t23_8 fun t24 =>
 k_11 t24 M_9 none) (fun k=>k .undef M_9 none) fun t24_12 M_13 b_14 =>
 ae t19 true (fun k_15=>k_15 a0 M_13 none) (fun k=>k .undef M_13 none) fun t25 M_16 b_17 =>
 ae t19 true (fun k_18=>k_18 (aa xs_1 0) M_16 none) (fun k=>k .undef M_16 none) fun t26 M_19 b_20 =>
 ae t19 true (fun k_21=>af .sub t26 (N .i64 1) fun t27 =>
 k_21 t27 M_19 none) (fun k=>k .undef M_19 none) fun t27_22 M_23 b_24 =>
 ae t19 true (fun k_25=>ax t25 t27_22 1 fun t28 =>
 k_25 t28 M_23 none) (fun k=>k .undef M_23 none) fun t28_26 M_27 b_28 =>
 ae t19 true (fun k_29=>aj M_27 t28_26 fun t29 =>
 k_29 t29 M_27 none) (fun k=>k .undef M_27 none) fun t29_30 M_31 b_32 =>
 au t19 true (fun k_33=>p1 [t24_12,t29_30] M_31 fun t30 M_34 =>
 k_33 t30 M_34) (fun k=>k .undef M_31) fun t30_35 M_36 =>
 ae t19 true (fun k_37=>dU t30_35 fun t31 =>
 k_37 t31 M_36 none) (fun k=>k .undef M_36 none) fun t31_38 M_39 b_40 =>
 aP t19 t31_38 (Bo false) fun t32 =>
 aA t32 (
 af .add (aa xs_1 0) (N .i64 1) fun t34 =>
 next_0 [t34] M_39) (
 af .eql (aa xs_1 0) a2 fun t37 =>
 aA t37 (
 Q (Bo true) M_39) (
 af .sub a2 a1 fun t40 =>
 af .lss t40 (N .i64 50) fun t41 =>
 aA t41 (
 Q (Bo false) M_39) (
 af .sub (aa xs_1 0) (N .i64 1) fun t46 =>
 af .sub (aa xs_1 0) (N .i64 1) fun t49 =>
 ax a0 t49 1 fun t50 =>
 aj M_39 t50 fun t51 =>
 ax a0 (aa xs_1 0) 1 fun t54 =>
 aj M_39 t54 fun t55 =>
 ax a0 (aa xs_1 0) 1 fun t56 =>
 aN M_39 t56 t51 1 fun M_41 =>
 ax a0 t46 1 fun t57 =>
 aN M_41 t57 t55 1 fun M_42 =>
 dE (fun J_43 =>
 af .sub (aa xs_1 0) a1 fun t60 =>
 af .geq t60 (N .i64 2) fun t61 =>
 aA t61 (
 af .sub (aa xs_1 0) (N .i64 1) fun t63 =>
 aU (fun next_44 xs_45 M_46 =>
 af .geq (aa xs_45 0) (N .i64 1) fun t65 =>
 aA t65 (
 ax a0 (aa xs_45 0) 1 fun t70 =>
 aj M_46 t70 fun t71 =>
 af .sub (aa xs_45 0) (N .i64 1) fun t74 =>
 ax a0 t74 1 fun t75 =>
 aj M_46 t75 fun t76 =>
 p1 [t71,t76] M_46 fun t77 M_47 =>
 dU t77 fun t78 =>
 aA t78 (
 J_43 [] M_47) (
 af .sub (aa xs_45 0) (N .i64 1) fun t83 =>
 af .sub (aa xs_45 0) (N .i64 1) fun t86 =>
 ax a0 t86 1 fun t87 =>
 aj M_47 t87 fun t88 =>
 ax a0 (aa xs_45 0) 1 fun t91 =>
 aj M_47 t91 fun t92 =>
 ax a0 (aa xs_45 0) 1 fun t93 =>
 aN M_47 t93 t88 1 fun M_48 =>
 ax a0 t83 1 fun t94 =>
 aN M_48 t94 t92 1 fun M_49 =>
 af .sub (aa xs_45 0) (N .i64 1) fun t67 =>
 next_44 [t67] M_49)) (
 J_43 [] M_46)) [t63] M_42) (
 J_43 [] M_42)) (fun xs_50 M_51 =>
 af .sub a2 (aa xs_1 0) fun t97 =>
 af .geq t97 (N .i64 2) fun t98 =>
 aA t98 (
 af .add (aa xs_1 0) (N .i64 1) fun t100 =>
 aU (fun next_52 xs_53 M_54 =>
 af .lss (aa xs_53 0) a2 fun t103 =>
 aA t103 (
 ax a0 (aa xs_53 0) 1 fun t108 =>
 aj M_54 t108 fun t109 =>
 af .sub (aa xs_53 0) (N .i64 1) fun t112 =>
 ax a0 t112 1 fun t113 =>
 aj M_54 t113 fun t114 =>
 p1 [t109,t114] M_54 fun t115 M_55 =>
 dU t115 fun t116 =>
 aA t116 (
 J [(aa xs_1 0)] M_55) (
 af .sub (aa xs_53 0) (N .i64 1) fun t121 =>
 af .sub (aa xs_53 0) (N .i64 1) fun t124 =>
 ax a0 t124 1 fun t125 =>
 aj M_55 t125 fun t126 =>
 ax a0 (aa xs_53 0) 1 fun t129 =>
 aj M_55 t129 fun t130 =>
 ax a0 (aa xs_53 0) 1 fun t131 =>
 aN M_55 t131 t126 1 fun M_56 =>
 ax a0 t121 1 fun t132 =>
 aN M_56 t132 t130 1 fun M_57 =>
 af .add (aa xs_53 0) (N .i64 1) fun t105 =>
 next_52 [t105] M_57)) (
 J [(aa xs_1 0)] M_54)) [t100] M_51) (
 J [(aa xs_1 0)] M_51)))))) [(aa xs 0)] M) (fun xs_58 M_59 =>
 af .add (aa xs 1) (N .i64 1) fun t16 =>
 next [(aa xs_58 0),t16] M_59)) (
 Q (Bo false) M)) [t12,(N .i64 0)] M0
def iU (p1:av) (a0 a1 a2 a3:AV) (M0:RM) (Q:ai) : Prop :=
 ax a0 a3 1 fun t17 =>
 aj M0 t17 fun t18 =>
 ax a0 a1 1 fun t21 =>
 aj M0 t21 fun t22 =>
 ax a0 a1 1 fun t23 =>
 aN M0 t23 t18 1 fun M =>
 ax a0 a3 1 fun t24 =>
 aN M t24 t22 1 fun M_0 =>
 af .add a1 (N .i64 1) fun t26 =>
 af .sub a2 (N .i64 1) fun t28 =>
 aU (fun next xs M_1 =>
 aU (fun next_2 xs_3 M_4 =>
 af .leq (aa xs_3 0) (aa xs 1) fun t31 =>
 ae t31 true (fun k=>k a0 M_4 none) (fun k=>k .undef M_4 none) fun t33 M_5 b =>
 ae t31 true (fun k_6=>k_6 a1 M_5 none) (fun k=>k .undef M_5 none) fun t34 M_7 b_8 =>
 ae t31 true (fun k_9=>ax t33 t34 1 fun t35 =>
 k_9 t35 M_7 none) (fun k=>k .undef M_7 none) fun t35_10 M_11 b_12 =>
 ae t31 true (fun k_13=>aj M_11 t35_10 fun t36 =>
 k_13 t36 M_11 none) (fun k=>k .undef M_11 none) fun t36_14 M_15 b_16 =>
 ae t31 true (fun k_17=>k_17 a0 M_15 none) (fun k=>k .undef M_15 none) fun t37 M_18 b_19 =>
 ae t31 true (fun k_20=>k_20 (aa xs_3 0) M_18 none) (fun k=>k .undef M_18 none) fun t38 M_21 b_22 =>
 ae t31 true (fun k_23=>ax t37 t38 1 fun t39 =>
 k_23 t39 M_21 none) (fun k=>k .undef M_21 none) fun t39_24 M_25 b_26 =>
 ae t31 true (fun k_27=>aj M_25 t39_24 fun t40 =>
 k_27 t40 M_25 none) (fun k=>k .undef M_25 none) fun t40_28 M_29 b_30 =>
 au t31 true (fun k_31=>p1 [t36_14,t40_28] M_29 fun t41 M_32 =>
 k_31 t41 M_32) (fun k=>k .undef M_29) fun t41_33 M_34 =>
 ae t31 true (fun k_35=>dU t41_33 fun t42 =>
 k_35 t42 M_34 none) (fun k=>k .undef M_34 none) fun t42_36 M_37 b_38 =>
 aP t31 t42_36 (Bo false) fun t43 =>
 aA t43 (
 af .add (aa xs_3 0) (N .i64 1) fun t45 =>
 next_2 [t45] M_37) (
 aU (fun next_39 xs_40 M_41 =>
 af .leq (aa xs_3 0) (aa xs_40 0) fun t48 =>
 ae t48 true (fun k_42=>k_42 a0 M_41 none) (fun k=>k .undef M_41 none) fun t50 M_43 b_44 =>
 ae t48 true (fun k_45=>k_45 a1 M_43 none) (fun k=>k .undef M_43 none) fun t51 M_46 b_47 =>
 ae t48 true (fun k_48=>ax t50 t51 1 fun t52 =>
 k_48 t52 M_46 none) (fun k=>k .undef M_46 none) fun t52_49 M_50 b_51 =>
 ae t48 true (fun k_52=>aj M_50 t52_49 fun t53 =>
 k_52 t53 M_50 none) (fun k=>k .undef M_50 none) fun t53_53 M_54 b_55 =>
 ae t48 true (fun k_56=>k_56 a0 M_54 none) (fun k=>k .undef M_54 none) fun t54 M_57 b_58 =>
 ae t48 true (fun k_59=>k_59 (aa xs_40 0) M_57 none) (fun k=>k .undef M_57 none) fun t55 M_60 b_61 =>
 ae t48 true (fun k_62=>ax t54 t55 1 fun t56 =>
 k_62 t56 M_60 none) (fun k=>k .undef M_60 none) fun t56_63 M_64 b_65 =>
 ae t48 true (fun k_66=>aj M_64 t56_63 fun t57 =>
 k_66 t57 M_64 none) (fun k=>k .undef M_64 none) fun t57_67 M_68 b_69 =>
 au t48 true (fun k_70=>p1 [t53_53,t57_67] M_68 fun t58 M_71 =>
 k_70 t58 M_71) (fun k=>k .undef M_68) fun t58_72 M_73 =>
 aP t48 t58_72 (Bo false) fun t59 =>
 aA t59 (
 af .sub (aa xs_40 0) (N .i64 1) fun t61 =>
 next_39 [t61] M_73) (
 af .gtr (aa xs_3 0) (aa xs_40 0) fun t64 =>
 aA t64 (
 Q (aa xs_3 0) M_73) (
 ax a0 (aa xs_40 0) 1 fun t71 =>
 aj M_73 t71 fun t72 =>
 ax a0 (aa xs_3 0) 1 fun t75 =>
 aj M_73 t75 fun t76 =>
 ax a0 (aa xs_3 0) 1 fun t77 =>
 aN M_73 t77 t72 1 fun M_74 =>
 ax a0 (aa xs_40 0) 1 fun t78 =>
 aN M_74 t78 t76 1 fun M_75 =>
 af .add (aa xs_3 0) (N .i64 1) fun t80 =>
 af .sub (aa xs_40 0) (N .i64 1) fun t82 =>
 next [t80,t82] M_75))) [(aa xs 1)] M_37)) [(aa xs 0)] M_1) [t26,t28] M_0
def j5 (p1:av) (a0 a1 a2 a3:AV) (M0:RM) (Q:ai) : Prop :=
 ax a0 a3 1 fun t18 =>
 aj M0 t18 fun t19 =>
 ax a0 a1 1 fun t22 =>
 aj M0 t22 fun t23 =>
 ax a0 a1 1 fun t24 =>
 aN M0 t24 t19 1 fun M =>
 ax a0 a3 1 fun t25 =>
 aN M t25 t23 1 fun M_0 =>
 af .add a1 (N .i64 1) fun t27 =>
 af .sub a2 (N .i64 1) fun t29 =>
 aU (fun next xs M_1 =>
 af .leq (aa xs 0) t29 fun t32 =>
 ae t32 true (fun k=>k a0 M_1 none) (fun k=>k .undef M_1 none) fun t34 M_2 b =>
 ae t32 true (fun k_3=>k_3 (aa xs 0) M_2 none) (fun k=>k .undef M_2 none) fun t35 M_4 b_5 =>
 ae t32 true (fun k_6=>ax t34 t35 1 fun t36 =>
 k_6 t36 M_4 none) (fun k=>k .undef M_4 none) fun t36_7 M_8 b_9 =>
 ae t32 true (fun k_10=>aj M_8 t36_7 fun t37 =>
 k_10 t37 M_8 none) (fun k=>k .undef M_8 none) fun t37_11 M_12 b_13 =>
 ae t32 true (fun k_14=>k_14 a0 M_12 none) (fun k=>k .undef M_12 none) fun t38 M_15 b_16 =>
 ae t32 true (fun k_17=>k_17 a1 M_15 none) (fun k=>k .undef M_15 none) fun t39 M_18 b_19 =>
 ae t32 true (fun k_20=>ax t38 t39 1 fun t40 =>
 k_20 t40 M_18 none) (fun k=>k .undef M_18 none) fun t40_21 M_22 b_23 =>
 ae t32 true (fun k_24=>aj M_22 t40_21 fun t41 =>
 k_24 t41 M_22 none) (fun k=>k .undef M_22 none) fun t41_25 M_26 b_27 =>
 au t32 true (fun k_28=>p1 [t37_11,t41_25] M_26 fun t42 M_29 =>
 k_28 t42 M_29) (fun k=>k .undef M_26) fun t42_30 M_31 =>
 aP t32 t42_30 (Bo false) fun t43 =>
 aA t43 (
 af .add (aa xs 0) (N .i64 1) fun t45 =>
 next [t45] M_31) (
 aU (fun next_32 xs_33 M_34 =>
 af .leq (aa xs 0) (aa xs_33 0) fun t48 =>
 ae t48 true (fun k_35=>k_35 a0 M_34 none) (fun k=>k .undef M_34 none) fun t50 M_36 b_37 =>
 ae t48 true (fun k_38=>k_38 (aa xs_33 0) M_36 none) (fun k=>k .undef M_36 none) fun t51 M_39 b_40 =>
 ae t48 true (fun k_41=>ax t50 t51 1 fun t52 =>
 k_41 t52 M_39 none) (fun k=>k .undef M_39 none) fun t52_42 M_43 b_44 =>
 ae t48 true (fun k_45=>aj M_43 t52_42 fun t53 =>
 k_45 t53 M_43 none) (fun k=>k .undef M_43 none) fun t53_46 M_47 b_48 =>
 ae t48 true (fun k_49=>k_49 a0 M_47 none) (fun k=>k .undef M_47 none) fun t54 M_50 b_51 =>
 ae t48 true (fun k_52=>k_52 a1 M_50 none) (fun k=>k .undef M_50 none) fun t55 M_53 b_54 =>
 ae t48 true (fun k_55=>ax t54 t55 1 fun t56 =>
 k_55 t56 M_53 none) (fun k=>k .undef M_53 none) fun t56_56 M_57 b_58 =>
 ae t48 true (fun k_59=>aj M_57 t56_56 fun t57 =>
 k_59 t57 M_57 none) (fun k=>k .undef M_57 none) fun t57_60 M_61 b_62 =>
 au t48 true (fun k_63=>p1 [t53_46,t57_60] M_61 fun t58 M_64 =>
 k_63 t58 M_64) (fun k=>k .undef M_61) fun t58_65 M_66 =>
 ae t48 true (fun k_67=>dU t58_65 fun t59 =>
 k_67 t59 M_66 none) (fun k=>k .undef M_66 none) fun t59_68 M_69 b_70 =>
 aP t48 t59_68 (Bo false) fun t60 =>
 aA t60 (
 af .sub (aa xs_33 0) (N .i64 1) fun t62 =>
 next_32 [t62] M_69) (
 af .gtr (aa xs 0) (aa xs_33 0) fun t65 =>
 aA t65 (
 ax a0 a1 1 fun t72 =>
 aj M_69 t72 fun t73 =>
 ax a0 (aa xs_33 0) 1 fun t76 =>
 aj M_69 t76 fun t77 =>
 ax a0 (aa xs_33 0) 1 fun t78 =>
 aN M_69 t78 t73 1 fun M_71 =>
 ax a0 a1 1 fun t79 =>
 aN M_71 t79 t77 1 fun M_72 =>
 Q (.tup [(aa xs_33 0),(Bo true)]) M_72) (
 ax a0 (aa xs_33 0) 1 fun t87 =>
 aj M_69 t87 fun t88 =>
 ax a0 (aa xs 0) 1 fun t91 =>
 aj M_69 t91 fun t92 =>
 ax a0 (aa xs 0) 1 fun t93 =>
 aN M_69 t93 t88 1 fun M_73 =>
 ax a0 (aa xs_33 0) 1 fun t94 =>
 aN M_73 t94 t92 1 fun M_74 =>
 af .add (aa xs 0) (N .i64 1) fun t96 =>
 af .sub (aa xs_33 0) (N .i64 1) fun t98 =>
 aU (fun next_75 xs_76 M_77 =>
 aU (fun next_78 xs_79 M_80 =>
 af .leq (aa xs_79 0) (aa xs_76 1) fun t101 =>
 ae t101 true (fun k_81=>k_81 a0 M_80 none) (fun k=>k .undef M_80 none) fun t103 M_82 b_83 =>
 ae t101 true (fun k_84=>k_84 (aa xs_79 0) M_82 none) (fun k=>k .undef M_82 none) fun t104 M_85 b_86 =>
 ae t101 true (fun k_87=>ax t103 t104 1 fun t105 =>
 k_87 t105 M_85 none) (fun k=>k .undef M_85 none) fun t105_88 M_89 b_90 =>
 ae t101 true (fun k_91=>aj M_89 t105_88 fun t106 =>
 k_91 t106 M_89 none) (fun k=>k .undef M_89 none) fun t106_92 M_93 b_94 =>
 ae t101 true (fun k_95=>k_95 a0 M_93 none) (fun k=>k .undef M_93 none) fun t107 M_96 b_97 =>
 ae t101 true (fun k_98=>k_98 a1 M_96 none) (fun k=>k .undef M_96 none) fun t108 M_99 b_100 =>
 ae t101 true (fun k_101=>ax t107 t108 1 fun t109 =>
 k_101 t109 M_99 none) (fun k=>k .undef M_99 none) fun t109_102 M_103 b_104 =>
 ae t101 true (fun k_105=>aj M_103 t109_102 fun t110 =>
 k_105 t110 M_103 none) (fun k=>k .undef M_103 none) fun t110_106 M_107 b_108 =>
 au t101 true (fun k_109=>p1 [t106_92,t110_106] M_107 fun t111 M_110 =>
 k_109 t111 M_110) (fun k=>k .undef M_107) fun t111_111 M_112 =>
 aP t101 t111_111 (Bo false) fun t112 =>
 aA t112 (
 af .add (aa xs_79 0) (N .i64 1) fun t114 =>
 next_78 [t114] M_112) (
 aU (fun next_113 xs_114 M_115 =>
 af .leq (aa xs_79 0) (aa xs_114 0) fun t117 =>
 ae t117 true (fun k_116=>k_116 a0 M_115 none) (fun k=>k .undef M_115 none) fun t119 M_117 b_118 =>
 ae t117 true (fun k_119=>k_119 (aa xs_114 0) M_117 none) (fun k=>k .undef M_117 none) fun t120 M_120 b_121 =>
 ae t117 true (fun k_122=>ax t119 t120 1 fun t121 =>
 k_122 t121 M_120 none) (fun k=>k .undef M_120 none) fun t121_123 M_124 b_125 =>
 ae t117 true (fun k_126=>aj M_124 t121_123 fun t122 =>
 k_126 t122 M_124 none) (fun k=>k .undef M_124 none) fun t122_127 M_128 b_129 =>
 ae t117 true (fun k_130=>k_130 a0 M_128 none) (fun k=>k .undef M_128 none) fun t123 M_131 b_132 =>
 ae t117 true (fun k_133=>k_133 a1 M_131 none) (fun k=>k .undef M_131 none) fun t124 M_134 b_135 =>
 ae t117 true (fun k_136=>ax t123 t124 1 fun t125 =>
 k_136 t125 M_134 none) (fun k=>k .undef M_134 none) fun t125_137 M_138 b_139 =>
 ae t117 true (fun k_140=>aj M_138 t125_137 fun t126 =>
 k_140 t126 M_138 none) (fun k=>k .undef M_138 none) fun t126_141 M_142 b_143 =>
 au t117 true (fun k_144=>p1 [t122_127,t126_141] M_142 fun t127 M_145 =>
 k_144 t127 M_145) (fun k=>k .undef M_142) fun t127_146 M_147 =>
 ae t117 true (fun k_148=>dU t127_146 fun t128 =>
 k_148 t128 M_147 none) (fun k=>k .undef M_147 none) fun t128_149 M_150 b_151 =>
 aP t117 t128_149 (Bo false) fun t129 =>
 aA t129 (
 af .sub (aa xs_114 0) (N .i64 1) fun t131 =>
 next_113 [t131] M_150) (
 af .gtr (aa xs_79 0) (aa xs_114 0) fun t134 =>
 aA t134 (
 ax a0 a1 1 fun t159 =>
 aj M_150 t159 fun t160 =>
 ax a0 (aa xs_114 0) 1 fun t163 =>
 aj M_150 t163 fun t164 =>
 ax a0 (aa xs_114 0) 1 fun t165 =>
 aN M_150 t165 t160 1 fun M_152 =>
 ax a0 a1 1 fun t166 =>
 aN M_152 t166 t164 1 fun M_153 =>
 Q (.tup [(aa xs_114 0),(Bo false)]) M_153) (
 ax a0 (aa xs_114 0) 1 fun t141 =>
 aj M_150 t141 fun t142 =>
 ax a0 (aa xs_79 0) 1 fun t145 =>
 aj M_150 t145 fun t146 =>
 ax a0 (aa xs_79 0) 1 fun t147 =>
 aN M_150 t147 t142 1 fun M_154 =>
 ax a0 (aa xs_114 0) 1 fun t148 =>
 aN M_154 t148 t146 1 fun M_155 =>
 af .add (aa xs_79 0) (N .i64 1) fun t150 =>
 af .sub (aa xs_114 0) (N .i64 1) fun t152 =>
 next_75 [t150,t152] M_155))) [(aa xs_76 1)] M_112)) [(aa xs_76 0)] M_77) [t96,t98] M_74))) [t29] M_31)) [t27] M_0
def pU (a0:AV) (M0:RM) (Q:ai) : Prop :=
 dE (fun J =>
 af .geq a0 (N .u64 4294967296) fun t4 =>
 aA t4 (
 vE .shr a0 (N .u64 32) fun t6 =>
 J [t6,(N .i64 32)] M0) (
 J [a0,(N .i64 0)] M0)) (fun xs M =>
 dE (fun J_0 =>
 af .geq (aa xs 0) (N .u64 65536) fun t8 =>
 aA t8 (
 vE .shr (aa xs 0) (N .u64 16) fun bQ =>
 af .add (aa xs 1) (N .i64 16) fun t12 =>
 J_0 [bQ,t12] M) (
 J_0 [(aa xs 0),(aa xs 1)] M)) (fun xs_1 M_2 =>
 dE (fun J_3 =>
 af .geq (aa xs_1 0) (N .u64 256) fun t14 =>
 aA t14 (
 vE .shr (aa xs_1 0) (N .u64 8) fun t16 =>
 af .add (aa xs_1 1) (N .i64 8) fun t18 =>
 J_3 [t16,t18] M_2) (
 J_3 [(aa xs_1 0),(aa xs_1 1)] M_2)) (fun xs_4 M_5 =>
 gp .u8 (aa xs_4 0) fun t21 =>
 NN (St [0,1,2,2,3,3,3,3,4,4,4,4,4,4,4,4,5,5,5,5,5,5,5,5,5,5,5,5,5,5,5,5,6,6,6,6,6,6,6,6,6,6,6,6,6,6,6,6,6,6,6,6,6,6,6,6,6,6,6,6,6,6,6,6,7,7,7,7,7,7,7,7,7,7,7,7,7,7,7,7,7,7,7,7,7,7,7,7,7,7,7,7,7,7,7,7,7,7,7,7,7,7,7,7,7,7,7,7,7,7,7,7,7,7,7,7,7,7,7,7,7,7,7,7,7,7,7,7,8,8,8,8,8,8,8,8,8,8,8,8,8,8,8,8,8,8,8,8,8,8,8,8,8,8,8,8,8,8,8,8,8,8,8,8,8,8,8,8,8,8,8,8,8,8,8,8,8,8,8,8,8,8,8,8,8,8,8,8,8,8,8,8,8,8,8,8,8,8,8,8,8,8,8,8,8,8,8,8,8,8,8,8,8,8,8,8,8,8,8,8,8,8,8,8,8,8,8,8,8,8,8,8,8,8,8,8,8,8,8,8,8,8,8,8,8,8,8,8,8,8,8,8,8,8,8,8]) t21 fun t22 =>
 gp .i64 t22 fun t23 =>
 af .add (aa xs_4 1) t23 fun t24 =>
 Q t24 M_5)))
def pg (a0:AV) (M0:RM) (Q:ai) : Prop :=
 af .neq a0 a0 fun t5 =>
 Q t5 M0
def kP (p1:av) (a0 a1 a2 a3:AV) (M0:RM) (Q:ai) : Prop :=
 aU (fun next xs M =>
 af .mul (N .i64 2) (aa xs 0) fun t12 =>
 af .add t12 (N .i64 1) fun bf =>
 af .geq bf a2 fun t16 =>
 aA t16 (
 Q (.tup []) M) (
 dE (fun J =>
 af .add bf (N .i64 1) fun t18 =>
 af .lss t18 a2 fun t20 =>
 ae t20 true (fun k=>k a0 M none) (fun k=>k .undef M none) fun t22 M_0 b =>
 ae t20 true (fun k_1=>k_1 a3 M_0 none) (fun k=>k .undef M_0 none) fun t23 M_2 b_3 =>
 ae t20 true (fun k_4=>k_4 bf M_2 none) (fun k=>k .undef M_2 none) fun t24 M_5 b_6 =>
 ae t20 true (fun k_7=>af .add t23 t24 fun t25 =>
 k_7 t25 M_5 none) (fun k=>k .undef M_5 none) fun t25_8 M_9 b_10 =>
 ae t20 true (fun k_11=>ax t22 t25_8 1 fun t26 =>
 k_11 t26 M_9 none) (fun k=>k .undef M_9 none) fun t26_12 M_13 b_14 =>
 ae t20 true (fun k_15=>aj M_13 t26_12 fun t27 =>
 k_15 t27 M_13 none) (fun k=>k .undef M_13 none) fun t27_16 M_17 b_18 =>
 ae t20 true (fun k_19=>k_19 a0 M_17 none) (fun k=>k .undef M_17 none) fun t28 M_20 b_21 =>
 ae t20 true (fun k_22=>k_22 a3 M_20 none) (fun k=>k .undef M_20 none) fun t29 M_23 b_24 =>
 ae t20 true (fun k_25=>k_25 bf M_23 none) (fun k=>k .undef M_23 none) fun t30 M_26 b_27 =>
 ae t20 true (fun k_28=>af .add t29 t30 fun t31 =>
 k_28 t31 M_26 none) (fun k=>k .undef M_26 none) fun t31_29 M_30 b_31 =>
 ae t20 true (fun k_32=>af .add t31_29 (N .i64 1) fun t32 =>
 k_32 t32 M_30 none) (fun k=>k .undef M_30 none) fun t32_33 M_34 b_35 =>
 ae t20 true (fun k_36=>ax t28 t32_33 1 fun t33 =>
 k_36 t33 M_34 none) (fun k=>k .undef M_34 none) fun t33_37 M_38 b_39 =>
 ae t20 true (fun k_40=>aj M_38 t33_37 fun t34 =>
 k_40 t34 M_38 none) (fun k=>k .undef M_38 none) fun t34_41 M_42 b_43 =>
 au t20 true (fun k_44=>p1 [t27_16,t34_41] M_42 fun t35 M_45 =>
 k_44 t35 M_45) (fun k=>k .undef M_42) fun t35_46 M_47 =>
 aP t20 t35_46 (Bo false) fun t36 =>
 aA t36 (
 af .add bf (N .i64 1) fun t38 =>
 J [t38] M_47) (
 J [bf] M_47)) (fun xs_48 M_49 =>
 af .add a3 (aa xs 0) fun t42 =>
 ax a0 t42 1 fun t43 =>
 aj M_49 t43 fun t44 =>
 af .add a3 (aa xs_48 0) fun t48 =>
 ax a0 t48 1 fun t49 =>
 aj M_49 t49 fun t50 =>
 p1 [t44,t50] M_49 fun t51 M_50 =>
 dU t51 fun t52 =>
 aA t52 (
 Q (.tup []) M_50) (
 af .add a3 (aa xs 0) fun t56 =>
 af .add a3 (aa xs_48 0) fun t60 =>
 af .add a3 (aa xs_48 0) fun t64 =>
 ax a0 t64 1 fun t65 =>
 aj M_50 t65 fun t66 =>
 af .add a3 (aa xs 0) fun t70 =>
 ax a0 t70 1 fun t71 =>
 aj M_50 t71 fun t72 =>
 ax a0 t56 1 fun t73 =>
 aN M_50 t73 t66 1 fun M_51 =>
 ax a0 t60 1 fun t74 =>
 aN M_51 t74 t72 1 fun M_52 =>
 next [(aa xs_48 0)] M_52)))) [a1] M0
def qC (p1:av) (a0:AV) (M0:RM) (Q:ai) : Prop :=
 gp .u64 a0 fun t4 =>
 p1 [t4] M0 fun t5 M =>
 vE .shl (N .u64 1) t5 fun t6 =>
 Q t6 M
def lC (a0:AV) (M0:RM) (Q:ai) : Prop :=
 bG a0 fun t4 =>
 aj M0 t4 fun t5 =>
 bG a0 fun t7 =>
 aj M0 t7 fun t8 =>
 vE .shl t8 (N .u64 13) fun t9 =>
 af .xor t5 t9 fun bQ =>
 bG a0 fun bT =>
 aN M0 bT bQ 1 fun M =>
 bG a0 fun bf =>
 aj M bf fun t14 =>
 bG a0 fun t16 =>
 aj M t16 fun t17 =>
 vE .shr t17 (N .u64 7) fun t18 =>
 af .xor t14 t18 fun t19 =>
 bG a0 fun t20 =>
 aN M t20 t19 1 fun M_0 =>
 bG a0 fun t22 =>
 aj M_0 t22 fun t23 =>
 bG a0 fun t25 =>
 aj M_0 t25 fun t26 =>
 vE .shl t26 (N .u64 17) fun t27 =>
 af .xor t23 t27 fun t28 =>
 bG a0 fun t29 =>
 aN M_0 t29 t28 1 fun M_1 =>
 bG a0 fun t31 =>
 aj M_1 t31 fun t32 =>
 Q t32 M_1
def iP (p1:av) (a0 a1 a2:AV) (M0:RM) (Q:ai) : Prop :=
 af .sub a1 (N .i64 1) fun t9 =>
 af .add a1 (N .i64 1) fun t12 =>
 p1 [a0,t9,a1,t12,a2] M0 fun t14 M =>
 Q t14 M
def lU (p1:av) (a0 a1 a2 a3 a4:AV) (M0:RM) (Q:ai) : Prop :=
 p1 [a0,a1,a2,a4] M0 fun t16 M =>
 gU t16 0 fun t17 =>
 gU t16 1 fun t18 =>
 p1 [a0,t18,a3,a4] M fun t24 M_0 =>
 gU t24 0 fun t25 =>
 gU t24 1 fun t26 =>
 p1 [a0,t17,t25,a4] M_0 fun t32 M_1 =>
 gU t32 0 fun t33 =>
 gU t32 1 fun t34 =>
 Q t34 M_1
def lT (p1:av) (a0 a1 a2 a3:AV) (M0:RM) (Q:ai) : Prop :=
 ax a0 a2 1 fun t12 =>
 aj M0 t12 fun bf =>
 ax a0 a1 1 fun t16 =>
 aj M0 t16 fun t17 =>
 p1 [bf,t17] M0 fun t18 M =>
 aA t18 (
 bG a3 fun t20 =>
 aj M t20 fun t21 =>
 af .add t21 (N .i64 1) fun t22 =>
 bG a3 fun t23 =>
 aN M t23 t22 1 fun M_0 =>
 Q (.tup [a2,a1]) M_0) (
 Q (.tup [a1,a2]) M)
end Go.Ab.aC
