/- Part 3 of the ground of the proofs of this seat (texts R7 to WDot). By an AI agent. -/
import Derived.Test.YtlhlnchhaminjaaGreatCom2
import Derived.Scope
set_option linter.unusedVariables false
set_option linter.unusedSimpArgs false
namespace Go.Ab
open Go Go.RowKit
structure rD where
 vals:Tree AV
 M:RM
 bY:Tree (Option Nat)
abbrev KR:=AV→RM→Option Nat→Prop
def guardOf (ops:Array Oper) (wr:Tree Nat) (vals:Tree AV) (r:Row) : Option (Option (AV × Bool)) :=
 match r.o.guard with
 | none=>some none
 | some (j,want)=>match (ops[j]?).bind (·.dst) with
   | none=>none
   | some d=>match Nat.testBit r.m j,wr.get d with
     | true,some j'=>match Nat.beq j' j with
       | true=>some (some ((vals.get j).getD .top,want))
       | false=>none
     | _,_=>none
abbrev ah (x:AV) (want:Bool) (f g:ak→Prop) (k:ak) : Prop:=oG x want f g k
abbrev ae (x:AV) (want:Bool) (f g:KR→Prop) (k:KR) : Prop:=oG x want f g k
abbrev uO (x:AV) (want:Bool) (f g:Prop→Prop) (k:Prop) : Prop:=oG x want f g k
def Bv {α:Type} (g:Option (Option (AV × Bool))) (f skip:α→Prop) (k:α) : Prop :=
 match g with
 | none=>False
 | some none=>f k
 | some (some (x,want))=>oG x want f skip k
def mI (x:RB) (mk:Nat→AV) (M:RM) (k:KR) : Prop:=k (mk M.next) (M.push x) (some M.next)
def uk (b:Option Nat) (M:RM) (x:RB) (mk:Nat→AV) (v:AV) : Prop :=
 match b with
 | some b=>M.heap b=some x∧mk b=v
 | none=>False
def aqO (P:Program) (r:Row) (e:Operand→AV) (M:RM) (k:KR) : Prop :=
 match r.kd with
 | .pure | .read=>gI P r.o e M (fun v=>k v M none)
 | .alloc=>vC P r.o e (fun x mk=>mI x mk M k)
 | .wC=>False
def KY (P:Program) (ops:Array Oper) (T0:Tree AV) (wr:Tree Nat) (lev:Nat) : List Row→rD→(rD→Prop)→Prop
 | [],s,K=>K s
 | r :: rest,s,K=>match Nat.beq r.lev lev && !lI r.kd with
   | false=>KY P ops T0 wr lev rest s K
   | true=>Bv (guardOf ops wr s.vals r) (aqO P r (jD T0 wr s.vals r.m) s.M) (fun k=>k .undef s.M none) (fun v M' b=>KY P ops T0 wr lev rest { vals:=s.vals.set r.i v,M:=M',bY:=s.bY.set r.i b } K)
def abM (P:Program) (ops:Array Oper) (T0:Tree AV) (wr:Tree Nat) (r:Row) (s:rD) (K:Prop) : Prop :=
 match r.kd with
 | .read=>Bv (guardOf ops wr s.vals r) (fun k=>gI P r.o (jD T0 wr s.vals r.m) s.M (fun v=>v=(s.vals.get r.i).getD .top∧k)) (fun k=>k) K
 | .alloc=>Bv (guardOf ops wr s.vals r) (fun k=>vC P r.o (jD T0 wr s.vals r.m) (fun x mk=>uk ((s.bY.get r.i).getD none) s.M x mk ((s.vals.get r.i).getD .top)∧k)) (fun k=>k) K
 | _=>K
def UJ (P:Program) (ops:Array Oper) (T0:Tree AV) (ri:RI) (lev:Nat) : List Row→rD→Prop→Prop
 | [],_,K=>K
 | r :: rest,s,K=>match Nat.ble r.lev lev && !lI r.kd && lZ ri.ms ri.es (lev + 1) r with
   | false=>UJ P ops T0 ri lev rest s K
   | true=>abM P ops T0 ri.wr r s (UJ P ops T0 ri lev rest s K)
def zD (P:Program) (ops:Array Oper) (T0:Tree AV) (ri:RI) : Nat→List Nat→rD→(rD→Prop)→Prop
 | lev,[],s,K=>KY P ops T0 ri.wr lev ri.rows s K
 | lev,x :: rest,s,K=>KY P ops T0 ri.wr lev ri.rows s (fun s1=>match nth ri.rows x with
   | none=>False
   | some r=>Bv (guardOf ops ri.wr s1.vals r) (lG P r.o (jD T0 ri.wr s1.vals r.m) s1.M) (fun k=>k .undef s1.M)
     (fun v M'=>UJ P ops T0 ri lev ri.rows { vals:=s1.vals.set x v,M:=M',bY:=s1.bY } (zD P ops T0 ri (lev + 1) rest { vals:=s1.vals.set x v,M:=M',bY:=s1.bY } K)))
def acI (P:Program) (nt:Nat) (ops:Array Oper) (T:Tree AV) (M:RM) (K:Tree AV→RM→Prop) : Prop :=
 match Az P nt ops with
 | none=>False
 | some ri=>match ri.rows.all (wJ ri) with
   | false=>False
   | true=>zD P ops T ri 0 ri.es { vals:=.leaf,M,bY:=.leaf } (fun s=>K (ES T s.vals ri.rows) s.M)
def GOn (g:Option (AV × Bool)) : Prop:=match g with | none=>True | some (x,want)=>x=Bo want
def Pm (g:Option (AV × Bool)) : Prop:=match g with | none=>False | some (x,want)=>x=.undef∨∃ b,x=Bo b∧b≠want
theorem xC {α:Type} {g:Option (Option (AV × Bool))} {f skip:α→Prop} {k:α} (h:Bv g f skip k) : ∃ g',g=some g'∧((GOn g'∧f k)∨(Pm g'∧skip k)):=by
 unfold Bv at h
 split at h <;> first | (cases h; done) | skip
 ·exact⟨none,rfl,.inl ⟨trivial,h⟩⟩
 ·rename_i x want
  refine⟨_,rfl, ?_⟩
  unfold oG at h
  split at h <;> first | (cases h; done) | skip
  ·split at h
   ·rename_i e; subst e; exact .inl ⟨rfl,h⟩
   ·rename_i b e; exact .inr ⟨.inr ⟨b,rfl,e⟩,h⟩
  ·exact .inr ⟨.inl rfl,h⟩
section
variable {P:Program} {nt:Nat} {ops:Array Oper} {ri:RI} {T0:Tree AV}
def xG (P:Program) (ops:Array Oper) (T0:Tree AV) (wr:Tree Nat) (s:rD) (r:Row) : Prop :=
 ∃ g,guardOf ops wr s.vals r=some g∧((GOn g∧∃ v,s.vals.get r.i=some v∧match r.kd with
   | .pure=>∀ M,ou P r.o (jD T0 wr s.vals r.m) M v
   | .read=>ou P r.o (jD T0 wr s.vals r.m) s.M v
   | .alloc=>∃ x mk b,JV P r.o (jD T0 wr s.vals r.m) x mk∧s.bY.get r.i=some (some b)∧s.M.heap b=some x∧mk b=v
   | .wC=>False)∨(Pm g∧s.vals.get r.i=some .undef))
theorem ou.sub {o:Oper} {e:Operand→AV} {M M' : RM} {v:AV} (h:ou P o e M v) (hs:M.Sub M') : ou P o e M' v :=
 fun ρ w c M2 h2 hw he=>h ρ w c M2 (hs.trans h2) hw he
theorem Ef {vals Py:Tree AV} {wr:Tree Nat} {m:Nat} (h:∀ j,Nat.testBit m j=true→Py.get j=vals.get j) : jD T0 wr Py m=jD T0 wr vals m:=by
 funext x
 cases x with
 | tmp t =>
   simp only[jD]
   cases hw:wr.get t with
   | none=>rfl
   | some j =>
     simp only
     cases hb:Nat.testBit m j with
     | false=>rfl
     | true=>simp only[h j hb]
 | const v=>rfl
 | global g=>rfl
 | func f=>rfl
theorem sU {vals Py:Tree AV} {wr:Tree Nat} {r:Row} (h:∀ j,Nat.testBit r.m j=true→Py.get j=vals.get j) : guardOf ops wr Py r=guardOf ops wr vals r:=by
 unfold guardOf
 split
 ·rfl
 ·rename_i j want hg
  split
  ·rfl
  ·split
   ·rename_i hb _
    simp only[h j hb]
   ·rfl
theorem xG.keep {wr:Tree Nat} {s s' : rD} {r:Row} (h:xG P ops T0 wr s r) (hv:∀ j,Nat.testBit r.m j=true∨j=r.i→s'.vals.get j=s.vals.get j) (hb:s'.bY.get r.i=s.bY.get r.i) (hs:s.M.Sub s'.M) : xG P ops T0 wr s' r:=by
 obtain⟨g,hg,h⟩:=h
 have hi:=hv r.i (.inr rfl)
 have he:jD T0 wr s'.vals r.m=jD T0 wr s.vals r.m:=Ef fun j hj=>hv j (.inl hj)
 refine⟨g,by rw[← hg]; exact sU fun j hj=>hv j (.inl hj), ?_⟩
 rcases h with⟨hon,v,hvi,hk⟩ | ⟨hoff,hvi⟩
 ·refine .inl ⟨hon,v,by rw[hi]; exact hvi, ?_⟩
  rw[he]
  cases hkd:r.kd with
  | pure=>rw[hkd] at hk; exact hk
  | read=>rw[hkd] at hk; exact hk.sub hs
  | alloc =>
    rw[hkd] at hk
    obtain⟨x,mk,b,h1,h2,h3,h4⟩:=hk
    exact⟨x,mk,b,h1,by rw[hb]; exact h2,hs.2 _ _ h3,h4⟩
  | wC=>rw[hkd] at hk; exact hk
 ·exact .inr ⟨hoff,by rw[hi]; exact hvi⟩
def Fr (M:RM) : Prop:=∀ b,M.next≤b→M.heap b=none
theorem Fr.push {M:RM} (h:Fr M) (x:RB) : Fr (M.push x):=by
 intro b hb
 simp only[RM.push] at hb ⊢
 rw[if_neg (by omega)]
 exact h b (by omega)
theorem Fr.sub {M:RM} (h:Fr M) (x:RB) : M.Sub (M.push x):=by
 refine⟨rfl,fun b y hy=>?_⟩
 simp only[RM.push]
 split
 ·rename_i e; subst e; rw[h _ (Nat.le_refl _)] at hy; cases hy
 ·exact hy
theorem fF.fr {ρ:Ren} {M:RM} {w:World} (h:fF P ρ M w) : Fr M:=by
 intro b hb
 have hlo:=h.lo_le
 obtain⟨A,hA⟩:=h
 cases hx:M.heap b with
 | none=>rfl
 | some x =>
   rcases hA.blk b x hx with⟨y,hy,_⟩ | ⟨c,_,hlt,_⟩
   ·have:=hA.rel.top b y hy
    rw[hA.next] at this; omega
   ·omega
theorem Tw {ρ:Ren} {M:RM} {w:World} {o:Oper} {e:Operand→AV} {x:RB} {mk:Nat→AV} (h:fF P ρ M w) (hm:JV P o e x mk) : fF P ρ (M.push x) w:=by
 obtain⟨y,_,hle⟩:=hm
 exact h.akX x y hle
structure adG (P:Program) (ops:Array Oper) (T0:Tree AV) (ri:RI) (lev:Nat) (i0:Nat) (s s' : rD) : Prop where
 keep:∀ j,(∀ r,ri.rows[j]?=some r→i0≤j→¬ (r.lev=lev∧lI r.kd=false))→s'.vals.get j=s.vals.get j∧s'.bY.get j=s.bY.get j
 done:∀ j r,ri.rows[j]?=some r→i0≤j→r.lev=lev→lI r.kd=false→xG P ops T0 ri.wr s' r
 sub:s.M.Sub s'.M
 fr:Fr s'.M
 rel:∀ ρ w,fF P ρ s.M w→fF P ρ s'.M w
 next:s.M.next≤s'.M.next
 bY:∀ j b,s'.bY.get j=some (some b)→s.bY.get j=some (some b)∨(s.M.next≤b∧b<s'.M.next∧i0≤j∧∃ r,ri.rows[j]?=some r)
 DC:∀ j1 j2 b,s'.bY.get j1=some (some b)→s'.bY.get j2=some (some b)→s.M.next≤b→j1=j2
theorem DY (ht:pF P nt ops ri) {lev:Nat} {K:rD→Prop} : ∀ (rows:List Row) (i0:Nat) (s:rD),ri.rows.drop i0=rows→Fr s.M→(∀ j b,s.bY.get j=some (some b)→b<s.M.next)→KY P ops T0 ri.wr lev rows s K→∃ s',K s'∧adG P ops T0 ri lev i0 s s'
 | [],i0,s,hd,hf,hbd,h=>by
   refine⟨s,h,fun _ _=>⟨rfl,rfl⟩,fun j r hr hj=>?_,RM.Sub.refl _,hf,fun _ _ h=>h,Nat.le_refl _,fun j b hb=>.inl hb,fun j1 j2 b h1 _ hb=>absurd (hbd j1 b h1) (by omega)⟩
   have hlen:ri.rows.length≤i0:=List.drop_eq_nil_iff.1 hd
   have:=(List.getElem?_eq_some_iff.1 hr).1
   omega
 | r :: rows,i0,s,hd,hf,hbd,h=>by
   have hri:ri.rows[i0]?=some r:=by
    have h0:(ri.rows.drop i0)[0]?=some r:=by rw[hd]; rfl
    rw[List.getElem?_drop] at h0; exact h0
   have hd' : ri.rows.drop (i0 + 1)=rows:=by
    rw[← List.drop_drop (i:=1) (j:=i0)] <;> rw[hd]; rfl
   obtain⟨e1,e2,e3,e4,e5⟩:=ht.row hri
   simp only[KY] at h
   split at h
   ·rename_i hk
    obtain⟨s',hK,hp⟩:=DY ht rows (i0 + 1) s hd' hf hbd h
    have hne:¬ (r.lev=lev∧lI r.kd=false):=by
     rintro⟨a,b⟩
     rw[uQ a,b] at hk
     cases hk
    refine⟨s',hK,fun j hj=>hp.keep j fun r' hr' hj'=>hj r' hr' (by omega),fun j r' hr' hj hl he=>?_,hp.sub,hp.fr,hp.rel,hp.next,fun j b hb=>(hp.bY j b hb).imp id fun⟨a,b,c,d⟩=>⟨a,b,by omega,d⟩,hp.DC⟩
    rcases Nat.lt_or_ge i0 j with hlt | hge
    ·exact hp.done j r' hr' hlt hl he
    ·have:j=i0:=by omega
     subst this
     rw[hri] at hr'; cases hr'
     exact absurd ⟨hl,he⟩ hne
   ·rename_i hk
    simp only[Bool.and_eq_true,Bool.not_eq_true'] at hk
    have Ae:=bS hk.1
    obtain⟨g,hg,hcase⟩:=xC h
    -- whatever the row gives
    have fin:∀ (v:AV) (M' : RM) (b:Option Nat),s.M.Sub M'→Fr M'→s.M.next≤M'.next→(∀ ρ w,fF P ρ s.M w→fF P ρ M' w)→(∀ b',b=some b'→s.M.next≤b'∧b'<M'.next) →
      (∀ s2:rD,(∀ j,Nat.testBit r.m j=true→s2.vals.get j=s.vals.get j)→s2.vals.get r.i=some v→s2.bY.get r.i=some b→M'.Sub s2.M→xG P ops T0 ri.wr s2 r) →
      KY P ops T0 ri.wr lev rows { vals:=s.vals.set r.i v,M:=M',bY:=s.bY.set r.i b } K→∃ s',K s'∧adG P ops T0 ri lev i0 s s':=by
     intro v M' b hsub hfr hnx hrel hb hok h
     obtain⟨s',hK,hp⟩:=DY ht rows (i0 + 1) _ hd' hfr (fun j b' hj=>by
      rw[Tree.bQ] at hj
      split at hj
      ·cases hj; exact(hb b' rfl).2
      ·exact Nat.lt_of_lt_of_le (hbd j b' hj) hnx) h
     have Ym:=hp.keep r.i (fun r' hr' hj'=>by omega)
     simp only[Tree.bQ,if_true] at Ym
     refine⟨s',hK,fun j hj=>?_,fun j r' hr' hj hl he=>?_,hsub.trans hp.sub,hp.fr,fun ρ w h=>hp.rel ρ w (hrel ρ w h),Nat.le_trans hnx hp.next,fun j b' hb'=>?_,fun j1 j2 b' h1 h2 hb'=>?_⟩
     ·have hji:j≠r.i:=fun e=>hj r (by rw[e,e1]; exact hri) (by omega) ⟨Ae,hk.2⟩
      obtain⟨k1,k2⟩:=hp.keep j fun r' hr' hj'=>hj r' hr' (by omega)
      simp only[Tree.bQ,if_neg hji] at k1 k2
      exact⟨k1,k2⟩
     ·rcases Nat.lt_or_ge i0 j with hlt | hge
      ·exact hp.done j r' hr' hlt hl he
      ·have:j=i0:=by omega
       subst this
       rw[hri] at hr'; cases hr'
       refine hok s' (fun q hq=>?_) Ym.1 Ym.2 hp.sub
       have hqlt:q<j:=by
        have hc:Closed ops.toList (fun i=>i<j):=fun i o ho hi e he' hb'=>by have:=ht.AR i o ho e he' hb'; omega
        exact ht.ahead hc hri (fun e he' hb'=>ht.AR j r.o e2 e he' hb') hq
       have hqi:q≠r.i:=by omega
       have:=(hp.keep q fun r' hr' hj'=>by omega).1
       rw[this]
       simp only[Tree.bQ,if_neg hqi]
     ·rcases hp.bY j b' hb' with k | ⟨k1,k2,k3,k4⟩
      ·simp only[Tree.bQ] at k
       split at k
       ·rename_i e
        cases k
        obtain⟨q1,q2⟩:=hb b' rfl
        exact .inr ⟨q1,Nat.lt_of_lt_of_le q2 hp.next,by omega,r,by rw[e,e1]; exact hri⟩
       ·exact .inl k
      ·simp only at k1
       exact .inr ⟨by omega,k2,by omega,k4⟩
     ·rcases Nat.lt_or_ge b' M'.next with hlt | hge
      ·have q:∀ j,s'.bY.get j=some (some b')→j=r.i:=by
        intro j hj
        rcases hp.bY j b' hj with k | ⟨k1,_⟩
        ·simp only[Tree.bQ] at k
         split at k
         ·assumption
         ·have:=hbd j b' k; omega
        ·simp only at k1; omega
       rw[q j1 h1,q j2 h2]
      ·exact hp.DC j1 j2 b' h1 h2 hge
    rcases hcase with⟨hon,hv⟩ | ⟨hoff,hv⟩
    ·unfold aqO at hv
     have val:(r.kd=.pure∨r.kd=.read)→gI P r.o (jD T0 ri.wr s.vals r.m) s.M (fun v=>KY P ops T0 ri.wr lev rows { vals:=s.vals.set r.i v,M:=s.M,bY:=s.bY.set r.i none } K)→∃ s',K s'∧adG P ops T0 ri lev i0 s s':=by
      intro hkd hv
      obtain⟨v,hgv,hk2⟩:=Fh hv
      refine fin v s.M none (RM.Sub.refl _) hf (Nat.le_refl _) (fun _ _ h=>h) (fun b' h=>by cases h) (fun s2 q1 q2 q3 q4=>?_) hk2
      refine⟨g,by rw[← hg]; exact sU q1,.inl ⟨hon,v,q2, ?_⟩⟩
      rw[Ef q1]
      rcases hkd with hkd | hkd
      ·rw[hkd]
       rcases hgv with hgv | ⟨hrd,_⟩
       ·exact hgv
       ·rw[← e5,hkd] at hrd; cases hrd
      ·rw[hkd]
       rcases hgv with hgv | ⟨_,hgv⟩
       ·exact hgv _
       ·exact hgv.sub q4
     split at hv
     ·exact val (.inl ‹_›) hv
     ·exact val (.inr ‹_›) hv
     ·rename_i hkd
      obtain⟨x,mk,hm,hk2⟩:=EB hv
      refine fin (mk s.M.next) (s.M.push x) (some s.M.next) (hf.sub x) (hf.push x) (by simp[RM.push]) (fun ρ w h=>Tw h hm) (fun b' h=>by cases h; simp[RM.push]) (fun s2 q1 q2 q3 q4=>?_) hk2
      refine⟨g,by rw[← hg]; exact sU q1,.inl ⟨hon,_,q2, ?_⟩⟩
      rw[Ef q1,hkd]
      exact⟨x,mk,s.M.next,hm,q3,q4.2 _ _ (by simp[RM.push]),rfl⟩
     ·cases hv
    ·refine fin .undef s.M none (RM.Sub.refl _) hf (Nat.le_refl _) (fun _ _ h=>h) (fun b' h=>by cases h) (fun s2 q1 q2 q3 q4=>?_) hv
     exact⟨g,by rw[← hg]; exact sU q1,.inr ⟨hoff,q2⟩⟩
end
section
variable {P:Program} {nt:Nat} {ops:Array Oper} {ri:RI} {T0:Tree AV}
theorem ab0 {wr:Tree Nat} {r:Row} {s s0:rD} {K:Prop} (h:abM P ops T0 wr r s K) (hold:xG P ops T0 wr s0 r) (hv:∀ j,Nat.testBit r.m j=true∨j=r.i→s.vals.get j=s0.vals.get j) (hb:s.bY.get r.i=s0.bY.get r.i) :
  K∧xG P ops T0 wr s r:=by
 obtain⟨g,hg,hold⟩:=hold
 have hi:=hv r.i (.inr rfl)
 have he:jD T0 wr s.vals r.m=jD T0 wr s0.vals r.m:=Ef fun j hj=>hv j (.inl hj)
 have hg' : guardOf ops wr s.vals r=some g:=by rw[← hg]; exact sU fun j hj=>hv j (.inl hj)
 have VN:Pm g→GOn g→False:=by
  intro h1 h2
  unfold Pm at h1
  unfold GOn at h2
  split at h1
  ·exact h1
  ·simp only at h2
   rcases h1 with h1 | ⟨b,h1,h3⟩
   ·rw[h2] at h1; cases h1
   ·rw[h2] at h1; cases h1; exact h3 rfl
 have aef:∀ {K'},K'→Pm g∧s0.vals.get r.i=some .undef→K'∧xG P ops T0 wr s r:=fun k h=>⟨k,g,hg',.inr ⟨h.1,by rw[hi]; exact h.2⟩⟩
 unfold abM at h
 cases hkd:r.kd with
 | pure =>
   rw[hkd] at h
   refine⟨h,g,hg', ?_⟩
   rcases hold with⟨hon,v,hvi,hk⟩ | ⟨hoff,hvi⟩
   ·refine .inl ⟨hon,v,by rw[hi]; exact hvi, ?_⟩
    rw[hkd] at hk ⊢
    rw[he]; exact hk
   ·exact .inr ⟨hoff,by rw[hi]; exact hvi⟩
 | wC =>
   rcases hold with⟨hon,v,hvi,hk⟩ | ho
   ·rw[hkd] at hk; exact hk.elim
   ·rw[hkd] at h; exact aef h ho
 | read =>
   rw[hkd] at h
   obtain⟨g2,hg2,hcase⟩:=xC h
   rw[hg'] at hg2; cases hg2
   rcases hold with⟨hon,v,hvi,hk⟩ | ho
   ·rcases hcase with⟨_,hn⟩ | ⟨hoff,_⟩
    ·obtain⟨v',hgv,hv',hK⟩:=Fh hn
     have hgv:ou P r.o (jD T0 wr s.vals r.m) s.M v':=by rcases hgv with hgv | ⟨_,hgv⟩ <;> first | exact hgv _ | exact hgv
     rw[hi,hvi] at hv'
     simp only[Option.getD_some] at hv'
     subst hv'
     refine⟨hK,g,hg',.inl ⟨hon,v',by rw[hi]; exact hvi, ?_⟩⟩
     rw[hkd]; exact hgv
    ·exact(VN hoff hon).elim
   ·rcases hcase with⟨hon,_⟩ | ⟨_,hK⟩
    ·exact(VN ho.1 hon).elim
    ·exact aef hK ho
 | alloc =>
   rw[hkd] at h
   obtain⟨g2,hg2,hcase⟩:=xC h
   rw[hg'] at hg2; cases hg2
   rcases hold with⟨hon,v,hvi,hk⟩ | ho
   ·rcases hcase with⟨_,hn⟩ | ⟨hoff,_⟩
    ·obtain⟨x,mk,hm,hx,hK⟩:=EB hn
     rw[hkd] at hk
     obtain⟨x0,mk0,b,_,h2,_,_⟩:=hk
     rw[hb,h2] at hx
     simp only[Option.getD_some] at hx
     rw[hi,hvi] at hx
     simp only[Option.getD_some] at hx
     refine⟨hK,g,hg',.inl ⟨hon,v,by rw[hi]; exact hvi, ?_⟩⟩
     rw[hkd]
     exact⟨x,mk,b,hm,by rw[hb]; exact h2,hx.1,hx.2⟩
    ·exact(VN hoff hon).elim
   ·rcases hcase with⟨hon,_⟩ | ⟨_,hK⟩
    ·exact(VN ho.1 hon).elim
    ·exact aef hK ho
theorem Oq {lev:Nat} {s s0:rD} {K:Prop} : ∀ (rows:List Row),UJ P ops T0 ri lev rows s K →
  (∀ r∈rows,lI r.kd=false→r.lev≤lev→lZ ri.ms ri.es (lev + 1) r=true→xG P ops T0 ri.wr s0 r∧(∀ j,Nat.testBit r.m j=true∨j=r.i→s.vals.get j=s0.vals.get j)∧s.bY.get r.i=s0.bY.get r.i) →
  K∧∀ r∈rows,lI r.kd=false→r.lev≤lev→lZ ri.ms ri.es (lev + 1) r=true→xG P ops T0 ri.wr s r
 | [],h,_=>⟨h,fun r hr=>by cases hr⟩
 | r :: rows,h,ho=>by
   simp only[UJ] at h
   split at h
   ·rename_i hc
    obtain⟨h1,h2⟩:=Oq rows h fun r' hr'=>ho r' (.tail _ hr')
    refine⟨h1,fun r' hr' e1 e2 e3=>?_⟩
    rcases List.mem_cons.1 hr' with e | hr'
    ·subst e
     rw[bJ.2 e2,e1,e3] at hc
     cases hc
    ·exact h2 r' hr' e1 e2 e3
   ·rename_i hc
    simp only[Bool.and_eq_true,Bool.not_eq_true'] at hc
    obtain⟨⟨c1,c2⟩,c3⟩:=hc
    obtain⟨o1,o2,o3⟩:=ho r (.head _) c2 (bL c1) c3
    obtain⟨h1,h2⟩:=ab0 h o1 o2 o3
    obtain⟨h3,h4⟩:=Oq rows h1 fun r' hr'=>ho r' (.tail _ hr')
    refine⟨h3,fun r' hr' e1 e2 e3=>?_⟩
    rcases List.mem_cons.1 hr' with e | hr'
    ·subst e; exact h2
    ·exact h4 r' hr' e1 e2 e3
theorem alP {ρ:Ren} {i:jf} {x:RB} {y y' : dw} {ob:Obj} (h:CY x y) (h' : CY x y') (hb:kT P ρ i y ob) : kT P ρ i y' ob:=by
 cases x with
 | row l opn elem fz =>
   cases y <;> first | exact h.elim | skip
   cases y' <;> first | exact h'.elim | skip
   obtain⟨rfl,rfl,rfl,rfl,h5⟩:=h
   obtain⟨h1,rfl,rfl,rfl,h5'⟩:=h'
   subst h1
   obtain⟨c,fr,rfl,hr⟩:=hb
   refine⟨c,fr,rfl,hr.size,fun k u hk=>?_,hr.free,hr.mark,hr.opn,hr.sh0⟩
   have hlt:=DX hk
   have hv:l[k]?=some l[k]:=by simp[hlt]
   have e1:=h5' k _ hv
   rw[hk] at e1; cases e1
   exact hr.val k _ (h5 k _ hv)
 | ro c=>cases y <;> exact h.elim
 | map es c =>
   cases y <;> first | exact h.elim | skip
   cases y' <;> first | exact h'.elim | skip
   obtain⟨rfl,rfl⟩:=h
   obtain⟨rfl,rfl⟩:=h'
   exact hb
 | iter m a b c =>
   cases y <;> first | exact h.elim | skip
   cases y' <;> first | exact h'.elim | skip
   obtain⟨rfl,rfl,rfl,rfl⟩:=h
   obtain⟨rfl,rfl,rfl,rfl⟩:=h'
   exact hb
 | nN s p =>
   cases y <;> first | exact h.elim | skip
   cases y' <;> first | exact h'.elim | skip
   obtain⟨rfl,rfl⟩:=h
   obtain⟨rfl,rfl⟩:=h'
   exact hb
theorem afk {ρ:Ren} {M:RM} {w:World} {b:Nat} {x:RB} {y:dw} {ob:Obj} {i:jf} (hw:fF P ρ M w) (hi:i.cb=w.heap.size) (hb:ρ b=none) (hlt:b<M.next) (hx:M.heap b=some x) (hle:CY x y)
  (hrel:kT P ρ i y ob) : fF P (ρ.add b i) M (w.alloc ob)∧Step M.lo b ρ w (ρ.add b i) (w.alloc ob):=by
 obtain⟨A,hA⟩:=hw
 rcases hA.blk b x hx with⟨y',hy',Yx⟩ | ⟨c,rfl,_⟩
 ·obtain⟨h1,h2⟩:=OQ hA.rel hA.size hi hb (by rw[hA.next]; exact hlt) hy' ((alP hle Yx hrel).mono (Ren.xI hb))
  have:=hA.size
  refine⟨⟨A,hA.next,h1,by simp; omega,fun c z hz=>?_,fun c hc=>?_⟩,h2⟩
  ·rcases hA.blk c z hz with k | ⟨d,rfl,hlt,elem,fr,hh⟩
   ·exact .inl k
   ·exact .inr ⟨d,rfl,hlt,elem,fr,by rw[heap_alloc_old w ob c (by omega)]; exact hh⟩
  ·unfold Ren.add
   rw[if_neg (fun e=>by subst e; rw[hA.old _ hc] at hb; cases hb)]
   exact hA.old c hc
 ·cases y <;> exact hle.elim
structure Jw (P:Program) (nt:Nat) (ops:Array Oper) (ri:RI) (T0:Tree AV) (M0:RM) (ρ0:Ren) (w0:World) (k:Nat) (done rest:List Nat) (s:rD) (S:Nat→Prop) (ρ:Ren) (a:Act) (w:World) : Prop where
 es:ri.es=done++rest
 len:done.length=k
 closed:Closed ops.toList S
 dn:∀ x∈done,S x
 rs:∀ x∈rest,¬ S x
 lev:∀ (j:Nat) (r:Row),ri.rows[j]?=some r→lI r.kd=false→S j→r.lev≤k
 size:a.tmps.size=nt
 defers:a.defers=[]
 slot:LV ρ T0 ri.wr s.vals S a
 nX:fF P ρ s.M w
 step:Step M0.lo M0.next ρ0 w0 ρ w
 base:s.M.base=M0.base
 next:M0.next≤s.M.next
 bid:∀ j b,s.bY.get j=some (some b)→M0.next≤b∧b<s.M.next∧(¬ S j→ρ b=none)∧j<ops.size
 DC:∀ j1 j2 b,s.bY.get j1=some (some b)→s.bY.get j2=some (some b)→j1=j2
variable {M0:RM} {ρ0:Ren} {w0:World} {k:Nat} {done rest:List Nat} {s:rD} {S:Nat→Prop} {ρ:Ren} {a:Act} {w:World}
theorem afP (ht:pF P nt ops ri) (hI:Jw P nt ops ri T0 M0 ρ0 w0 k done rest s S ρ a w) {i:Nat} {r:Row} (hr:ri.rows[i]?=some r) (hns:¬ S i) (hd:∀ e∈r.o.after.toList,Region.binds .any e=true→S e.on)
  (hok:wJ ri r=true) : ∀ x∈r.o.op.operands,az ρ (jD T0 ri.wr s.vals r.m x) (a.eval x):=by
 intro x hx
 have hx' : Kz ri r x=true:=by
  unfold wJ at hok
  exact List.all_eq_true.1 hok x (by simpa using hx)
 cases x with
 | tmp t =>
   obtain⟨h1,h2⟩:=hI.slot t
   simp only[jD,Act.eval]
   simp only[Kz] at hx'
   cases hw:ri.wr.get t with
   | none =>
     simp only
     exact h2 fun j hj=>by rw[hw] at hj; cases hj
   | some j =>
     rw[hw] at hx'
     simp only
     cases hb:Nat.testBit r.m j with
     | true =>
       simp only
       exact h1 j hw (ht.ahead hI.closed hr hd hb)
     | false =>
       simp only
       refine h2 fun j' hj'=>?_
       rw[hw] at hj'; cases hj'
       simp only[hb,Bool.false_or,Bool.or_eq_true] at hx'
       obtain⟨e1,_⟩:=ht.row hr
       rcases hx' with hx' | hx'
       ·rw[bS hx',e1]; exact hns
       ·intro hS
        rw[dP,e1] at hx'
        obtain⟨o,ho,_⟩:=ht.wrs t j hw
        exact hns (ht.Fv hI.closed hS ho hx')
 | const v =>
   simp only[jD,pO,Act.eval]
   cases hv:lH v with
   | none=>exact .top _
   | some u=>exact jK hv
 | global g=>exact .top _
 | func f=>exact .fn _ _ _ _ _ rfl .nil .nil
theorem PK (ht:pF P nt ops ri) (hI:Jw P nt ops ri T0 M0 ρ0 w0 k done rest s S ρ a w) {i:Nat} {r:Row} (hr:ri.rows[i]?=some r) (hd:∀ e∈r.o.after.toList,Region.binds .any e=true→S e.on) {g:Option (AV × Bool)}
  (hg:guardOf ops ri.wr s.vals r=some g) : (GOn g→Region.wanted r.o (yielded ops a.tmps)=true)∧(Pm g→Region.wanted r.o (yielded ops a.tmps)=false):=by
 unfold guardOf at hg
 unfold Region.wanted
 split at hg
 ·rename_i hgu; simp only[hgu]; cases hg
  exact⟨fun _=>trivial,fun h=>h.elim⟩
 ·rename_i j want hgu
  simp only[hgu]
  split at hg <;> first | (cases hg; done) | skip
  rename_i d hdst
  split at hg <;> first | (cases hg; done) | skip
  rename_i j' hb hwr
  split at hg <;> first | (cases hg; done) | skip
  rename_i he
  cases hg
  have he:=bS he
  subst he
  have hv:=(hI.slot d).1 j' hwr (ht.ahead hI.closed hr hd hb)
  have hyv:yielded ops a.tmps j'=match a.tmps[d]? with | some (.bool b)=>some b | _=>none:=by
   unfold yielded; rw[hdst]; rfl
  have hget:∀ t:Bool,a.tmps.getD d undef=.bool t↔a.tmps[d]?=some (.bool t):=by
   intro t
   rw[Array.getD_eq_getD_getElem?]
   cases hx:a.tmps[d]? with
   | none=>simp[undef]
   | some y=>simp
  have off:(∀ b,a.tmps.getD d undef=.bool b→b≠want)→(yielded ops a.tmps j' == some want)=false:=by
   intro hn
   rw[hyv]
   cases hx:a.tmps[d]? with
   | none=>rfl
   | some y =>
     cases y <;> try rfl
     rename_i b
     have:=hn b ((hget b).2 hx)
     simpa using this
  constructor
  ·intro hon
   simp only[GOn] at hon
   rw[hon] at hv
   have hc:=(bu hv).1
   rw[hyv,(hget want).1 hc]; simp
  ·intro hoff
   simp only[Pm] at hoff
   refine off fun b hb'=>?_
   rcases hoff with hu | ⟨b',hu,hne⟩
   ·rw[hu] at hv
    obtain⟨vs,hc,hrl⟩:=Ga hv
    rw[hc] at hb'; cases hb'
   ·rw[hu] at hv
    rw[(bu hv).1] at hb'; cases hb'; exact hne
def VX (P:Program) (ops:Array Oper) (T0:Tree AV) (ri:RI) (k:Nat) (s:rD) (K:rD→Prop) : List Nat→Prop
 | []=>K s
 | x :: rest=>∃ r,nth ri.rows x=some r∧Bv (guardOf ops ri.wr s.vals r) (lG P r.o (jD T0 ri.wr s.vals r.m) s.M) (fun k=>k .undef s.M)
    (fun v M'=>UJ P ops T0 ri k ri.rows { vals:=s.vals.set x v,M:=M',bY:=s.bY } (zD P ops T0 ri (k + 1) rest { vals:=s.vals.set x v,M:=M',bY:=s.bY } K))
theorem Mt (ht:pF P nt ops ri) {K:rD→Prop} {es:List Nat} (hf:Fr s.M) (hbd:∀ j b,s.bY.get j=some (some b)→b<s.M.next) (h:zD P ops T0 ri k es s K) :
  ∃ s1,VX P ops T0 ri k s1 K es∧adG P ops T0 ri k 0 s s1:=by
 cases es with
 | nil =>
   rw[zD] at h
   exact DY ht ri.rows 0 s rfl hf hbd h
 | cons x rest =>
   rw[zD] at h
   obtain⟨s1,hk,hp⟩:=DY ht ri.rows 0 s rfl hf hbd h
   refine⟨s1, ?_,hp⟩
   split at hk
   ·cases hk
   ·rename_i r hr
    exact⟨r,hr,hk⟩
def Chk (P:Program) (ops:Array Oper) (T0:Tree AV) (ri:RI) (k:Nat) (s:rD) : Prop:=∀ r∈ri.rows,lI r.kd=false→lZ ri.ms ri.es k r=true→xG P ops T0 ri.wr s r
theorem G9 {acc:List Nat} : ∀ (es:List Edge) (e:Edge),e∈es→Region.binds .any e=true→Nat.testBit (pR acc es) e.on=true∧∀ j,Nat.testBit ((nth acc e.on).getD 0) j=true→Nat.testBit (pR acc es) j=true
 | [],e,h,_=>by cases h
 | x :: es,e,h,hb=>by
   simp only[pR]
   rcases List.mem_cons.1 h with rfl | h
   ·rw[hb]
    simp only
    refine⟨?_,fun j hj=>?_⟩
    ·rw[Nat.testBit_or,Nat.testBit_or,Nat.testBit_two_pow]; simp
    ·rw[Nat.testBit_or,Nat.testBit_or,hj]; simp
   ·obtain⟨h1,h2⟩:=G9 (acc:=acc) es e h hb
    split
    ·refine⟨?_,fun j hj=>?_⟩
     ·rw[Nat.testBit_or,h1]; simp
     ·rw[Nat.testBit_or,h2 j hj]; simp
    ·exact⟨h1,h2⟩
theorem UD (ht:pF P nt ops ri) {q:Nat} {r:Row} (hq:ri.rows[q]?=some r) : ∃ pre,(∀ i,i<q→nth pre i=ri.ms[i]?)∧r.m=pR pre r.o.after.toList:=by
 obtain⟨g1,g2,g3,g4,g5⟩:=ht.row hq
 obtain⟨pre,h1,h2,h3⟩:=(Cc ops.toList []).2 q r.o g2
 simp only[List.length_nil,Nat.zero_add] at h1 h2 h3
 refine⟨pre,fun i hi=>by rw[dP,h2 i hi,← ht.ms], ?_⟩
 rw[← ht.ms,g3] at h3
 exact Option.some.inj h3
theorem PZ (ht:pF P nt ops ri) {q:Nat} {r:Row} (hq:ri.rows[q]?=some r) {e:Edge} (he:e∈r.o.after.toList) (hb:Region.binds .any e=true) : Nat.testBit r.m e.on=true:=by
 obtain⟨pre,_,h2⟩:=UD ht hq
 rw[h2]; exact(G9 _ e he hb).1
theorem Fg (ht:pF P nt ops ri) : ∀ (q:Nat) {i:Nat} {r:Row} {o:Oper},ri.rows[q]?=some r→Nat.testBit r.m i=true→ops.toList[i]?=some o→∀ {e:Edge},e∈o.after.toList→Region.binds .any e=true→Nat.testBit r.m e.on=true:=by
 intro q
 induction q using Nat.strongRecOn with
 | _ q ih =>
   intro i r o hq hi ho e he hb
   obtain⟨g1,g2,g3,g4,g5⟩:=ht.row hq
   obtain⟨pre,h1,h2⟩:=UD ht hq
   have hi':=hi
   rw[h2] at hi'
   obtain⟨e0,he0,hb0,hcase⟩:=A7 _ hi'
   have hlt:=ht.AR q r.o g2 e0 he0 hb0
   obtain⟨r0,hr0,_⟩:=ht.ex (j:=e0.on) (o:=ops.toList[e0.on]'(by have:=(List.getElem?_eq_some_iff.1 g2).1; omega)) (by simp)
   obtain⟨k1,k2,k3,k4,k5⟩:=ht.row hr0
   have hsub:∀ j,Nat.testBit r0.m j=true→Nat.testBit r.m j=true:=by
    intro j hj
    rw[h2]
    refine(G9 _ e0 he0 hb0).2 j ?_
    rw[h1 e0.on hlt,k3]; exact hj
   rcases hcase with rfl | ⟨m,hm,hmi⟩
   ·rw[k2] at ho; cases ho
    exact hsub _ (PZ ht hr0 he hb)
   ·rw[← dP,h1 e0.on hlt,k3] at hm
    cases hm
    exact hsub _ (ih e0.on hlt hr0 hmi ho he hb)
theorem Gz {m m' : Nat} (h:∀ x,Nat.testBit m x=true→Nat.testBit m' x=true) : ∀ (es:List Nat) (i0 b b' : Nat),b≤b'→b'≤i0→oH m es i0 b≤oH m' es i0 b'
 | [],i0,b,b',hb,_=>by simpa [oH] using hb
 | x :: es,i0,b,b',hb,hi=>by
   simp only[oH]
   cases hm:Nat.testBit m x with
   | true =>
     rw[h x hm]
     exact Gz h es (i0 + 1) _ _ (Nat.le_refl _) (Nat.le_refl _)
   | false =>
     cases hm' : Nat.testBit m' x with
     | true=>exact Gz h es (i0 + 1) b (i0 + 1) (by omega) (Nat.le_refl _)
     | false=>exact Gz h es (i0 + 1) b b' hb (by omega)
theorem aiQ (ht:pF P nt ops ri) {listed:Array Bool} (hsz:listed.size=ops.size) (hI:Jw P nt ops ri T0 M0 ρ0 w0 k done rest s (gm listed) ρ a w) {i:Nat} {r:Row} (hi:i<ops.size) (hr:ri.rows[i]?=some r)
  (hd:∀ e∈r.o.after.toList,Region.binds .any e=true→gm listed e.on) (hk:lI r.kd=false) (Ae:r.lev≤k) {v:AV} {v' : Value} {ρ' : Ren} {w' : World} (hvi:s.vals.get i=some v) (hv:az ρ' v v') (hle:ρ.le ρ')
  (hw:fF P ρ' s.M w') (hst:Step M0.lo M0.next ρ w ρ' w') (ahE:∀ j b,s.bY.get j=some (some b)→¬ gm (listed.setIfInBounds i true) j→ρ' b=none) :
  Jw P nt ops ri T0 M0 ρ0 w0 k done rest s (gm (listed.setIfInBounds i true)) ρ' (a.put r.o.dst v') w':=by
 have hS:∀ j,gm (listed.setIfInBounds i true) j↔gm listed j∨j=i:=wI (by omega)
 obtain⟨e1,e2,_⟩:=ht.row hr
 refine⟨hI.es,hI.len, ?_,fun x hx=>(hS x).2 (.inl (hI.dn x hx)), ?_, ?_, ?_, ?_, ?_,hw,hI.step.trans hst (Nat.le_refl _),hI.base,hI.next,fun j b hb=>⟨(hI.bid j b hb).1,(hI.bid j b hb).2.1,ahE j b hb,(hI.bid j b hb).2.2.2⟩,hI.DC⟩
 ·intro j o ho hj e he hb
  rcases(hS j).1 hj with hj | rfl
  ·exact(hS _).2 (.inl (hI.closed j o ho hj e he hb))
  ·rw[e2] at ho; cases ho
   exact(hS _).2 (.inl (hd e he hb))
 ·intro x hx hl
  rcases(hS x).1 hl with hl | rfl
  ·exact hI.rs x hx hl
  ·have:x∈ri.es:=by rw[hI.es]; exact List.mem_append_right _ hx
   rw[ht.wC hr,hk] at this
   cases this
 ·intro j r' hr' hk' hj
  rcases(hS j).1 hj with hj | rfl
  ·exact hI.lev j r' hr' hk' hj
  ·rw[hr] at hr'; cases hr'; exact Ae
 ·cases hdst:r.o.dst <;> simp[Act.put,hI.size]
 ·cases hdst:r.o.dst <;> simp[Act.put,hI.defers]
 ·exact IC ht (fun t=>⟨fun j h1 h2=>((hI.slot t).1 j h1 h2).mono hle,fun h=>((hI.slot t).2 h).mono hle⟩) hI.size hr hv hvi hS
theorem ajb (ht:pF P nt ops ri) {listed:Array Bool} (hsz:listed.size=ops.size) {i:Nat} {rest' : List Nat} (hI:Jw P nt ops ri T0 M0 ρ0 w0 k done (i :: rest') s (gm listed) ρ a w) (xm:Chk P ops T0 ri k s) {r:Row} (hi:i<ops.size) (hr:ri.rows[i]?=some r)
  (hd:∀ e∈r.o.after.toList,Region.binds .any e=true→gm listed e.on) (hnd:i ∉ rest') {v:AV} {v' : Value} {ρ' : Ren} {w' : World} {M' : RM} (hv:az ρ' v v') {K:rD→Prop}
  (haft:After P s.M ρ w M' ρ' w') (hre:UJ P ops T0 ri k ri.rows { vals:=s.vals.set i v,M:=M',bY:=s.bY } (zD P ops T0 ri (k + 1) rest' { vals:=s.vals.set i v,M:=M',bY:=s.bY } K)) :
  ∃ s3,Jw P nt ops ri T0 M0 ρ0 w0 (k + 1) (done++[i]) rest' s3 (gm (listed.setIfInBounds i true)) ρ' (a.put r.o.dst v') w'∧Chk P ops T0 ri (k + 1) s3∧VX P ops T0 ri (k + 1) s3 K rest':=by
 have hS:∀ j,gm (listed.setIfInBounds i true) j↔gm listed j∨j=i:=wI (by omega)
 obtain⟨e1,e2,e3,e4,e5⟩:=ht.row hr
 have hmem:i∈ri.es:=by rw[hI.es]; simp
 have hke:=(ht.wC hr).1 hmem
 have hle:=haft.le hI.nX
 -- an alive row that was done does not look at the effect
 have aza:ri.es[k]?=some i:=by
  rw[hI.es,List.getElem?_append_right (by rw[hI.len]; omega),hI.len]; simp
 have avm:∀ r'∈ri.rows,r'.lev≤k→Nat.testBit r'.m i=true→False:=by
  intro r' hr' hl hb
  obtain⟨q,hq⟩:=List.mem_iff_getElem?.1 hr'
  obtain⟨g1,g2,g3,g4,g5⟩:=ht.row hq
  have key:∀ (es:List Nat) (i0 oW k:Nat),es[k]?=some i→i0 + k + 1≤oH r'.m es i0 oW:=by
   intro es
   induction es with
   | nil=>intro i0 oW k h; simp at h
   | cons x es ih =>
     intro i0 oW k h
     simp only[oH]
     cases k with
     | zero =>
       simp at h; subst h
       rw[hb]
       simp only
       have mono:∀ (es:List Nat) (j oW:Nat),oW≤j→oW≤oH r'.m es j oW:=by
        intro es
        induction es with
        | nil=>intro j oW _; exact Nat.le_refl _
        | cons y es ih2 =>
          intro j oW hbj
          simp only[oH]
          split
          ·exact Nat.le_trans (by omega) (ih2 (j + 1) (j + 1) (Nat.le_refl _))
          ·exact ih2 (j + 1) oW (by omega)
       exact mono es (i0 + 1) (i0 + 1) (Nat.le_refl _)
     | succ k =>
       split
       ·have:=ih (i0 + 1) (i0 + 1) k (by simpa using h); omega
       ·have:=ih (i0 + 1) oW k (by simpa using h); omega
  have:=key ri.es 0 0 k aza
  rw[← g4] at this
  omega
 obtain⟨Xx,hrows⟩:=Oq (s0:=s) ri.rows hre fun r' hr' f1 f2 f3=>by
  refine⟨xm r' hr' f1 ?_,fun j hj=>?_,rfl⟩
  ·unfold lZ at f3 ⊢
   rw[Bool.and_eq_true] at f3 ⊢
   refine⟨bJ.2 f2, ?_⟩
   have f4:=f3.2
   rw[List.all_eq_true] at f4 ⊢
   intro x hx
   refine f4 x ?_
   have:=List.take_subset_take_left ri.es (Nat.le_succ k)
   exact this hx
  ·simp only[Tree.bQ]
   rw[if_neg]
   rintro rfl
   rcases hj with hj | hj
   ·exact avm r' hr' f2 hj
   ·obtain⟨q,hq⟩:=List.mem_iff_getElem?.1 hr'
    obtain⟨g1,_⟩:=ht.row hq
    have:q=j:=by omega
    subst this
    rw[hr] at hq; cases hq
    rw[f1] at hke; cases hke
 obtain⟨s3,hcont,hp⟩:=Mt (s := { vals:=s.vals.set i v,M:=M',bY:=s.bY }) ht (haft.rel.fr) (fun j b hb=>Nat.lt_of_lt_of_le (hI.bid j b hb).2.1 haft.next) Xx
 have hkeep:∀ j,gm listed j∨j=i→s3.vals.get j=(s.vals.set i v).get j:=by
  intro j hj
  refine(hp.keep j fun r' hr' _=>?_).1
  rintro⟨hl,hk'⟩
  rcases hj with hj | rfl
  ·have:=hI.lev j r' hr' hk' hj; omega
  ·rw[hr] at hr'; cases hr'; rw[hke] at hk'; cases hk'
 have hvi:s3.vals.get i=some v:=by rw[hkeep i (.inr rfl),Tree.bQ,if_pos rfl]
 refine⟨s3,⟨by rw[hI.es]; simp,by simp[hI.len], ?_, ?_, ?_, ?_, ?_, ?_, ?_,hp.rel _ _ haft.rel,hI.step.trans (haft.step.aaR hI.base) hI.next, ?_, ?_, ?_, ?_⟩, ?_,hcont⟩
 ·intro j o ho hj e he hb
  rcases(hS j).1 hj with hj | rfl
  ·exact(hS _).2 (.inl (hI.closed j o ho hj e he hb))
  ·rw[e2] at ho; cases ho
   exact(hS _).2 (.inl (hd e he hb))
 ·intro x hx
  rcases List.mem_append.1 hx with hx | hx
  ·exact(hS x).2 (.inl (hI.dn x hx))
  ·simp at hx; subst hx; exact(hS x).2 (.inr rfl)
 ·intro x hx hl
  rcases(hS x).1 hl with hl | rfl
  ·exact hI.rs x (.tail _ hx) hl
  ·exact hnd hx
 ·intro j r' hr' hk' hj
  rcases(hS j).1 hj with hj | rfl
  ·have:=hI.lev j r' hr' hk' hj; omega
  ·rw[hr] at hr'; cases hr'; rw[hke] at hk'; cases hk'
 ·cases hdst:r.o.dst <;> simp[Act.put,hI.size]
 ·cases hdst:r.o.dst <;> simp[Act.put,hI.defers]
 ·refine IC ht (v:=v) (S:=gm listed) (fun t=>⟨fun j h1 h2=>?_,fun h=>((hI.slot t).2 h).mono hle⟩) hI.size hr hv hvi hS
  rw[hkeep j (.inl h2),Tree.bQ]
  split
  ·rename_i e
   subst e
   exact absurd h2 (hI.rs j (.head _))
  ·exact((hI.slot t).1 j h1 h2).mono hle
 ·rw[hp.sub.1,← hI.base]; exact haft.base
 ·exact Nat.le_trans hI.next (Nat.le_trans haft.next hp.next)
 ·intro j b hb
  rcases hp.bY j b hb with h | ⟨h,h',_,r',hr'⟩
  ·obtain⟨b1,b2,b3,b4⟩:=hI.bid j b h
   refine⟨b1,Nat.lt_of_lt_of_le b2 (Nat.le_trans haft.next hp.next),fun hj=>?_,b4⟩
   rw[haft.step.ext b b2]
   exact b3 fun hl=>hj ((hS j).2 (.inl hl))
  ·refine⟨Nat.le_trans hI.next (Nat.le_trans haft.next h),h',fun _=>haft.rel.fresh h, ?_⟩
   obtain⟨g1,g2,_⟩:=ht.row hr'
   have:=(List.getElem?_eq_some_iff.1 g2).1
   rw[Array.length_toList] at this
   exact this
 ·intro j1 j2 b h1 h2
  rcases Nat.lt_or_ge b M'.next with hlt | hge
  ·have q:∀ j,s3.bY.get j=some (some b)→s.bY.get j=some (some b):=by
    intro j hj
    rcases hp.bY j b hj with k | ⟨k1,_⟩
    ·exact k
    ·simp only at k1; omega
   exact hI.DC j1 j2 b (q j1 h1) (q j2 h2)
  ·exact hp.DC j1 j2 b h1 h2 hge
 ·intro r' hr' f1 f3
  obtain⟨q,hq⟩:=List.mem_iff_getElem?.1 hr'
  obtain⟨g1,g2,g3,g4,g5⟩:=ht.row hq
  have f3':=f3
  unfold lZ at f3'
  rw[Bool.and_eq_true] at f3'
  have hl:=bL f3'.1
  by_cases he:r'.lev=k + 1
  ·exact hp.done q r' hq (Nat.zero_le _) he f1
  ·have hl' : r'.lev≤k:=by omega
   refine(hrows r' hr' f1 hl' f3).keep (fun j hj=>?_) ?_ hp.sub
   ·refine(hp.keep j fun r2 hr2 _=>?_).1
    rintro⟨h1,h2⟩
    rcases hj with hj | hj
    ·
     have hjm:r2.lev≤r'.lev:=by
      obtain⟨q1,q2,q3,q4,q5⟩:=ht.row hr2
      have sub:∀ x,Nat.testBit r2.m x=true→Nat.testBit r'.m x=true:=by
       intro x hx
       have hcl:Closed ops.toList (fun i=>Nat.testBit r'.m i=true∨i=q):=by
        intro i o ho hi e he' hb'
        rcases hi with hi | rfl
        ·exact .inl (Fg ht _ hq hi ho he' hb')
        ·rw[g2] at ho; cases ho
         exact .inl (PZ ht hq he' hb')
       rcases ht.Fv hcl (.inl hj) q2 (by rw[q3]; exact hx) with h | h
       ·exact h
       ·subst h
        exfalso
        have hlt:j<x:=by
         have hc:Closed ops.toList (fun i=>i<x):=fun i o ho hi e he' hb'=>by have:=ht.AR i o ho e he' hb'; omega
         exact ht.ahead hc hq (fun e he' hb'=>ht.AR x r'.o g2 e he' hb') hj
        have hlt2:x<j:=by
         have hc:Closed ops.toList (fun i=>i<j):=fun i o ho hi e he' hb'=>by have:=ht.AR i o ho e he' hb'; omega
         exact ht.ahead hc hr2 (fun e he' hb'=>ht.AR j r2.o q2 e he' hb') hx
        omega
      rw[q4,g4]
      exact Gz sub ri.es 0 0 0 (Nat.le_refl _) (Nat.le_refl _)
     omega
    ·have:q=j:=by omega
     subst this
     rw[hq] at hr2; cases hr2; omega
   ·refine(hp.keep r'.i fun r2 hr2 _=>?_).2
    rw[g1,hq] at hr2; cases hr2
    rintro⟨h1,_⟩; omega
theorem afd (hP:Q0 P) (ht:pF P nt ops ri) (Da:∀ r∈ri.rows,wJ ri r=true) {Q:Exit→Act→World→Prop} {K:rD→Prop}
  (hQ:∀ s ρ' a' w',K s→Step M0.lo M0.next ρ0 w0 ρ' w'→iC ρ' nt (ES T0 s.vals ri.rows) a'→fF P ρ' s.M w'→s.M.base=M0.base→M0.next≤s.M.next→Q .normal a' w') :
  ∀ (fuel:Nat) (listed:Array Bool) (k:Nat) (done rest:List Nat) (s:rD) (ρ:Ren) (a:Act) (w:World),listed.size=ops.size→listed.toList.count false≤fuel →
    Jw P nt ops ri T0 M0 ρ0 w0 k done rest s (gm listed) ρ a w→Chk P ops T0 ri k s→VX P ops T0 ri k s K rest→wpAny P .any ops Q fuel listed a w:=by
 have fin:∀ (listed:Array Bool) (k:Nat) (done rest:List Nat) (s:rD) (ρ:Ren) (a:Act) (w:World),listed.size=ops.size→(∀ i,i<ops.size→gm listed i) →
   Jw P nt ops ri T0 M0 ρ0 w0 k done rest s (gm listed) ρ a w→VX P ops T0 ri k s K rest→Q .normal a w:=by
  intro listed k done rest s ρ a w hsz hall hI hcont
  have hrest:rest=[]:=by
   cases rest with
   | nil=>rfl
   | cons x rest =>
     have hx:x∈ri.es:=by rw[hI.es]; simp
     rw[ht.es,uo] at hx
     obtain⟨j,o,hj,rfl,_⟩:=hx
     have:=(List.getElem?_eq_some_iff.1 hj).1
     exact absurd (hall (0 + j) (by simpa using this)) (hI.rs _ (.head _))
  subst hrest
  have hcont:K s:=hcont
  refine hQ s ρ a w hcont hI.step ⟨hI.size,fun t=>?_,hI.defers⟩ hI.nX hI.base hI.next
  obtain⟨g1,g2⟩:=hI.slot t
  refine IM t _ ri.rows T0 (fun r hr hd=>?_) ?_
  ·obtain⟨q,hq⟩:=List.mem_iff_getElem?.1 hr
   obtain⟨e1,e2,_⟩:=ht.row hq
   have hql:=(List.getElem?_eq_some_iff.1 e2).1
   have:=g1 r.i (ht.dst q r hq t hd).1 (by rw[e1]; exact hall q (by simpa using hql))
   exact this
  ·by_cases hex:∃ j,ri.wr.get t=some j
   ·obtain⟨j,hj⟩:=hex
    obtain⟨o,ho,hdo⟩:=ht.wrs t j hj
    obtain⟨r,hr,rfl⟩:=ht.ex ho
    exact .inl ⟨r,List.mem_of_getElem? hr,hdo⟩
   ·exact .inr (g2 fun j hj=>absurd ⟨j,hj⟩ hex)
 intro fuel
 induction fuel with
 | zero =>
   intro listed k done rest s ρ a w hsz hcnt hI xm hcont
   have hall:∀ i,i<ops.size→gm listed i:=fun i hi=>Pv (by omega) (by omega)
   refine⟨?_,fin listed k done rest s ρ a w hsz hall hI hcont⟩
   rw[List.eq_nil_iff_forall_not_mem]
   intro i hi
   obtain⟨h1,h2,_⟩:=DW hsz hi
   exact h2 (hall i h1)
 | succ fuel ih =>
   intro listed k done rest s ρ a w hsz hcnt hI xm hcont
   refine⟨fun hr=>fin listed k done rest s ρ a w hsz (I1 ht hsz hr) hI hcont,fun i hi=>?_⟩
   obtain⟨hilt,hnl,o,ho,hd⟩:=DW hsz hi
   obtain⟨r,hr,rfl⟩:=ht.ex (j:=i) (o:=o) (by rw[Array.getElem?_toList]; exact ho)
   obtain⟨e1,e2,e3,e4,e5⟩:=ht.row hr
   have hrm:=List.mem_of_getElem? hr
   have he:=afP ht hI hr hnl hd (Da r hrm)
   unfold wpOp
   simp only[ho]
   cases hk:lI r.kd with
   | false =>
     have hall:lZ ri.ms ri.es k r=true:=by
      unfold lZ
      rw[Bool.and_eq_true,List.all_eq_true]
      constructor
      ·rw[bJ,e4]
       rcases Ap (m:=r.m) ri.es 0 0 with h | ⟨q,x,a1,a2,a3⟩
       ·omega
       ·have hx:=ht.ahead hI.closed hr hd a2
        rw[a3]
        rcases Nat.lt_or_ge q k with h | h
        ·omega
        ·rw[hI.es,List.getElem?_append_right (by rw[hI.len]; exact h)] at a1
         exact absurd hx (hI.rs x (List.mem_of_getElem? a1))
      ·intro x hx
       rw[hI.es,List.take_left' hI.len] at hx
       rw[Bool.not_eq_true',← Bool.not_eq_true,e1,dP]
       intro hb
       have hxe:x∈ri.es:=by rw[hI.es]; exact List.mem_append_left _ hx
       rw[ht.es,uo] at hxe
       obtain⟨j,o',hj,hxj,_⟩:=hxe
       rw[Nat.zero_add] at hxj; subst hxj
       exact hnl (ht.Fv hI.closed (hI.dn x hx) hj hb)
     have Ae:r.lev≤k:=by
      unfold lZ at hall
      rw[Bool.and_eq_true] at hall
      exact bL hall.1
     have hok:=xm r hrm hk hall
     have hnb:∀ j b,s.bY.get j=some (some b)→¬ gm (listed.setIfInBounds i true) j→ρ b=none:=fun j b hb hj =>
      (hI.bid j b hb).2.2.1 fun hl=>hj ((wI (by omega) j).2 (.inl hl))
     have next:∀ {v:AV} {v' : Value} {ρ' : Ren} {w' : World},s.vals.get i=some v→az ρ' v v'→ρ.le ρ'→fF P ρ' s.M w'→Step M0.lo M0.next ρ w ρ' w' →
       (∀ j b,s.bY.get j=some (some b)→¬ gm (listed.setIfInBounds i true) j→ρ' b=none)→wpAny P .any ops Q fuel (listed.setIfInBounds i true) (a.put r.o.dst v') w':=by
      intro v v' ρ' w' hvi hv hle hw hst hb
      exact ih _ k done rest s ρ' _ w' (by simpa using hsz) (count_set (by omega) hnl hcnt) (aiQ ht hsz hI hilt hr hd hk Ae hvi hv hle hw hst hb) xm hcont
     have L9:ρ.le ρ:=fun _ _ h=>h
     obtain⟨g,hg,hcase⟩:=hok
     obtain⟨gon,ag7⟩:=PK ht hI hr hd hg
     rw[e1] at hcase
     rcases hcase with⟨hon,v,hvi,hkd⟩ | ⟨hoff,hvi⟩
     ·rw[gon hon]
      simp only[if_true]
      refine .inl ?_
      have val:ou P r.o (jD T0 ri.wr s.vals r.m) s.M v→r.o.wp P a w (wpAny P .any ops Q fuel (listed.setIfInBounds i true)) Q:=by
       intro hgv
       obtain⟨v',h1,h2⟩:=hgv ρ w a.eval s.M (RM.Sub.refl _) hI.nX he
       exact nu r.o h1 (next hvi h2 L9 hI.nX (Step.refl _ _ _) hnb)
      cases hkk:r.kd with
      | pure=>rw[hkk] at hkd; exact val (hkd _)
      | read=>rw[hkk] at hkd; exact val hkd
      | wC=>rw[hkk] at hkd; exact hkd.elim
      | alloc =>
        rw[hkk] at hkd
        obtain⟨x,mk,b,⟨y,hx,hle⟩,hbi,hy,hmk⟩:=hkd
        obtain⟨d,ob,u,inf,hrun,ayq,hrel,aiE⟩:=vk he hx w
        obtain⟨b1,b2,b3,b4⟩:=hI.bid i b hbi
        have hbn:=b3 hnl
        have hd' : fF P ρ s.M (if d=true then w.drew else w):=by cases d <;> simp[hI.nX,hI.nX.drew]
        have hsz' : (if d=true then w.drew else w).heap.size=w.heap.size:=by cases d <;> simp
        have hst' : Step M0.lo M0.next ρ w ρ (if d=true then w.drew else w):=by cases d <;> simp[Step.refl,Step.drew]
        obtain⟨h1,h2⟩:=afk hd' (by omega) hbn b2 hy hle hrel
        replace h2:=h2.aaR hI.base
        refine nu r.o hrun (next hvi (hmk▸aiE _ b (by simp[Ren.add])) (Ren.xI hbn) h1 (hst'.trans h2 b1) fun j b' hb' hj=>?_)
        have hne:b'≠b:=by
         intro e
         subst e
         have hji:j≠i:=fun e=>hj ((wI (by omega) j).2 (.inr e))
         exact hji (hI.DC j i b' hb' hbi)
        unfold Ren.add
        rw[if_neg hne]
        exact hnb j b' hb' hj
     ·rw[ag7 hoff]
      simp only[Bool.false_eq_true,if_false]
      exact next hvi (.tup _ _ .nil) L9 hI.nX (Step.refl _ _ _) hnb
   | true =>
     have hie:i∈ri.es:=(ht.wC hr).2 hk
     rw[hI.es] at hie
     have hir:i∈rest:=by
      rcases List.mem_append.1 hie with h | h
      ·exact absurd (hI.dn i h) hnl
      ·exact h
     cases rest with
     | nil=>cases hir
     | cons x rest' =>
       have hxi:x=i:=by
        rcases List.mem_cons.1 hir with e | hm
        ·exact e.symm
        ·obtain⟨l1,l2,hl⟩:=List.append_of_mem hm
         have:=ht.chain (done++x :: l1) i l2 (by rw[hI.es,hl]; simp) x (by simp)
         rw[e3] at this
         exact absurd (ht.ahead hI.closed hr hd this) (hI.rs x (.head _))
       subst hxi
       have hnd:x ∉ rest':=by
        intro hm
        obtain⟨l1,l2,hl⟩:=List.append_of_mem hm
        have:=ht.chain (done++x :: l1) x l2 (by rw[hI.es,hl]; simp) x (by simp)
        rw[e3] at this
        exact hnl (ht.ahead hI.closed hr hd this)
       obtain⟨r',hr',hgs⟩:=hcont
       rw[dP,hr] at hr'; cases hr'
       obtain⟨g,hg,hcase⟩:=xC hgs
       obtain⟨gon,ag7⟩:=PK ht hI hr hd hg
       have next:∀ {v:AV} {v' : Value} {ρ' : Ren} {w' : World} {M' : RM},az ρ' v v'→After P s.M ρ w M' ρ' w' →
         UJ P ops T0 ri k ri.rows { vals:=s.vals.set x v,M:=M',bY:=s.bY } (zD P ops T0 ri (k + 1) rest' { vals:=s.vals.set x v,M:=M',bY:=s.bY } K) →
         wpAny P .any ops Q fuel (listed.setIfInBounds x true) (a.put r.o.dst v') w':=by
        intro v v' ρ' w' M' hv haft hre
        obtain⟨s3,h1,h2,h3⟩:=ajb ht hsz hI xm hilt hr hd hnd hv haft hre
        exact ih _ (k + 1) _ rest' s3 ρ' _ w' (by simpa using hsz) (count_set (by omega) hnl hcnt) h1 h2 h3
       rcases hcase with⟨hon,hn⟩ | ⟨hoff,hn⟩
       ·rw[gon hon]
        simp only[if_true]
        exact .inl (aa4 (MQ hP (fun _=>rfl) hn) hI.nX he fun v v' M' ρ' w' haft hv hk=>next hv haft hk)
       ·rw[ag7 hoff]
        simp only[Bool.false_eq_true,if_false]
        exact next (.tup _ _ .nil) (After.refl hI.nX) hn
theorem OP {vals:Tree AV} {t:Nat} : ∀ (rows:List Row) (T:Tree AV),(∀ r∈rows,r.o.dst≠some t)→(ES T vals rows).get t=T.get t
 | [],T,_=>rfl
 | r :: rows,T,h=>by
   simp only[ES]
   cases hd:r.o.dst with
   | none=>exact OP rows T fun r' hr'=>h r' (.tail _ hr')
   | some d =>
     simp only
     rw[OP rows _ fun r' hr'=>h r' (.tail _ hr'),Tree.bQ,if_neg]
     intro e; subst e
     exact h r (.head _) hd
theorem Z9 (hP:Q0 P) {id:Nat} {T:Tree AV} {M:RM} {K:Tree AV→RM→Prop} {Q:Exit→Act→World→Prop} (hM:After P M0 ρ0 w0 M ρ w) (hA:iC ρ nt T a)
  (hQ:∀ T' M' ρ' a' w',After P M0 ρ0 w0 M' ρ' w'→iC ρ' nt T' a'→K T' M'→(∀ t,(∀ o∈ops.toList,o.dst≠some t)→T'.get t=T.get t)→Q .normal a' w') (h:acI P nt ops T M K) : (Code.region id ops true).wp P Q a w:=by
 unfold acI at h
 split at h <;> first | (cases h; done) | skip
 rename_i ri hri
 split at h <;> first | (cases h; done) | skip
 rename_i Da
 have ht:=FD hri
 obtain⟨s1,h1,hp⟩:=Mt ht hM.rel.fr (fun j b hb=>by simp[Tree.get] at hb) h
 have hno:∀ i,¬ gm (Array.replicate ops.size false) i:=by
  intro i h
  unfold gm at h
  simp only[Array.getD_eq_getD_getElem?,Array.getElem?_replicate] at h
  split at h <;> simp at h
 refine wp_region_any hP.mixed (afd (M0:=M0) (ρ0:=ρ0) (w0:=w0) (T0:=T) hP ht (fun r hr=>List.all_eq_true.1 Da r hr) (fun s ρ' a' w' k0 k1 k2 k3 k4 k5=>hQ _ _ ρ' a' w' ⟨k1,k3,k4,k5⟩ k2 k0 (fun t hnt=>OP ri.rows T fun r hr=>by
   obtain⟨q,hq⟩:=List.mem_iff_getElem?.1 hr
   exact hnt r.o (List.mem_of_getElem? (ht.row hq).2.1))) ops.size _ 0 [] ri.es s1 ρ a _ (by simp) (by simp) ?_ ?_ h1)
 ·refine⟨rfl,rfl,fun i o _ hi=>absurd hi (hno i),(fun x hx=>by cases hx),fun x _=>hno x,fun j r _ _ hj=>absurd hj (hno j),hA.size,hA.defers,fun t=>⟨fun j _ hj=>absurd hj (hno j),fun _=>hA.val t⟩,hp.rel _ _ hM.rel.drew,hM.step.trans (Step.drew (n:=M0.next)) (Nat.le_refl _),by rw[hp.sub.1]; exact hM.base,Nat.le_trans hM.next hp.next,fun j b hb'=>?_,fun j1 j2 b b1 b2=>?_⟩
  ·rcases hp.bY j b hb' with h | ⟨h,h',_,r,hr⟩
   ·simp[Tree.get] at h
   ·refine⟨Nat.le_trans hM.next h,h',fun _=>hM.rel.fresh h, ?_⟩
    obtain⟨g1,g2,_⟩:=ht.row hr
    have:=(List.getElem?_eq_some_iff.1 g2).1
    rw[Array.length_toList] at this
    exact this
  ·rcases hp.bY j1 b b1 with h | ⟨h,_⟩
   ·simp[Tree.get] at h
   ·exact hp.DC j1 j2 b b1 b2 h
 ·intro r hr hk hal
  obtain⟨q,hq⟩:=List.mem_iff_getElem?.1 hr
  unfold lZ at hal
  rw[Bool.and_eq_true] at hal
  exact hp.done q r hq (Nat.zero_le _) (by have:=bL hal.1; omega) hk
end
def Yp:Option Tmp→Nat
 | some d=>2 ^ d
 | none=>0
def aer:Operand→Nat
 | .tmp t=>2 ^ t
 | _=>0
def afH:List Operand→Nat
 | []=>0
 | x :: xs=>aer x ||| afH xs
def aiM (L m:Nat) : Nat:=L ^^^ (L &&& m)
def PV:List Oper→Nat
 | []=>0
 | o :: os=>Yp o.dst ||| PV os
def jC:Nat→Code→Nat
 | 0,_=>0
 | f + 1,c=>match c with
   | .region _ ops _=>PV ops.toList
   | .seq a b=>jC f a ||| jC f b
   | .cond _ a b=>jC f a ||| jC f b
   | .block _ c=>jC f c
   | .loop c=>jC f c
   | .scope c=>jC f c
   | _=>0
def aba:List Oper→Nat→Nat
 | [],L=>L
 | o :: os,L=>aiM (aba os L) (Yp o.dst) ||| afH o.op.operands.toList
def afv:List (Nat × Nat)→Nat→Nat
 | [],_=>0
 | (i,L) :: r,id=>match Nat.beq i id with
   | true=>L
   | false=>afv r id
def jN (ret:Nat) : Nat→List (Nat × Nat)→Code→Nat→Nat
 | 0,_,_,_=>0
 | f + 1,env,c,L=>match c with
   | .skip=>L
   | .region _ ops _=>aba ops.toList L
   | .seq a b=>jN ret f env a (jN ret f env b L)
   | .cond c a b=>aer c ||| jN ret f env a L ||| jN ret f env b L
   | .block id c=>jN ret f ((id,L) :: env) c L
   | .loop c=>jN ret f env c (jN ret f env c 0)
   | .exit id=>afv env id
   | .ret=>ret
   | .scope c=>jN ret f env c L
   | .label _=>L
   | _=>0
def cap2 (n:Nat) : Nat:=match n with | 0=>0 | 1=>1 | _=>2
def yN (id:Nat) : Nat→Code→Nat
 | 0,_=>2
 | f + 1,c=>match c with
   | .seq a b=>cap2 (yN id f a + yN id f b)
   | .cond _ a b=>cap2 (yN id f a + yN id f b)
   | .block _ c=>yN id f c
   | .loop c=>yN id f c
   | .exit i=>match Nat.beq i id with | true=>1 | false=>0
   | _=>0
def BV:Nat→Code→Nat
 | 0,_=>2
 | f + 1,c=>match c with
   | .skip=>1
   | .region _ _ _=>1
   | .seq a b=>cap2 (BV f a * BV f b)
   | .cond _ a b=>cap2 (BV f a + BV f b)
   | .block id c=>cap2 (BV f c + yN id f c)
   | .scope c=>BV f c
   | .label _=>1
   | _=>0
def Fy (m:Nat) : Nat→Nat→List Nat
 | _,0=>[]
 | i,n + 1=>match Nat.testBit m i with
   | true=>i :: Fy m (i + 1) n
   | false=>Fy m (i + 1) n
def bitsOf (m nt:Nat) : List Nat:=Fy m 0 nt
def EJ (T:Tree AV) : List Nat→List AV
 | []=>[]
 | t :: ts=>(T.get t).getD .top :: EJ T ts
def aa:List AV→Nat→AV
 | [],_=>.top
 | x :: _,0=>x
 | _ :: xs,n + 1=>aa xs n
def G5 (T:Tree AV) : List Nat→Tree AV
 | []=>T
 | t :: ts=>G5 (T.set t .top) ts
def WG (T:Tree AV) (xs:List AV) : Nat→List Nat→Tree AV
 | _,[]=>T
 | i,t :: ts=>WG (T.set t (aa xs i)) xs (i + 1) ts
def GX (T:Tree AV) (asg vs:List Nat) (xs:List AV) : Tree AV:=WG (G5 T asg) xs 0 vs
def ay (x:AV) (p q:Prop) : Prop :=
 match x with
 | .sc (.bool b)=>(b=true→p)∧(b=false→q)
 | _=>False
def ed (f:(List AV→RM→Prop)→Prop) (g:List AV→RM→Prop) : Prop:=f g
def aV (body:(List AV→RM→Prop)→List AV→RM→Prop) (xs:List AV) (M:RM) : Prop :=
 ∃ (I:Nat→List AV→RM→Prop) (n:Nat),I n xs M∧∀ m ys M',I m ys M'→body (fun zs M''=>∃ m',m'<m∧I m' zs M'') ys M'
abbrev K3:=Ex→Tree AV→RM→Prop
def wpC (P:Program) (nt ret:Nat) : Nat→Code→List (Nat × Nat)→Nat→Tree AV→RM→K3→Prop
 | 0,_,_,_,_,_,_=>False
 | f + 1,c,env,L,T,M,K=>match c with
   | .skip=>K .normal T M
   | .region _ ops false=>TF P nt ops ops.toList T M (fun T' M'=>K .normal T' M')
   | .region _ ops true=>acI P nt ops T M (fun T' M'=>K .normal T' M')
   | .seq a b=>match Nat.ble (BV f a) 1 with
     | true=>wpC P nt ret f a env (jN ret f env b L) T M (fun e T' M'=>match e with
       | .normal=>wpC P nt ret f b env L T' M' K
       | e=>K e T' M')
     | false=>ed (fun J=>wpC P nt ret f a env (jN ret f env b L) T M (fun e T' M'=>match e with
       | .normal=>J (EJ T' (bitsOf (jC f a &&& jN ret f env b L) nt)) M'
       | e=>K e T' M'))
       (fun xs M'=>wpC P nt ret f b env L (GX T (bitsOf (jC f a) nt) (bitsOf (jC f a &&& jN ret f env b L) nt) xs) M' K)
   | .cond c a b=>ay (pO T c) (wpC P nt ret f a env L T M K) (wpC P nt ret f b env L T M K)
   | .block id c=>wpC P nt ret f c ((id,L) :: env) L T M (fun e T' M'=>match e with
     | .exit i=>match Nat.beq i id with
       | true=>K .normal T' M'
       | false=>K (.exit i) T' M'
     | e=>K e T' M')
   | .loop c=>aV (fun next xs M'=>wpC P nt ret f c env (jN ret f env c (jN ret f env c 0)) (GX T (bitsOf (jC f c) nt) (bitsOf (jC f c &&& jN ret f env c (jN ret f env c 0)) nt) xs) M'
     (fun e T' M'=>match e with
      | .normal=>next (EJ T' (bitsOf (jC f c &&& jN ret f env c (jN ret f env c 0)) nt)) M'
      | e=>K e T' M'))
     (EJ T (bitsOf (jC f c &&& jN ret f env c (jN ret f env c 0)) nt)) M
   | .exit id=>K (.exit id) T M
   | .ret=>K .ret T M
   | .scope c=>wpC P nt ret f c env L T M K
   | .label _=>K .normal T M
   | _=>False
def agG (P:Program) (T:Tree AV) (M:RM) (r:ResultVar) (K:AV→Prop) : Prop :=
 match r with
 | .tmp t=>K ((T.get t).getD .top)
 | .cell a t=>match fe P t with
   | some false=>ai M ((T.get a).getD .top) K
   | some true=>match bP P t with
     | some n=>aI M ((T.get a).getD .top) n K
     | none=>False
   | none=>False
def agU (P:Program) (T:Tree AV) (M:RM) : List ResultVar→(List AV→Prop)→Prop
 | [],K=>K []
 | r :: rs,K=>agG P T M r (fun v=>agU P T M rs (fun vs=>K (v :: vs)))
def anU (Q:ak) (M:RM) : List AV→Prop
 | [v]=>Q v M
 | vs=>Q (.tup vs) M
def Uq:List ResultVar→Nat
 | []=>0
 | .tmp t :: rs=>2 ^ t ||| Uq rs
 | .cell a _ :: rs=>2 ^ a ||| Uq rs
def afT (P:Program) (fn:Func) (c:Code) (args:List AV) (M:RM) (Q:ak) : Prop :=
 wpC P (args.length + (fn.ntmps - args.length)) (Uq fn.results.toList) 1000 c [] 0 (Tree.ofList args 0 .leaf) M
  (fun e T M'=>match e with
   | .exit _=>False
   | _=>agU P T M' fn.results.toList (anU Q M'))
section
variable {P:Program} {nt ret:Nat}
def adu (P:Program) (nt:Nat) (M0:RM) (ρ0:Ren) (w0:World) (T:Tree AV) (asg:Nat) (K:K3) (e:Exit) (a:Act) (w:World) : Prop :=
 ∃ x T' M' ρ',e=Sw x∧After P M0 ρ0 w0 M' ρ' w∧iC ρ' nt T' a∧(∀ t,Nat.testBit asg t=false→T'.get t=T.get t)∧K x T' M'
theorem YB {T:Tree AV} : ∀ (vs:List Nat) (i:Nat),aa (EJ T vs) i=match vs[i]? with | some t=>(T.get t).getD .top | none=>.top
 | [],i=>by simp[EJ,aa]
 | t :: vs,0=>by simp[EJ,aa]
 | t :: vs,i + 1=>by simp[EJ,aa,YB vs i]
theorem KV:∀ (asg:List Nat) (T:Tree AV) (t:Nat),(G5 T asg).get t=if t∈asg then some .top else T.get t
 | [],T,t=>by simp[G5]
 | d :: asg,T,t=>by
   simp only[G5,KV asg,Tree.bQ,List.mem_cons]
   by_cases h1:t∈asg
   ·simp[h1]
   ·by_cases h2:t=d <;> simp[h1,h2]
theorem ND:∀ (vs:List Nat) (T:Tree AV) (xs:List AV) (i t:Nat),(t ∉ vs∧(WG T xs i vs).get t=T.get t)∨∃ j,vs[j]?=some t∧(WG T xs i vs).get t=some (aa xs (i + j))
 | [],T,xs,i,t=>.inl ⟨by simp,rfl⟩
 | d :: vs,T,xs,i,t=>by
   simp only[WG]
   rcases ND vs (T.set d (aa xs i)) xs (i + 1) t with⟨h1,h2⟩ | ⟨j,h1,h2⟩
   ·rw[Tree.bQ] at h2
    by_cases e:t=d
    ·rw[if_pos e] at h2
     exact .inr ⟨0,by simp[e],h2⟩
    ·rw[if_neg e] at h2
     exact .inl ⟨by simp[e,h1],h2⟩
   ·exact .inr ⟨j + 1,by simpa using h1,by rw[h2]; congr 2; omega⟩
theorem GM {m:Nat} : ∀ (n i t:Nat),t∈Fy m i n↔i≤t∧t<i + n∧Nat.testBit m t=true
 | 0,i,t=>by simp[Fy]; omega
 | n + 1,i,t=>by
   simp only[Fy]
   split
   ·rename_i h
    rw[List.mem_cons,GM n (i + 1) t]
    constructor
    ·rintro(rfl | ⟨a,b,c⟩)
     ·exact⟨Nat.le_refl _,by omega,h⟩
     ·exact⟨by omega,by omega,c⟩
    ·rintro⟨a,b,c⟩
     by_cases e:t=i
     ·exact .inl e
     ·exact .inr ⟨by omega,by omega,c⟩
   ·rename_i h
    rw[GM n (i + 1) t]
    constructor
    ·rintro⟨a,b,c⟩; exact⟨by omega,by omega,c⟩
    ·rintro⟨a,b,c⟩
     have:t≠i:=fun e=>by subst e; rw[h] at c; cases c
     exact⟨by omega,by omega,c⟩
theorem AL {m n t:Nat} : t∈bitsOf m n↔t<n∧Nat.testBit m t=true:=by
 unfold bitsOf; rw[GM]; simp
theorem JI {ρ:Ren} {T T' : Tree AV} {a:Act} {asg:Nat} {vs:List Nat} (h:iC ρ nt T' a) (hge:∀ t,nt≤t→az ρ ((T.get t).getD .top) undef) (hk:∀ t,Nat.testBit asg t=false→T'.get t=T.get t) : iC ρ nt (GX T (bitsOf asg nt) vs (EJ T' vs)) a:=by
 refine⟨h.size,fun t=>?_,h.defers⟩
 unfold GX
 rcases ND vs (G5 T (bitsOf asg nt)) (EJ T' vs) 0 t with⟨_,h2⟩ | ⟨j,h1,h2⟩
 ·rw[h2,KV]
  split
  ·exact .top _
  ·rename_i hm
   by_cases hb:Nat.testBit asg t=true
   ·have hge' : nt≤t:=by
     rcases Nat.lt_or_ge t nt with hlt | hge
     ·exact absurd (AL.2 ⟨hlt,hb⟩) hm
     ·exact hge
    have hv:a.tmps.getD t undef=undef:=by
     rw[Array.getD_eq_getD_getElem?,Array.getElem?_eq_none (by rw[h.size]; exact hge')]; rfl
    rw[hv]; exact hge t hge'
   ·rw[← hk t (by simpa using hb)]
    exact h.val t
 ·rw[h2,Nat.zero_add,YB,h1]
  exact h.val t
theorem Qw {T:Tree AV} {asg:Nat} {vs:List Nat} {xs:List AV} (hvs:∀ t∈vs,Nat.testBit asg t=true) (t:Nat) (h:Nat.testBit asg t=false) : (GX T (bitsOf asg nt) vs xs).get t=T.get t:=by
 unfold GX
 rcases ND vs (G5 T (bitsOf asg nt)) xs 0 t with⟨_,h2⟩ | ⟨j,h1,h2⟩
 ·rw[h2,KV,if_neg]
  intro hm
  rw[(AL.1 hm).2] at h; cases h
 ·have:=hvs t (List.mem_of_getElem? h1)
  rw[h] at this; cases this
theorem iC.ge {ρ:Ren} {T:Tree AV} {a:Act} (h:iC ρ nt T a) : ∀ t,nt≤t→az ρ ((T.get t).getD .top) undef:=by
 intro t ht
 have:=h.val t
 rw[Array.getD_eq_getD_getElem?,Array.getElem?_eq_none (by rw[h.size]; exact ht)] at this
 exact this
theorem MP {c:Code} {Q:Exit→Act→World→Prop} : ∀ {n m:Nat} {a:Act} {w:World},n≤m→Code.rounds P c Q n a w→Code.rounds P c Q m a w
 | 0,_,_,_,_,h=>h.elim
 | n + 1,m + 1,a,w,hle,h=>by
   rw[rounds_succ] at h ⊢
   refine wp_mono h fun e a' w' hp=>?_
   cases e with
   | normal=>exact MP (Nat.le_of_succ_le_succ hle) hp
   | exit id=>exact hp
   | ret=>exact hp
   | goto l=>exact hp
   | panic c=>exact hp
   | outgrown=>exact hp
theorem Ht {t:Nat} : ∀ (l:List Oper),Nat.testBit (PV l) t=false→∀ o∈l,o.dst≠some t
 | [],_,o,ho=>by cases ho
 | x :: l,h,o,ho=>by
   simp only[PV,Nat.testBit_or,Bool.or_eq_false_iff] at h
   rcases List.mem_cons.1 ho with rfl | ho
   ·intro e
    rw[e] at h
    simp[Yp,Nat.testBit_two_pow] at h
   ·exact Ht l h.2 o ho
theorem aeV {ρ:Ren} {x:AV} {u:Value} {p q:Prop} (h:ay x p q) (hx:az ρ x u) : ∃ b,u=.bool b∧(b=true→p)∧(b=false→q):=by
 unfold ay at h
 split at h <;> first | (cases h; done) | skip
 rename_i b
 exact⟨b,(bu hx).1,h.1,h.2⟩
theorem aeI (hP:Q0 P) : ∀ (f:Nat) (c:Code) (env:List (Nat × Nat)) (L:Nat) (T:Tree AV) (M:RM) (K:K3),wpC P nt ret f c env L T M K →
  ∀ (M0:RM) (ρ0:Ren) (w0:World) (ρ:Ren) (a:Act) (w:World),After P M0 ρ0 w0 M ρ w→iC ρ nt T a→c.wp P (adu P nt M0 ρ0 w0 T (jC f c) K) a w:=by
 intro f
 induction f with
 | zero=>intro c env L T M K h; exact h.elim
 | succ f ih =>
   intro c env L T M K h M0 ρ0 w0 ρ a w hM hA
   cases c with
   | skip=>exact wp_skip ⟨.normal,T,M,ρ,rfl,hM,hA,fun _ _=>rfl,h⟩
   | region id ops d =>
     cases d with
     | false =>
       refine wp_region ?_
       have:=GU (nt:=nt) hP (ops:=ops) (Q:=adu P nt M0 ρ0 w0 T (jC (f + 1) (.region id ops false)) K) (K:=fun T' M'=>K .normal T' M') (M0:=M0) (ρ0:=ρ0) (w0:=w0) (T0:=T)
        (fun T' M' ρ' a' w' k1 k2 k3 k4=>⟨.normal,T',M',ρ',rfl,k1,k2,fun t ht=>k4 t (Ht _ ht),k3⟩) ops.toList 0 (by simp) hA hM (fun _ _=>rfl) h
       rw[Array.length_toList,← List.range_eq_range'] at this
       exact this
     | true =>
       exact Z9 (nt:=nt) (T:=T) hP hM hA (fun T' M' ρ' a' w' k1 k2 k3 k4=>⟨.normal,T',M',ρ',rfl,k1,k2,fun t ht=>k4 t (Ht _ ht),k3⟩) h
   | seq c1 c2 =>
     simp only[wpC] at h
     refine wp_seq ?_
     split at h
     ·refine wp_mono (ih c1 _ _ _ _ _ h M0 ρ0 w0 ρ a w hM hA) fun e a' w' hp=>?_
      obtain⟨x,T1,M1,ρ1,rfl,k1,k2,k3,k4⟩:=hp
      cases x with
      | normal =>
        refine wp_mono (ih c2 _ _ _ _ _ k4 M0 ρ0 w0 ρ1 a' w' k1 k2) fun e a2 w2 hp=>?_
        obtain⟨x,T2,M2,ρ2,he,q1,q2,q3,q4⟩:=hp
        exact⟨x,T2,M2,ρ2,he,q1,q2,fun t ht=>by
         simp only[jC,Nat.testBit_or,Bool.or_eq_false_iff] at ht
         rw[q3 t ht.2,k3 t ht.1],q4⟩
      | exit i=>exact⟨.exit i,T1,M1,ρ1,rfl,k1,k2,fun t ht=>by
        simp only[jC,Nat.testBit_or,Bool.or_eq_false_iff] at ht
        exact k3 t ht.1,k4⟩
      | ret=>exact⟨.ret,T1,M1,ρ1,rfl,k1,k2,fun t ht=>by
        simp only[jC,Nat.testBit_or,Bool.or_eq_false_iff] at ht
        exact k3 t ht.1,k4⟩
     ·unfold ed at h
      refine wp_mono (ih c1 _ _ _ _ _ h M0 ρ0 w0 ρ a w hM hA) fun e a' w' hp=>?_
      obtain⟨x,T1,M1,ρ1,rfl,k1,k2,k3,k4⟩:=hp
      have hge:∀ t,nt≤t→az ρ1 ((T.get t).getD .top) undef:=fun t ht=>by
       have h1:=k2.ge t ht
       by_cases hb:Nat.testBit (jC f c1) t=false
       ·rw[k3 t hb] at h1; exact h1
       ·have h0:=hA.ge t ht
        have hu:∀ (ρ ρ' : Ren) (x:AV),az ρ x undef→az ρ' x undef:=by
         intro ρ ρ' x hx
         unfold undef at hx ⊢
         cases hx with
         | top=>exact .top _
         | sc v p=>exact .sc _ p
         | tup xs vs a=>cases a; exact .tup _ _ .nil
        exact hu _ _ _ h0
      cases x with
      | normal =>
        refine wp_mono (ih c2 _ _ _ _ _ k4 M0 ρ0 w0 ρ1 a' w' k1 (JI k2 hge k3)) fun e a2 w2 hp=>?_
        obtain⟨x,T2,M2,ρ2,he,q1,q2,q3,q4⟩:=hp
        refine⟨x,T2,M2,ρ2,he,q1,q2,fun t ht=>?_,q4⟩
        simp only[jC,Nat.testBit_or,Bool.or_eq_false_iff] at ht
        rw[q3 t ht.2]
        refine Qw (fun t' ht'=>?_) t ht.1
        have:=(AL.1 ht').2
        rw[Nat.testBit_and,Bool.and_eq_true] at this
        exact this.1
      | exit i=>exact⟨.exit i,T1,M1,ρ1,rfl,k1,k2,fun t ht=>by
        simp only[jC,Nat.testBit_or,Bool.or_eq_false_iff] at ht
        exact k3 t ht.1,k4⟩
      | ret=>exact⟨.ret,T1,M1,ρ1,rfl,k1,k2,fun t ht=>by
        simp only[jC,Nat.testBit_or,Bool.or_eq_false_iff] at ht
        exact k3 t ht.1,k4⟩
   | cond cnd c1 c2 =>
     simp only[wpC] at h
     obtain⟨b,hb,h1,h2⟩:=aeV h (DD hA cnd)
     cases b with
     | true =>
       refine wp_cond_true hb (wp_mono (ih c1 _ _ _ _ _ (h1 rfl) M0 ρ0 w0 ρ a w hM hA) fun e a' w' hp=>?_)
       obtain⟨x,T1,M1,ρ1,he,k1,k2,k3,k4⟩:=hp
       exact⟨x,T1,M1,ρ1,he,k1,k2,fun t ht=>by
         simp only[jC,Nat.testBit_or,Bool.or_eq_false_iff] at ht
         exact k3 t ht.1,k4⟩
     | false =>
       refine wp_cond_false hb (wp_mono (ih c2 _ _ _ _ _ (h2 rfl) M0 ρ0 w0 ρ a w hM hA) fun e a' w' hp=>?_)
       obtain⟨x,T1,M1,ρ1,he,k1,k2,k3,k4⟩:=hp
       exact⟨x,T1,M1,ρ1,he,k1,k2,fun t ht=>by
         simp only[jC,Nat.testBit_or,Bool.or_eq_false_iff] at ht
         exact k3 t ht.2,k4⟩
   | block id c1 =>
     simp only[wpC] at h
     refine wp_block (wp_mono (ih c1 _ _ _ _ _ h M0 ρ0 w0 ρ a w hM hA) fun e a' w' hp=>?_)
     obtain⟨x,T1,M1,ρ1,rfl,k1,k2,k3,k4⟩:=hp
     cases x with
     | normal=>exact⟨.normal,T1,M1,ρ1,rfl,k1,k2,k3,k4⟩
     | ret=>exact⟨.ret,T1,M1,ρ1,rfl,k1,k2,k3,k4⟩
     | exit i =>
       simp only at k4
       split at k4
       ·rename_i he
        have he:=bS he
        subst he
        simp only[Sw,Exit.inBlock,if_true]
        exact⟨.normal,T1,M1,ρ1,rfl,k1,k2,k3,k4⟩
       ·rename_i he
        have he:=DI he
        simp only[Sw,Exit.inBlock,if_neg he]
        exact⟨.exit i,T1,M1,ρ1,rfl,k1,k2,k3,k4⟩
   | loop c1 =>
     simp only[wpC] at h
     obtain⟨I,n,hI,hbody⟩:=h
     have hvs:∀ t∈bitsOf (jC f c1 &&& jN ret f env c1 (jN ret f env c1 0)) nt,Nat.testBit (jC f c1) t=true:=fun t' ht'=>by
      have:=(AL.1 ht').2
      rw[Nat.testBit_and,Bool.and_eq_true] at this
      exact this.1
     generalize hv:bitsOf (jC f c1 &&& jN ret f env c1 (jN ret f env c1 0)) nt=vs at hI hbody hvs
     have hu:∀ (ρ ρ' : Ren) (x:AV),az ρ x undef→az ρ' x undef:=by
      intro ρ ρ' x hx
      unfold undef at hx ⊢
      cases hx with
      | top=>exact .top _
      | sc v p=>exact .sc _ p
      | tup xs vs a=>cases a; exact .tup _ _ .nil
     have hge:∀ (ρ1:Ren) t,nt≤t→az ρ1 ((T.get t).getD .top) undef:=fun ρ1 t ht=>hu _ _ _ (hA.ge t ht)
     have key:∀ (m:Nat) (ys:List AV) (M1:RM) (ρ1:Ren) (a1:Act) (w1:World),I m ys M1→After P M0 ρ0 w0 M1 ρ1 w1→iC ρ1 nt (GX T (bitsOf (jC f c1) nt) vs ys) a1 →
       Code.rounds P c1 (adu P nt M0 ρ0 w0 T (jC (f + 1) (.loop c1)) K) (m + 1) a1 w1:=by
      intro m
      induction m using Nat.strongRecOn with
      | _ m ihm =>
        intro ys M1 ρ1 a1 w1 hIm hM1 hA1
        rw[rounds_succ]
        refine wp_mono (ih c1 _ _ _ _ _ (hbody m ys M1 hIm) M0 ρ0 w0 ρ1 a1 w1 hM1 hA1) fun e a' w' hp=>?_
        obtain⟨x,T2,M2,ρ2,rfl,k1,k2,k3,k4⟩:=hp
        have k3' : ∀ t,Nat.testBit (jC f c1) t=false→T2.get t=T.get t:=fun t ht=>by rw[k3 t ht]; exact Qw hvs t ht
        cases x with
        | normal =>
          obtain⟨m',hlt,hI'⟩:=k4
          exact MP (by omega) (ihm m' hlt _ M2 ρ2 a' w' hI' k1 (JI k2 (hge ρ2) k3'))
        | exit i=>exact⟨.exit i,T2,M2,ρ2,rfl,k1,k2,k3',k4⟩
        | ret=>exact⟨.ret,T2,M2,ρ2,rfl,k1,k2,k3',k4⟩
     exact wp_loop_rounds _ (key n _ M ρ a w hI hM (JI hA (hge ρ) fun _ _=>rfl))
   | exit id=>exact wp_exit ⟨.exit id,T,M,ρ,rfl,hM,hA,fun _ _=>rfl,h⟩
   | ret=>exact wp_ret ⟨.ret,T,M,ρ,rfl,hM,hA,fun _ _=>rfl,h⟩
   | rangeFunc=>simp[wpC] at h
   | scope c1 =>
     simp only[wpC] at h
     refine wp_scope_straight (wp_mono (ih c1 _ _ _ _ _ h M0 ρ0 w0 ρ a w hM hA) fun e a' w' hp=>?_)
     obtain⟨x,T1,M1,ρ1,rfl,k1,k2,k3,k4⟩:=hp
     cases x with
     | normal=>exact⟨.normal,T1,M1,ρ1,rfl,k1,k2,k3,k4⟩
     | exit i=>exact⟨.exit i,T1,M1,ρ1,rfl,k1,k2,k3,k4⟩
     | ret=>exact⟨.ret,T1,M1,ρ1,rfl,k1,k2,k3,k4⟩
   | label l=>exact wp_label ⟨.normal,T,M,ρ,rfl,hM,hA,fun _ _=>rfl,h⟩
   | goto=>simp[wpC] at h
   | refuse=>simp[wpC] at h
theorem abI {ρ:Ren} {T:Tree AV} {M:RM} {a:Act} {w:World} (hA:iC ρ nt T a) (hw:fF P ρ M w) {r:ResultVar} {K:AV→Prop} (h:agG P T M r K) :
  ∃ v v',(xc a.tmps r).run P w=.ok v' w∧az ρ v v'∧K v:=by
 cases r with
 | tmp t=>exact⟨_,_,rfl,hA.val t,h⟩
 | cell x t =>
   simp only[agG] at h
   have hv:=hA.val x
   split at h <;> first | (cases h; done) | skip
   ·rename_i ha
    obtain⟨b,p,v,hx,hl,hk⟩:=h
    rw[hx] at hv
    obtain⟨i,hb,hc⟩:=fQ hv
    obtain⟨u,hu,hcell⟩:=UO hw hb hl
    refine⟨v,u, ?_,hu,hk⟩
    simp only[xc,hc,asAddr,Sem.run_bind,Sem.run_pure,Result.andThen_ok,loadVar,jr ha,Bool.false_eq_true,if_false,load,Sem.run,hcell]
   ·rename_i ha
    split at h <;> first | (cases h; done) | skip
    rename_i n hs
    obtain⟨b,p,xs,hx,hl,hk⟩:=h
    rw[hx] at hv
    obtain⟨i,hb,hc⟩:=fQ hv
    obtain⟨vs,hr,hlen,_,hrun⟩:=RM.oI (P:=P) hw hb hl
    exact⟨.agg xs,.agg ⟨vs⟩,by simp only[xc,hc,asAddr,Sem.run_bind,Sem.run_pure,Result.andThen_ok,loadVar,jr ha,if_true,eD hs,hrun],.agg _ _ hr,hk⟩
theorem Gw {ρ:Ren} {T:Tree AV} {M:RM} {a:Act} {w:World} (hA:iC ρ nt T a) (hw:fF P ρ M w) : ∀ (rs:List ResultVar) (K:List AV→Prop),agU P T M rs K →
  ∃ vs us,(rs.mapM (xc a.tmps)).run P w=.ok us w∧bF ρ vs us∧K vs
 | [],K,h=>⟨[],[],by simp,.nil,h⟩
 | r :: rs,K,h=>by
   obtain⟨v,v',h1,h2,h3⟩:=abI hA hw h
   obtain⟨vs,us,h4,h5,h6⟩:=Gw hA hw rs _ h3
   refine⟨v :: vs,v' :: us, ?_,.cons _ _ _ _ h2 h5,h6⟩
   simp only[List.mapM_cons,Sem.run_bind,h1,Result.andThen_ok,h4,Sem.run_pure]
theorem RJ (hP:Q0 P) {f:FuncId} {fn:Func} {c:Code} {args:List AV} {M:RM} {Q:ak} (hfn:P.funcs[f]?=some fn) (hbody:fn.body=some c) (h:afT P fn c args M Q) : jH P f args M Q:=by
 refine⟨⟨fn,c,hfn,hbody⟩,fun ρ w us hargs hw=>?_⟩
 have hlen:=hargs.length
 have hA:iC ρ (args.length + (fn.ntmps - args.length)) (Tree.ofList args 0 .leaf) { tmps:=⟨us⟩++Array.replicate (fn.ntmps - (⟨us⟩ : Array Value).size) undef,defers:=[] } := by
  refine⟨by simp[hlen],fun t=>?_,rfl⟩
  rw[Tree.mK]
  by_cases ht:t<args.length
  ·rw[if_pos (by omega),Nat.sub_zero]
   obtain⟨u,hu,hv⟩:=hargs.get (n:=t) (x:=args[t]) (by simp[ht])
   rw[List.getElem?_eq_getElem ht]
   simp only[Option.getD_some]
   have:((⟨us⟩ : Array Value)++Array.replicate (fn.ntmps - (⟨us⟩ : Array Value).size) undef).getD t undef=u:=by
    rw[Array.getD_eq_getD_getElem?,Array.getElem?_append_left (by simp; omega)]
    simp[hu]
   rw[this]; exact hv
  ·rw[if_neg (by omega)]
   exact .top _
 refine calls_of_wp hfn hbody (wp_mono (aeI hP 1000 c [] 0 _ M _ h M ρ w ρ _ w (After.refl hw) hA) fun e a w' hp=>?_)
 obtain⟨x,T',M',ρ',rfl,k1,k2,k3,k4⟩:=hp
 have key:(∃ vs us,(fn.results.toList.mapM (xc a.tmps)).run P w'=.ok us w'∧bF ρ' vs us∧anU Q M' vs) →
   a.defers=[]∧∃ v,(results fn a.tmps).run P w'=.ok v w'∧∃ v' v_1 atN asn,Ending.returned v=.returned v'∧After P M ρ w atN asn w'∧az asn v_1 v'∧Q v_1 atN:=by
  rintro⟨vs,us,h1,h2,h3⟩
  have hres:(results fn a.tmps).run P w'=.ok (if h:(⟨us⟩ : Array Value).size=1 then(⟨us⟩ : Array Value)[0] else .tuple ⟨us⟩) w':=by
   have e:results fn a.tmps=(fn.results.mapM (xc a.tmps) >>= fun vs=>pure (if h:vs.size=1 then vs[0] else .tuple vs)):=rfl
   rw[e,Array.mapM_eq_mapM_toList]
   simp only[Sem.run_bind,Sem.run_map,h1,Result.andThen_ok,Sem.run_pure]
  refine⟨k2.defers,_,hres, ?_⟩
  cases h2 with
  | nil=>exact⟨_,_,M',ρ',rfl,k1,.tup _ _ .nil,h3⟩
  | cons x v xs vs2 hv htl =>
    cases htl with
    | nil=>exact⟨_,x,M',ρ',rfl,k1,hv,h3⟩
    | cons y u ys us2 hu ayd=>exact⟨_,_,M',ρ',rfl,k1,.tup _ _ (.cons _ _ _ _ hv (.cons _ _ _ _ hu ayd)),h3⟩
 cases x with
 | normal=>exact key (Gw k2 k1.rel _ _ k4)
 | ret=>exact key (Gw k2 k1.rel _ _ k4)
 | exit id=>exact k4.elim
abbrev au:=List AV→RM→ak→Prop
def RO (P:Program) (fn:Func) (args:List AV) (M:RM) (Q:ak) : Prop :=
 match fn.body with
 | some c=>afT P fn c args M Q
 | none=>False
theorem afI (hP:Q0 P) {f:FuncId} {fn:Func} {args:List AV} {M:RM} {Q:ak} (hfn:P.funcs[f]?=some fn) (h:RO P fn args M Q) : jH P f args M Q:=by
 unfold RO at h
 split at h
 ·rename_i c hc; exact RJ hP hfn hc h
 ·cases h
end
end Go.Ab
set_option maxRecDepth 100000
namespace Go.Ab.Crw
open Go Go.Ab
def EG (p1 p2 p3 p4 p5 p6 p7 p8 p9 p10 p11 p12:au) (a0 a1:AV) (M0:RM) (Q:ak) : Prop :=
 p1 [] M0 fun t17 M =>
 eG t17 fun t18 =>
 ay t18 (
 Q (Bo false) M) (
 bD a0 fun t20 =>
 af .gtr t20 (N .i64 60) fun t21 =>
 ay t21 (
 Q (Bo true) M) (
 p2 [a0] M fun t23 M_0 =>
 p3 [] M_0 fun t24 M_1 =>
 aV (fun next xs M_2 =>
 bD a0 fun t27 =>
 af .lss (aa xs 0) t27 fun t28 =>
 ay t28 (
 ax a0 (aa xs 0) 7 fun t35 =>
 aI M_2 t35 7 fun t36 =>
 p4 [t24,t36] M_2 fun t37 M_3 =>
 fI t37 0 fun t38 =>
 fI t37 1 fun t39 =>
 af .eql t39 (N .i64 0) fun t41 =>
 ax a0 (aa xs 0) 7 fun t44 =>
 aI M_3 t44 7 fun t45 =>
 p5 [t45] M_3 fun t46 M_4 =>
 Be true t41 t46 fun t47 =>
 ah t47 false (fun k=>k a0 M_4) (fun k=>k .undef M_4) fun t49 M_5 =>
 ah t47 false (fun k_6=>k_6 (aa xs 0) M_5) (fun k=>k .undef M_5) fun t50 M_7 =>
 ah t47 false (fun k_8=>ax t49 t50 7 fun t51 =>
 k_8 t51 M_7) (fun k=>k .undef M_7) fun avJ dm =>
 ah t47 false (fun jG=>aI dm avJ 7 fun t52 =>
 jG t52 dm) (fun k=>k .undef dm) fun atc eu =>
 ah t47 false (fun iJ=>p6 [atc] eu fun t53 fP =>
 iJ t53 fP) (fun k=>k .undef eu) fun auc kG =>
 ah t47 false (fun mh=>mh t39 kG) (fun k=>k .undef kG) fun t54 dE =>
 ah t47 false (fun iU=>af .eql t54 (N .i64 0) fun t55 =>
 iU t55 dE) (fun k=>k .undef dE) fun amv fJ =>
 ah t47 false (fun kY=>Be true auc amv fun t56 =>
 kY t56 fJ) (fun k=>k .undef fJ) fun atj iI =>
 aJ t47 (Bo true) atj fun t57 =>
 ah t57 false (fun vK=>vK t39 iI) (fun k=>k .undef iI) fun t59 gp =>
 ah t57 false (fun lh=>af .neq t59 (N .i64 0) fun t60 =>
 lh t60 gp) (fun k=>k .undef gp) fun atV eU =>
 ah t57 false (fun kX=>kX atV eU) (fun k=>k .undef eU) fun t61 iZ =>
 ah t61 true (fun CQ=>CQ t39 iZ) (fun k=>k .undef iZ) fun t62 eY =>
 ah t61 true (fun kZ=>af .neq t62 (N .i64 1) fun t63 =>
 kZ t63 eY) (fun k=>k .undef eY) fun amT dZ =>
 ah t57 false (fun rY=>aJ t61 amT (Bo false) fun t64 =>
 rY t64 dZ) (fun k=>k .undef dZ) fun aow kD =>
 aJ t57 (Bo true) aow fun t65 =>
 ay t65 (
 Q (Bo false) kD) (
 af .eql t39 (N .i64 0) fun t67 =>
 ae t67 true (fun yu=>yu a0 kD none) (fun k=>k .undef kD none) fun t69 nS b =>
 ae t67 true (fun BC=>BC (aa xs 0) nS none) (fun k=>k .undef nS none) fun t70 nJ aco =>
 ae t67 true (fun OZ=>af .add t70 (N .i64 1) fun t71 =>
 OZ t71 nJ none) (fun k=>k .undef nJ none) fun anw kL arv =>
 ae t67 true (fun yL=>eT (bB 7 t69 none (some anw) none) fun t72 =>
 yL t72 kL none) (fun k=>k .undef kL none) fun apY mY ajx =>
 ae t67 true (fun Nv=>Nv a0 mY none) (fun k=>k .undef mY none) fun t75 nR b_56 =>
 ae t67 true (fun ahp=>ahp (aa xs 0) nR none) (fun k=>k .undef nR none) fun t76 pX auk =>
 ae t67 true (fun Zx=>eT (bB 7 t75 none (some t76) none) fun t77 =>
 Zx t77 pX none) (fun k=>k .undef pX none) fun afl oO ahj =>
 ah t67 true (fun Ii=>p2 [apY] oO fun t73 EO =>
 Ii t73 EO) (fun k=>k .undef oO) fun atf rq =>
 uO t67 true (fun NR=>eT (bB 7 t75 none (some t76) none) fun aoW =>
 (aoW=afl∧NR)) (fun k=>k) (ae t67 true (fun NW=>bD atf fun t74 =>
 NW t74 rq none) (fun k=>k .undef rq none) fun aqg yB aiN =>
 ah t67 true (fun CB=>p2 [afl] yB fun t78 Hg =>
 CB t78 Hg) (fun k=>k .undef yB) fun asP Fq =>
 ae t67 true (fun Xj=>bD asP fun t79 =>
 Xj t79 Fq none) (fun k=>k .undef Fq none) fun am9 yc auT =>
 ae t67 true (fun XK=>af .add am9 (N .i64 1) fun t80 =>
 XK t80 yc none) (fun k=>k .undef yc none) fun aud wS arE =>
 ae t67 true (fun Ot=>af .neq aqg aud fun t81 =>
 Ot t81 wS none) (fun k=>k .undef wS none) fun aro vJ ann =>
 aJ t67 aro (Bo false) fun t82 =>
 ay t82 (
 Q (Bo true) vJ) (
 af .add (aa xs 0) (N .i64 1) fun t30 =>
 next [t30] vJ)))) (
 p7 [t23,a1,(Bo false)] M_2 fun t85 aAL =>
 p7 [t23,a1,(Bo true)] aAL fun t88 uD =>
 aV (fun TY vB qM =>
 bD t23 fun t91 =>
 af .lss (aa vB 0) t91 fun t92 =>
 ay t92 (
 ax t23 (aa vB 0) 7 fun t99 =>
 aI qM t99 7 fun mg =>
 p4 [t85,mg] qM fun mi KF =>
 fI mi 0 fun Cq =>
 fI mi 1 fun vH =>
 ah Cq false (fun YG=>YG vH KF) (fun k=>k .undef KF) fun Hw vR =>
 ah Cq false (fun Nu=>af .neq Hw (N .i64 0) fun t107 =>
 Nu t107 vR) (fun k=>k .undef vR) fun alG DT =>
 aJ Cq (Bo true) alG fun yA =>
 ay yA (
 Q (Bo false) DT) (
 af .add (aa vB 0) (N .i64 1) fun t94 =>
 TY [t94] DT)) (
 p8 [t24] qM fun Al Lm =>
 p9 [Al] Lm fun rZ u6 =>
 fI rZ 0 fun xq =>
 fI rZ 1 fun Ir =>
 af .eql Ir (N .i64 0) fun t116 =>
 ah t116 true (fun P6=>P6 t24 u6) (fun k=>k .undef u6) fun ag9 VP =>
 ah t116 true (fun Gu=>Gu t23 VP) (fun k=>k .undef VP) fun t119 AQ =>
 ah t116 true (fun awT=>p10 [ag9,t119] AQ fun EL Gl =>
 awT EL Gl) (fun k=>k .undef AQ) fun ahy pM =>
 aJ t116 ahy (Bo false) fun Ak =>
 ah Ak true (fun Qf=>Qf t85 pM) (fun k=>k .undef pM) fun Gp Gh =>
 ah Ak true (fun ace=>ace t23 Gh) (fun k=>k .undef Gh) fun t124 rF =>
 ah Ak true (fun QO=>p10 [Gp,t124] rF fun oU rC =>
 QO oU rC) (fun k=>k .undef rF) fun aiF rE =>
 aJ Ak aiF (Bo false) fun zZ =>
 ah zZ true (fun QR=>QR t88 rE) (fun k=>k .undef rE) fun OU qC =>
 ah zZ true (fun adS=>adS t23 qC) (fun k=>k .undef qC) fun yE Eb =>
 ah zZ true (fun acV=>p10 [OU,yE] Eb fun t130 qO =>
 acV t130 qO) (fun k=>k .undef Eb) fun agm ajJ =>
 aJ zZ agm (Bo false) fun t131 =>
 ah t131 true (fun abz=>abz xq ajJ) (fun k=>k .undef ajJ) fun V9 Eh =>
 ah t131 true (fun aw9=>aw9 t23 Eh) (fun k=>k .undef Eh) fun KM Re =>
 ah t131 true (fun Qp=>p10 [V9,KM] Re fun ahK VM =>
 Qp ahK VM) (fun k=>k .undef Re) fun ajk Qz =>
 aJ t131 ajk (Bo false) fun Kb =>
 ah Kb true (fun adX=>adX t24 Qz) (fun k=>k .undef Qz) fun t138 Io =>
 ah Kb true (fun adI=>adI t85 Io) (fun k=>k .undef Io) fun t139 AO =>
 ah Kb true (fun abC=>p11 [t138,t139] AO fun ahs awf =>
 abC ahs awf) (fun k=>k .undef AO) fun agt Ru =>
 aJ Kb agt (Bo false) fun t141 =>
 ah t141 true (fun Pp=>Pp t85 Ru) (fun k=>k .undef Ru) fun t143 PS =>
 ah t141 true (fun avj=>avj t88 PS) (fun k=>k .undef PS) fun aiD PH =>
 ah t141 true (fun acB=>p11 [t143,aiD] PH fun t145 ze =>
 acB t145 ze) (fun k=>k .undef PH) fun ajr zg =>
 aJ t141 ajr (Bo false) fun t146 =>
 ah t146 true (fun avF=>avF t24 zg) (fun k=>k .undef zg) fun t148 vg =>
 ah t146 true (fun avB=>p12 [t148] vg fun azQ adv =>
 avB azQ adv) (fun k=>k .undef vg) fun agq akt =>
 ah t146 true (fun PE=>PE t23 akt) (fun k=>k .undef akt) fun ahO Qr =>
 ah t146 true (fun avr=>p10 [agq,ahO] Qr fun ajg axg =>
 avr ajg axg) (fun k=>k .undef Qr) fun agf Rb =>
 aJ t146 agf (Bo false) fun t152 =>
 Q t152 Rb)) [(N .i64 0)] uD)) [(N .i64 0)] M_1))
def acS (p1:au) (p2:Nat) (M0:RM) (Q:ak) : Prop :=
 p1 [] M0 fun t1 M =>
 lX [(.sc (.pointer none)),(.sc (.slice none 0 0))] [(0,1,t1)] fun t2 =>
 iW p2 t2 fun r f =>
 df r f M fun t3 M_0 =>
 Q t3 M_0
def zR (p1:Nat) (p2 p3:au) (p4:Nat) (p5 p6:au) (p7:Nat) (p8 p9:au) (p10 p11:Nat) (p12 p13 p14:au) (a0 a1:AV) (M0:RM) (Q:ak) : Prop :=
 iW p1 a1 fun r f =>
 df r f M0 fun t3 M =>
 aI M t3 7 fun t12 =>
 p2 [t12] M fun bf M_0 =>
 eG bf fun t14 =>
 ay t14 (
 Q (.tup [(Bo false),(N .i64 1)]) M_0) (
 aZ a0 fun t16 =>
 aA t16 0 fun t17 =>
 ai M_0 t17 fun t18 =>
 p3 [t18] M_0 fun t19 M_1 =>
 aA t3 0 fun t20 =>
 aI M_1 t20 2 fun t21 =>
 dH p4 1 [(N .i64 0),(N .u64 0)] [(0,2,t21)] fun r_2 f_3 =>
 df r_2 f_3 M_1 fun t22 M_4 =>
 aA t3 6 fun t23 =>
 ai M_4 t23 fun t24 =>
 appW p4 2 16 [(N .i64 0),(N .u64 0)] false t22 t24 M_4 fun t25 M_5 =>
 bD t25 fun t26 =>
 aV (fun next xs M_6 =>
 af .lss (aa xs 0) t26 fun t28 =>
 ay t28 (
 ax t25 (aa xs 0) 2 fun t29 =>
 aI M_6 t29 2 fun t30 =>
 df (.row [(N .i64 0),(N .u64 0)] false p4 0) (fun b=>.ptr b 0) M_6 fun t8 M_7 =>
 aL M_7 t8 t30 2 fun M_8 =>
 aI M_8 t8 2 fun t32 =>
 p5 [t19,t32] M_8 fun t33 M_9 =>
 af .neq t33 (N .i64 0) fun t35 =>
 ay t35 (
 Q (.tup [(Bo false),t33]) M_9) (
 af .add (aa xs 0) (N .i64 1) fun t37 =>
 next [t37] M_9)) (
 aZ a0 fun t39 =>
 aA t39 1 fun t40 =>
 ai M_6 t40 fun t41 =>
 ed (fun J =>
 aA t3 2 fun t42 =>
 ai M_6 t42 fun t43 =>
 af .eql t43 (N .i64 1) fun t44 =>
 ae t44 true (fun k=>k a0 M_6 none) (fun k=>k .undef M_6 none) fun t46 dm b =>
 ae t44 true (fun jG=>aZ t46 fun t47 =>
 jG t47 dm none) (fun k=>k .undef dm none) fun asW eu ah2 =>
 ae t44 true (fun sD=>aA asW 0 fun t48 =>
 sD t48 eu none) (fun k=>k .undef eu none) fun arG kG azr =>
 ae t44 true (fun vT=>ai kG arG fun t49 =>
 vT t49 kG none) (fun k=>k .undef kG none) fun asJ dN MX =>
 ae t44 true (fun kY=>aA t3 0 fun t50 =>
 kY t50 dN none) (fun k=>k .undef dN none) fun ane iI Uh =>
 ae t44 true (fun rT=>aI iI ane 2 fun t51 =>
 rT t51 iI none) (fun k=>k .undef iI none) fun arq fV Nq =>
 ah t44 true (fun kX=>p6 [asJ,arq] fV fun t52 iZ =>
 kX t52 iZ) (fun k=>k .undef fV) fun arR eY =>
 ae t44 true (fun kZ=>eG arR fun t53 =>
 kZ t53 eY none) (fun k=>k .undef eY none) fun auK dZ Pf =>
 aJ t44 auK (Bo false) fun t54 =>
 ay t54 (
 aA t3 0 fun t57 =>
 aI dZ t57 2 fun t58 =>
 aA t3 3 fun t59 =>
 ai dZ t59 fun t60 =>
 aA t3 4 fun t61 =>
 ai dZ t61 fun t62 =>
 aA t3 5 fun t63 =>
 ai dZ t63 fun t64 =>
 lX [(N .i64 0),(N .u64 0),(St []),(St []),(St [])] [(0,2,t58),(2,1,t60),(3,1,t62),(4,1,t64)] fun t65 =>
 dH p7 1 [(N .i64 0),(N .u64 0),(St []),(St []),(St [])] [(0,5,t65)] fun aAd azd =>
 mI aAd azd dZ fun t66 gG K6 =>
 p8 [t41] gG fun t56 kK =>
 aI kK t57 2 fun amW =>
 (amW=t58∧ai kK t59 fun aqr =>
 (aqr=t60∧ai kK t61 fun anx =>
 (anx=t62∧ai kK t63 fun arV =>
 (arV=t64∧dH p7 1 [(N .i64 0),(N .u64 0),(St []),(St []),(St [])] [(0,5,t65)] fun aAJ aze =>
 (uk K6 kK aAJ aze t66∧appW p7 5 64 [(N .i64 0),(N .u64 0),(St []),(St []),(St [])] false t56 t66 kK fun t67 nJ =>
 p9 [t67,(.fn (.func p10) [] [])] nJ fun t69 kE =>
 J [t67] kE)))))) (
 J [t41] dZ)) (fun y5 nU =>
 p8 [(aa y5 0)] nU fun t71 j5 =>
 p12 [t71,(.fn (.func p11) [] [t3])] j5 fun t73 nR =>
 aZ a0 fun t76 =>
 aA t76 0 fun t77 =>
 ai nR t77 fun t78 =>
 p13 [t19,t78] nR fun t79 qb =>
 eG t79 fun t80 =>
 ah t80 false (fun ahp=>ahp t73 qb) (fun k=>k .undef qb) fun t82 pX =>
 ah t80 false (fun vQ=>vQ a0 pX) (fun k=>k .undef pX) fun t83 lg =>
 ah t80 false (fun agC=>aZ t83 fun t84 =>
 agC t84 lg) (fun k=>k .undef lg) fun auu zW =>
 ah t80 false (fun Ii=>aA auu 1 fun t85 =>
 Ii t85 zW) (fun k=>k .undef zW) fun arl uF =>
 ah t80 false (fun OW=>ai uF arl fun t86 =>
 OW t86 uF) (fun k=>k .undef uF) fun anv pq =>
 ah t80 false (fun NW=>p14 [t82,anv] pq fun t87 Ah =>
 NW t87 Ah) (fun k=>k .undef pq) fun auD pY =>
 ah t80 false (fun CB=>eG auD fun t88 =>
 CB t88 pY) (fun k=>k .undef pY) fun auN vW =>
 aJ t80 (Bo true) auN fun t89 =>
 aZ a0 fun t94 =>
 aA t94 0 fun t95 =>
 aL vW t95 t19 1 fun Fq =>
 aZ a0 fun t96 =>
 aA t96 1 fun t97 =>
 aL Fq t97 t73 1 fun CX =>
 Q (.tup [t89,(N .i64 0)]) CX))) [(N .i64 0)] M_5)
def Ya (p1:Nat) (p2 p3:au) (p4:Nat) (p5:au) (a0:AV) (M0:RM) (Q:ak) : Prop :=
 iW p1 a0 fun r f =>
 df r f M0 fun t1 M =>
 aA t1 0 fun t5 =>
 aI M t5 2 fun t6 =>
 p2 [t6] M fun t7 M_0 =>
 eG t7 fun t8 =>
 ah t8 false (fun k=>aA t1 3 fun bH =>
 k bH M_0) (fun k=>k .undef M_0) fun av3 M_2 =>
 ah t8 false (fun k_3=>ai M_2 av3 fun bV =>
 k_3 bV M_2) (fun k=>k .undef M_2) fun avZ M_5 =>
 ah t8 false (fun k_6=>aA t1 4 fun t12 =>
 k_6 t12 M_5) (fun k=>k .undef M_5) fun awh M_8 =>
 ah t8 false (fun k_9=>ai M_8 awh fun bf =>
 k_9 bf M_8) (fun k=>k .undef M_8) fun ani dD =>
 ah t8 false (fun mq=>aA t1 5 fun t14 =>
 mq t14 dD) (fun k=>k .undef dD) fun asw eP =>
 ah t8 false (fun sD=>ai eP asw fun t15 =>
 sD t15 eP) (fun k=>k .undef eP) fun apv kG =>
 ah t8 false (fun mh=>p3 [avZ,ani,apv] kG fun t16 dE =>
 mh t16 dE) (fun k=>k .undef kG) fun aoI dN =>
 ah t8 false (fun oK=>eG aoI fun t17 =>
 oK t17 dN) (fun k=>k .undef dN) fun aqw fO =>
 aJ t8 (Bo true) aqw fun t18 =>
 ah t18 false (fun nz=>aA t1 6 fun t20 =>
 nz t20 fO) (fun k=>k .undef fO) fun asx gp =>
 ah t18 false (fun lh=>ai gp asx fun t21 =>
 lh t21 gp) (fun k=>k .undef gp) fun apj eU =>
 ah t18 false (fun kX=>bD apj fun t22 =>
 kX t22 eU) (fun k=>k .undef eU) fun ap3 gF =>
 ah t18 false (fun rM=>af .gtr ap3 (N .i64 64) fun t23 =>
 rM t23 gF) (fun k=>k .undef gF) fun aop jh =>
 aJ t18 (Bo true) aop fun t24 =>
 ay t24 (
 Q (Bo false) jh) (
 aA t1 6 fun t25 =>
 ai jh t25 fun t26 =>
 bD t26 fun t27 =>
 aV (fun next xs dZ =>
 af .lss (aa xs 0) t27 fun t29 =>
 ay t29 (
 ax t26 (aa xs 0) 2 fun t31 =>
 aI dZ t31 2 fun t32 =>
 df (.row [(N .i64 0),(N .u64 0)] false p4 0) (fun b=>.ptr b 0) dZ fun t4 nZ =>
 aL nZ t4 t32 2 fun nT =>
 aI nT t4 2 fun t33 =>
 p2 [t33] nT fun t34 kD =>
 eG t34 fun t35 =>
 ae t35 false (fun yu=>aI kD t4 2 fun t37 =>
 yu t37 kD none) (fun k=>k .undef kD none) fun auE kK b =>
 ae t35 false (fun xY=>aA t1 0 fun t38 =>
 xY t38 kK none) (fun k=>k .undef kK none) fun auq gN ahm =>
 ae t35 false (fun NH=>aI gN auq 2 fun t39 =>
 NH t39 gN none) (fun k=>k .undef gN none) fun anM jW Wp =>
 ae t35 false (fun BX=>nE false [1,1] auE anM fun t40 =>
 BX t40 jW none) (fun k=>k .undef jW none) fun apS j5 acy =>
 aJ t35 (Bo true) apS fun t41 =>
 ae t41 false (fun yg=>yg (aa xs 0) j5 none) (fun k=>k .undef j5 none) fun t43 iY OE =>
 ae t41 false (fun vQ=>af .gtr t43 (N .i64 0) fun t44 =>
 vQ t44 iY none) (fun k=>k .undef iY none) fun aqJ oV ar4 =>
 ae t41 false (fun XE=>XE aqJ oV none) (fun k=>k .undef oV none) fun t45 qG af2 =>
 ae t45 true (fun Y6=>aA t1 6 fun t46 =>
 Y6 t46 qG none) (fun k=>k .undef qG none) fun anR Fb ayz =>
 ae t45 true (fun NW=>ai Fb anR fun t47 =>
 NW t47 Fb none) (fun k=>k .undef Fb none) fun arM yB aiN =>
 ae t45 true (fun CB=>CB (aa xs 0) yB none) (fun k=>k .undef yB none) fun t48 Hg ay0 =>
 ae t45 true (fun O7=>af .sub t48 (N .i64 1) fun t49 =>
 O7 t49 Hg none) (fun k=>k .undef Hg none) fun aug Ko azW =>
 ae t45 true (fun OM=>ax arM aug 2 fun t50 =>
 OM t50 Ko none) (fun k=>k .undef Ko none) fun apc xK az6 =>
 ae t45 true (fun ajt=>aI xK apc 2 fun t51 =>
 ajt t51 xK none) (fun k=>k .undef xK none) fun aoy YD b_88 =>
 ae t45 true (fun aga=>aI YD t4 2 fun t52 =>
 aga t52 YD none) (fun k=>k .undef YD none) fun ary uD ayB =>
 ah t45 true (fun afW=>p5 [aoy,ary] uD fun t53 qM =>
 afW t53 qM) (fun k=>k .undef uD) fun anB rf =>
 ae t45 true (fun aAa=>eG anB fun t54 =>
 aAa t54 rf none) (fun k=>k .undef rf none) fun apE Fs ajR =>
 ae t41 false (fun GL=>aJ t45 apE (Bo false) fun t55 =>
 GL t55 Fs none) (fun k=>k .undef Fs none) fun akF xz akz =>
 aJ t41 (Bo true) akF fun t56 =>
 ay t56 (
 Q (Bo false) xz) (
 af .add (aa xs 0) (N .i64 1) fun t57 =>
 next [t57] xz)) (
 aA t1 2 fun t58 =>
 ai dZ t58 fun t59 =>
 af .eql t59 (N .i64 1) fun t60 =>
 ah t60 true (fun Gu=>aA t1 4 fun t62 =>
 Gu t62 dZ) (fun k=>k .undef dZ) fun akL uY =>
 ah t60 true (fun Qk=>ai uY akL fun t63 =>
 Qk t63 uY) (fun k=>k .undef uY) fun als pM =>
 ah t60 true (fun Qf=>iT .neq als (St []) fun t64 =>
 Qf t64 pM) (fun k=>k .undef pM) fun aml QK =>
 aJ t60 aml (Bo false) fun t65 =>
 ah t65 false (fun axb=>aA t1 2 fun t67 =>
 axb t67 QK) (fun k=>k .undef QK) fun al2 rC =>
 ah t65 false (fun QU=>ai rC al2 fun t68 =>
 QU t68 rC) (fun k=>k .undef rC) fun alz DJ =>
 ah t65 false (fun ab5=>af .eql alz (N .i64 2) fun t69 =>
 ab5 t69 DJ) (fun k=>k .undef DJ) fun alc Eb =>
 ah t65 false (fun acV=>acV alc Eb) (fun k=>k .undef Eb) fun t70 qO =>
 ah t70 true (fun avt=>aA t1 5 fun t71 =>
 avt t71 qO) (fun k=>k .undef qO) fun ama QE =>
 ah t70 true (fun au9=>ai QE ama fun t72 =>
 au9 t72 QE) (fun k=>k .undef QE) fun ald Re =>
 ah t70 true (fun Qp=>iT .eql ald (St []) fun t73 =>
 Qp t73 Re) (fun k=>k .undef Re) fun Uj Au =>
 ah t65 false (fun ac6=>aJ t70 Uj (Bo false) fun t74 =>
 ac6 t74 Au) (fun k=>k .undef Au) fun alk Io =>
 aJ t65 (Bo true) alk fun t75 =>
 Q t75 Io)) [(N .i64 0)] jh)
def xB (p1:au) (a0:AV) (M0:RM) (Q:ak) : Prop :=
 aZ a0 fun t4 =>
 aA t4 1 fun t5 =>
 ai M0 t5 fun t6 =>
 p1 [t6] M0 fun t7 M =>
 Q t7 M
def adW (p1:Nat) (p2:au) (a0:AV) (M0:RM) (Q:ak) : Prop :=
 LW p1 96 [(N .i64 0),(N .u64 0),(N .i64 0),(St []),(St []),(St []),(.sc (.slice none 0 0))] (N .i64 0) (N .i64 0) fun r f =>
 df r f M0 fun t7 M =>
 aV (fun next xs M_0 =>
 bD a0 fun bH =>
 af .lss (aa xs 1) bH fun bV =>
 ay bV (
 ed (fun J =>
 ax a0 (aa xs 1) 7 fun t16 =>
 aI M_0 t16 7 fun t17 =>
 p2 [t17] M_0 fun t18 M_1 =>
 eG t18 fun t19 =>
 aV (fun xh dU M_4 =>
 bD (aa xs 0) fun t22 =>
 af .lss (aa dU 1) t22 fun t23 =>
 ay t23 (
 ae (aa dU 0) false (fun k=>k (aa xs 0) M_4 none) (fun k=>k .undef M_4 none) fun t28 M_5 b =>
 ae (aa dU 0) false (fun k_6=>k_6 (aa dU 1) M_5 none) (fun k=>k .undef M_5 none) fun t29 M_7 b_8 =>
 ae (aa dU 0) false (fun k_9=>ax t28 t29 7 fun t30 =>
 k_9 t30 M_7 none) (fun k=>k .undef M_7 none) fun atO dD Nb =>
 ae (aa dU 0) false (fun nH=>aA atO 0 fun t31 =>
 nH t31 dD none) (fun k=>k .undef dD none) fun auC fP WV =>
 ae (aa dU 0) false (fun jV=>aI fP auC 2 fun t32 =>
 jV t32 fP none) (fun k=>k .undef fP none) fun aox dE Xb =>
 ae (aa dU 0) false (fun yl=>yl a0 dE none) (fun k=>k .undef dE none) fun t33 fJ TK =>
 ae (aa dU 0) false (fun sW=>sW (aa xs 1) fJ none) (fun k=>k .undef fJ none) fun t34 iI Uh =>
 ae (aa dU 0) false (fun rT=>ax t33 t34 7 fun t35 =>
 rT t35 iI none) (fun k=>k .undef iI none) fun asj fV Nq =>
 ae (aa dU 0) false (fun kX=>aA asj 0 fun t36 =>
 kX t36 fV none) (fun k=>k .undef fV none) fun aq5 gF ac9 =>
 ae (aa dU 0) false (fun kZ=>aI gF aq5 2 fun t37 =>
 kZ t37 gF none) (fun k=>k .undef gF none) fun ark dZ Pf =>
 ae (aa dU 0) false (fun yH=>nE false [1,1] aox ark fun t38 =>
 yH t38 dZ none) (fun k=>k .undef dZ none) fun WN gG K6 =>
 aJ (aa dU 0) (Bo true) WN fun t39 =>
 af .add (aa dU 1) (N .i64 1) fun t25 =>
 xh [t39,t25] gG) (
 eG (aa dU 0) fun t41 =>
 ay t41 (
 ax a0 (aa xs 1) 7 fun t45 =>
 aI M_4 t45 7 fun t46 =>
 dH p1 1 [(N .i64 0),(N .u64 0),(N .i64 0),(St []),(St []),(St []),(.sc (.slice none 0 0))] [(0,7,t46)] fun agj ahe =>
 df agj ahe M_4 fun t47 kE =>
 appW p1 7 96 [(N .i64 0),(N .u64 0),(N .i64 0),(St []),(St []),(St []),(.sc (.slice none 0 0))] false (aa xs 0) t47 kE fun t48 gN =>
 J [t48] gN) (
 J [(aa xs 0)] M_4))) [t19,(N .i64 0)] M_1) (fun xL kL =>
 af .add (aa xs 1) (N .i64 1) fun bf =>
 next [(aa xL 0),bf] kL)) (
 Q (aa xs 0) M_0)) [t7,(N .i64 0)] M
def E9 (p1:Nat) (p2 p3:au) (a0:AV) (M0:RM) (Q:ak) : Prop :=
 iW p1 a0 fun r f =>
 df r f M0 fun t1 M =>
 aA t1 0 fun t4 =>
 aI M t4 2 fun t5 =>
 p2 [t5] M fun t6 M_0 =>
 eG t6 fun t7 =>
 ah t7 false (fun k=>aA t1 2 fun t9 =>
 k t9 M_0) (fun k=>k .undef M_0) fun agF M_2 =>
 ah t7 false (fun k_3=>ai M_2 agF fun bH =>
 k_3 bH M_2) (fun k=>k .undef M_2) fun ab1 M_5 =>
 ah t7 false (fun k_6=>af .neq ab1 (N .i64 1) fun bV =>
 k_6 bV M_5) (fun k=>k .undef M_5) fun abX M_8 =>
 ah t7 false (fun k_9=>k_9 abX M_8) (fun k=>k .undef M_8) fun t12 dm =>
 ah t12 true (fun jG=>aA t1 2 fun bf =>
 jG bf dm) (fun k=>k .undef dm) fun KA eu =>
 ah t12 true (fun iJ=>ai eu KA fun t14 =>
 iJ t14 eu) (fun k=>k .undef eu) fun JG dh =>
 ah t12 true (fun jV=>af .neq JG (N .i64 2) fun t15 =>
 jV t15 dh) (fun k=>k .undef dh) fun amS dE =>
 ah t7 false (fun iU=>aJ t12 amS (Bo false) fun t16 =>
 iU t16 dE) (fun k=>k .undef dE) fun aos fJ =>
 aJ t7 (Bo true) aos fun t17 =>
 ah t17 false (fun kY=>aA t1 3 fun t19 =>
 kY t19 fJ) (fun k=>k .undef fJ) fun J9 iI =>
 ah t17 false (fun vK=>ai iI J9 fun t20 =>
 vK t20 iI) (fun k=>k .undef iI) fun aol lK =>
 ah t17 false (fun Pj=>qi aol fun t21 =>
 Pj t21 lK) (fun k=>k .undef lK) fun aoK iy =>
 ah t17 false (fun rP=>af .lss aoK (N .i64 1) fun t22 =>
 rP t22 iy) (fun k=>k .undef iy) fun aoU eY =>
 aJ t17 (Bo true) aoU fun t23 =>
 ah t23 false (fun kZ=>aA t1 3 fun t25 =>
 kZ t25 eY) (fun k=>k .undef eY) fun Kw dZ =>
 ah t23 false (fun rY=>ai dZ Kw fun t26 =>
 rY t26 dZ) (fun k=>k .undef dZ) fun atI kD =>
 ah t23 false (fun yu=>qi atI fun t27 =>
 yu t27 kD) (fun k=>k .undef kD) fun ar5 kK =>
 ah t23 false (fun xY=>af .gtr ar5 (N .i64 64) fun t28 =>
 xY t28 kK) (fun k=>k .undef kK) fun atH gN =>
 aJ t23 (Bo true) atH fun t29 =>
 ah t29 false (fun yj=>aA t1 4 fun t31 =>
 yj t31 gN) (fun k=>k .undef gN) fun asz jT =>
 ah t29 false (fun yL=>ai jT asz fun t32 =>
 yL t32 jT) (fun k=>k .undef jT) fun asK mY =>
 ah t29 false (fun Wv=>qi asK fun t33 =>
 Wv t33 mY) (fun k=>k .undef mY) fun aod nR =>
 ah t29 false (fun yg=>af .gtr aod (N .i64 64) fun t34 =>
 yg t34 nR) (fun k=>k .undef nR) fun aoN pX =>
 aJ t29 (Bo true) aoN fun t35 =>
 ah t35 false (fun vQ=>aA t1 5 fun t37 =>
 vQ t37 pX) (fun k=>k .undef pX) fun ao6 oV =>
 ah t35 false (fun yG=>ai oV ao6 fun t38 =>
 yG t38 oV) (fun k=>k .undef oV) fun arx qG =>
 ah t35 false (fun Yq=>qi arx fun t39 =>
 Yq t39 qG) (fun k=>k .undef qG) fun aq9 rq =>
 ah t35 false (fun NR=>af .gtr aq9 (N .i64 512) fun t40 =>
 NR t40 rq) (fun k=>k .undef rq) fun atB IA =>
 aJ t35 (Bo true) atB fun t41 =>
 ah t41 false (fun Gm=>aA t1 6 fun t43 =>
 Gm t43 IA) (fun k=>k .undef IA) fun ar2 pY =>
 ah t41 false (fun CB=>ai pY ar2 fun t44 =>
 CB t44 pY) (fun k=>k .undef pY) fun arc vW =>
 ah t41 false (fun O7=>bD arc fun t45 =>
 O7 t45 vW) (fun k=>k .undef vW) fun aus Ko =>
 ah t41 false (fun Yk=>af .gtr aus (N .i64 64) fun t46 =>
 Yk t46 Ko) (fun k=>k .undef Ko) fun asY Hm =>
 aJ t41 (Bo true) asY fun t47 =>
 ay t47 (
 Q (Bo false) Hm) (
 aA t1 2 fun t48 =>
 ai Hm t48 fun t49 =>
 af .eql t49 (N .i64 1) fun t50 =>
 ah t50 true (fun YK=>aA t1 4 fun t52 =>
 YK t52 Hm) (fun k=>k .undef Hm) fun aqe xH =>
 ah t50 true (fun Ot=>ai xH aqe fun t53 =>
 Ot t53 xH) (fun k=>k .undef xH) fun aqP vJ =>
 ah t50 true (fun aga=>iT .eql aqP (St []) fun t54 =>
 aga t54 vJ) (fun k=>k .undef vJ) fun asE uD =>
 aJ t50 asE (Bo false) fun t55 =>
 ah t55 false (fun aAh=>aA t1 2 fun t57 =>
 aAh t57 uD) (fun k=>k .undef uD) fun arA qM =>
 ah t55 false (fun NG=>ai qM arA fun t58 =>
 NG t58 qM) (fun k=>k .undef qM) fun aqN vR =>
 ah t55 false (fun Nu=>af .eql aqN (N .i64 2) fun t59 =>
 Nu t59 vR) (fun k=>k .undef vR) fun amF DT =>
 ah t55 false (fun GL=>GL amF DT) (fun k=>k .undef DT) fun t60 u6 =>
 ah t60 true (fun P6=>aA t1 5 fun t61 =>
 P6 t61 u6) (fun k=>k .undef u6) fun akP QJ =>
 ah t60 true (fun avK=>ai QJ akP fun t62 =>
 avK t62 QJ) (fun k=>k .undef QJ) fun alC Gl =>
 ah t60 true (fun Il=>iT .neq alC (St []) fun t63 =>
 Il t63 Gl) (fun k=>k .undef Gl) fun aln QI =>
 ah t55 false (fun Po=>aJ t60 aln (Bo false) fun t64 =>
 Po t64 QI) (fun k=>k .undef QI) fun akW rF =>
 aJ t55 (Bo true) akW fun t65 =>
 ay t65 (
 Q (Bo false) rF) (
 aV (fun next xs DL =>
 aA t1 6 fun t67 =>
 ai DL t67 fun t68 =>
 bD t68 fun t69 =>
 af .lss (aa xs 0) t69 fun t70 =>
 ay t70 (
 aA t1 6 fun t73 =>
 ai DL t73 fun t74 =>
 ax t74 (aa xs 0) 2 fun t76 =>
 aI DL t76 2 fun t77 =>
 p2 [t77] DL fun t78 rC =>
 eG t78 fun t79 =>
 ae t79 false (fun QU=>aA t1 6 fun t81 =>
 QU t81 rC none) (fun k=>k .undef rC none) fun akG DJ b =>
 ae t79 false (fun ab5=>ai DJ akG fun t82 =>
 ab5 t82 DJ none) (fun k=>k .undef DJ none) fun alZ Eb b_123 =>
 ae t79 false (fun awQ=>awQ (aa xs 0) Eb none) (fun k=>k .undef Eb none) fun t83 aj3 b_126 =>
 ae t79 false (fun abz=>ax alZ t83 2 fun t84 =>
 abz t84 aj3 none) (fun k=>k .undef aj3 none) fun al5 LP b_130 =>
 ae t79 false (fun Qp=>aI LP al5 2 fun t85 =>
 Qp t85 LP none) (fun k=>k .undef LP none) fun alf Au b_134 =>
 ae t79 false (fun adX=>aA t1 0 fun t86 =>
 adX t86 Au none) (fun k=>k .undef Au none) fun alK Rt b_138 =>
 ae t79 false (fun abC=>aI Rt alK 2 fun t87 =>
 abC t87 Rt none) (fun k=>k .undef Rt none) fun ak3 Iw avP =>
 ae t79 false (fun Pp=>nE false [1,1] alf ak3 fun t88 =>
 Pp t88 Iw none) (fun k=>k .undef Iw none) fun ak5 VU b_146 =>
 aJ t79 (Bo true) ak5 fun t89 =>
 ae t89 false (fun acB=>acB (aa xs 0) VU none) (fun k=>k .undef VU none) fun t91 ze axc =>
 ae t89 false (fun acE=>af .gtr t91 (N .i64 0) fun t92 =>
 acE t92 ze none) (fun k=>k .undef ze none) fun alT vg avQ =>
 ae t89 false (fun adj=>adj alT vg none) (fun k=>k .undef vg none) fun t93 Gt avc =>
 ae t93 true (fun PE=>aA t1 6 fun t94 =>
 PE t94 Gt none) (fun k=>k .undef Gt none) fun amj abH b_160 =>
 ae t93 true (fun awW=>ai abH amj fun t95 =>
 awW t95 abH none) (fun k=>k .undef abH none) fun akY ajK b_164 =>
 ae t93 true (fun avy=>avy (aa xs 0) ajK none) (fun k=>k .undef ajK none) fun t96 RH axn =>
 ae t93 true (fun acG=>af .sub t96 (N .i64 1) fun t97 =>
 acG t97 RH none) (fun k=>k .undef RH none) fun alm ajM b_171 =>
 ae t93 true (fun adg=>ax akY alm 2 fun t98 =>
 adg t98 ajM none) (fun k=>k .undef ajM none) fun amb Lt avL =>
 ae t93 true (fun adM=>aI Lt amb 2 fun t99 =>
 adM t99 Lt none) (fun k=>k .undef Lt none) fun akK zn awd =>
 ae t93 true (fun axe=>aA t1 6 fun mg =>
 axe mg zn none) (fun k=>k .undef zn none) fun ahG Qn b_183 =>
 ae t93 true (fun axk=>ai Qn ahG fun mi =>
 axk mi Qn none) (fun k=>k .undef Qn none) fun ai2 aj1 b_187 =>
 ae t93 true (fun axi=>axi (aa xs 0) aj1 none) (fun k=>k .undef aj1 none) fun Cq ajP b_190 =>
 ae t93 true (fun aw7=>ax ai2 Cq 2 fun vH =>
 aw7 vH ajP none) (fun k=>k .undef ajP none) fun ah9 adQ b_194 =>
 ae t93 true (fun awG=>aI adQ ah9 2 fun Gj =>
 awG Gj adQ none) (fun k=>k .undef adQ none) fun agX aj0 b_198 =>
 ah t93 true (fun awn=>p3 [akK,agX] aj0 fun t105 awR =>
 awn t105 awR) (fun k=>k .undef aj0) fun ahL ajA =>
 ae t93 true (fun au8=>eG ahL fun Hw =>
 au8 Hw ajA none) (fun k=>k .undef ajA none) fun ahq aj7 b_206 =>
 ae t89 false (fun awP=>aJ t93 ahq (Bo false) fun t107 =>
 awP t107 aj7 none) (fun k=>k .undef aj7 none) fun aim ajL b_210 =>
 aJ t89 (Bo true) aim fun yA =>
 ay yA (
 Q (Bo false) ajL) (
 af .add (aa xs 0) (N .i64 1) fun t72 =>
 next [t72] ajL)) (
 Q (Bo true) DL)) [(N .i64 0)] rF))
def Tv (p1 p2:au) (a0 a1 a2:AV) (M0:RM) (Q:ak) : Prop :=
 p1 [] M0 fun bH M =>
 aV (fun next xs M_0 =>
 bD a0 fun bf =>
 af .lss (aa xs 0) bf fun t14 =>
 ay t14 (
 ed (fun J =>
 af .and a1 (N .i64 1023) fun t19 =>
 af .add (aa xs 0) t19 fun t20 =>
 bD a0 fun t22 =>
 af .rem t20 t22 fun t23 =>
 ed (fun J_1 =>
 ay a2 (
 bD a0 fun t26 =>
 af .sub t26 (N .i64 1) fun t27 =>
 af .sub t27 t23 fun t29 =>
 J_1 [t29] M_0) (
 J_1 [t23] M_0)) (fun gJ M_3 =>
 ax a0 (aa gJ 0) 7 fun t33 =>
 aI M_3 t33 7 fun t34 =>
 p2 [bH,t34] M_3 fun t35 M_4 =>
 J [] M_4)) (fun JR M_6 =>
 af .add (aa xs 0) (N .i64 1) fun t16 =>
 next [t16] M_6)) (
 Q bH M_0)) [(N .i64 0)] M
def x9 (p1 p2 p3:au) (p4:Nat) (a0:AV) (M0:RM) (Q:ak) : Prop :=
 aZ a0 fun t7 =>
 aA t7 0 fun t8 =>
 ai M0 t8 fun t9 =>
 aZ a0 fun t14 =>
 aA t14 1 fun t15 =>
 ai M0 t15 fun t16 =>
 bD t16 fun t17 =>
 iE .u64 t17 fun t18 =>
 p1 [t9] M0 fun bH M =>
 ai M t15 fun amy =>
 (amy=t16∧jL M bH fun bV =>
 p2 [(.sc (.slice none 0 0)),bV] M fun t12 M_0 =>
 ai M_0 t15 fun art =>
 (art=t16∧p3 [t12,t18] M_0 fun t19 M_1 =>
 aZ a0 fun t21 =>
 aA t21 1 fun t22 =>
 ai M_1 t22 fun t23 =>
 bD t23 fun t24 =>
 aV (fun next xs M_2 =>
 af .lss (aa xs 1) t24 fun t26 =>
 ay t26 (
 ax t23 (aa xs 1) 5 fun t27 =>
 aI M_2 t27 5 fun t28 =>
 df (.row [(N .i64 0),(N .u64 0),(St []),(St []),(St [])] false p4 0) (fun b=>.ptr b 0) M_2 fun t5 M_3 =>
 aL M_3 t5 t28 5 fun M_4 =>
 aA t5 0 fun t30 =>
 aA t30 0 fun t31 =>
 ai M_4 t31 fun t32 =>
 iE .u64 t32 fun t33 =>
 aA t5 0 fun t35 =>
 aA t35 1 fun t36 =>
 ai M_4 t36 fun t37 =>
 p3 [(aa xs 0),t33] M_4 fun t34 M_5 =>
 ai M_5 t36 fun aue =>
 (aue=t37∧p3 [t34,t37] M_5 fun t38 M_6 =>
 aA t5 2 fun t40 =>
 ai M_6 t40 fun t41 =>
 aA t5 3 fun t43 =>
 ai M_6 t43 fun t44 =>
 aA t5 4 fun t46 =>
 ai M_6 t46 fun t47 =>
 p2 [t38,t41] M_6 fun t42 M_7 =>
 ai M_7 t43 fun apZ =>
 (apZ=t44∧ai M_7 t46 fun aoc =>
 (aoc=t47∧p2 [t42,t44] M_7 fun t45 M_8 =>
 ai M_8 t46 fun apt =>
 (apt=t47∧p2 [t45,t47] M_8 fun t48 M_9 =>
 af .add (aa xs 1) (N .i64 1) fun t49 =>
 next [t48,t49] M_9))))) (
 Q (aa xs 0) M_2)) [t19,(N .i64 0)] M_1))
def YM (p1 p2 p3 p4 p5 p6 p7 p8 p9 p10 p11 p12 p13:au) (a0 a1:AV) (M0:RM) (Q:ak) : Prop :=
 p1 [a1] M0 fun t12 M =>
 p2 [a0] M fun t14 M_0 =>
 p3 [a0] M_0 fun t16 M_1 =>
 p4 [t12] M_1 fun t18 M_2 =>
 p5 [t14,t12] M_2 fun t21 M_3 =>
 eG t21 fun t22 =>
 ae t22 false (fun k=>k t16 M_3 none) (fun k=>k .undef M_3 none) fun t24 M_4 b =>
 ae t22 false (fun k_5=>bD t24 fun t25 =>
 k_5 t25 M_4 none) (fun k=>k .undef M_4 none) fun avi M_7 b_8 =>
 ae t22 false (fun k_9=>k_9 t18 M_7 none) (fun k=>k .undef M_7 none) fun t26 dm an2 =>
 ae t22 false (fun mq=>bD t26 fun t27 =>
 mq t27 dm none) (fun k=>k .undef dm none) fun amX eP adk =>
 ae t22 false (fun qR=>af .neq avi amX fun t28 =>
 qR t28 eP none) (fun k=>k .undef eP none) fun arh bZ Lb =>
 aJ t22 (Bo true) arh fun t29 =>
 ae t29 false (fun iU=>iU a0 bZ none) (fun k=>k .undef bZ none) fun t31 dN MX =>
 ae t29 false (fun kY=>kY a1 dN none) (fun k=>k .undef dN none) fun t35 fO NE =>
 ah t29 false (fun vK=>p6 [t31] fO fun t32 gp =>
 vK t32 gp) (fun k=>k .undef fO) fun apw fV =>
 ah t29 false (fun vL=>p7 [apw] fV fun t33 iy =>
 vL t33 iy) (fun k=>k .undef fV) fun YN gF =>
 ae t29 false (fun rM=>jL gF YN fun t34 =>
 rM t34 gF none) (fun k=>k .undef gF none) fun Zm jh aiG =>
 ah t29 false (fun rY=>p8 [t35] jh fun t36 nT =>
 rY t36 nT) (fun k=>k .undef jh) fun YP gG =>
 uO t29 false (fun yR=>jL gG YN fun auO =>
 (auO=Zm∧yR)) (fun k=>k) (ah t29 false (fun xY=>p9 [YP] gG fun t37 kE =>
 xY t37 kE) (fun k=>k .undef gG) fun atb jU =>
 uO t29 false (fun NH=>jL jU YN fun ar1 =>
 (ar1=Zm∧NH)) (fun k=>k) (ae t29 false (fun yL=>jL jU atb fun t38 =>
 yL t38 jU none) (fun k=>k .undef jU none) fun api mY ajx =>
 ae t29 false (fun Nv=>iT .neq Zm api fun t39 =>
 Nv t39 mY none) (fun k=>k .undef mY none) fun atv qb ase =>
 aJ t29 (Bo true) atv fun t40 =>
 ae t40 false (fun NS=>NS a0 qb none) (fun k=>k .undef qb none) fun t42 EP b_60 =>
 ae t40 false (fun agC=>agC a1 EP none) (fun k=>k .undef EP none) fun t45 oO ahj =>
 ae t40 false (fun Ii=>Ii t12 oO none) (fun k=>k .undef oO none) fun t47 EO ayy =>
 ah t40 false (fun OW=>p10 [t42] EO fun t43 Fb =>
 OW t43 Fb) (fun k=>k .undef EO) fun XR IA =>
 ae t40 false (fun Gm=>jL IA XR fun t44 =>
 Gm t44 IA none) (fun k=>k .undef IA none) fun V8 pY aye =>
 ah t40 false (fun aje=>p8 [t45] pY fun t46 vW =>
 aje t46 vW) (fun k=>k .undef pY) fun ap1 CX =>
 uO t40 false (fun aif=>jL CX XR fun anj =>
 (anj=V8∧aif)) (fun k=>k) (ah t40 false (fun OM=>p11 [ap1,t47] CX fun t48 Hm =>
 OM t48 Hm) (fun k=>k .undef CX) fun aog wS =>
 uO t40 false (fun ajt=>jL wS XR fun arU =>
 (arU=V8∧ajt)) (fun k=>k) (ae t40 false (fun O9=>jL wS aog fun t49 =>
 O9 t49 wS none) (fun k=>k .undef wS none) fun atz q9 aiw =>
 ae t40 false (fun Xo=>iT .neq V8 atz fun t50 =>
 Xo t50 q9 none) (fun k=>k .undef q9 none) fun arI Cy apu =>
 aJ t40 (Bo true) arI fun t51 =>
 ay t51 (
 Q (Bo false) Cy) (
 aV (fun next xs KF =>
 bD t16 fun t54 =>
 af .lss (aa xs 0) t54 fun t55 =>
 ay t55 (
 ax t16 (aa xs 0) 1 fun t60 =>
 ai KF t60 fun t61 =>
 ax t18 (aa xs 0) 1 fun t64 =>
 ai KF t64 fun t65 =>
 iT .neq t61 t65 fun t66 =>
 ae t66 false (fun YG=>YG a0 KF none) (fun k=>k .undef KF none) fun t68 vR az9 =>
 ae t66 false (fun ajd=>ajd t16 vR none) (fun k=>k .undef vR none) fun t69 DT b_101 =>
 ae t66 false (fun awX=>awX (aa xs 0) DT none) (fun k=>k .undef DT none) fun t70 xz akz =>
 ae t66 false (fun Gu=>ax t69 t70 1 fun t71 =>
 Gu t71 xz none) (fun k=>k .undef xz none) fun ak2 uY axp =>
 ae t66 false (fun Il=>ai uY ak2 fun t72 =>
 Il t72 uY none) (fun k=>k .undef uY none) fun al0 QI b_112 =>
 ae t66 false (fun ace=>ace t12 QI none) (fun k=>k .undef QI none) fun t74 rF avg =>
 ae t66 false (fun acw=>acw t16 rF none) (fun k=>k .undef rF none) fun t75 QD avC =>
 ae t66 false (fun QR=>QR (aa xs 0) QD none) (fun k=>k .undef QD none) fun t76 qC ajX =>
 ae t66 false (fun P5=>ax t75 t76 1 fun t77 =>
 P5 t77 qC none) (fun k=>k .undef qC none) fun aaL qO aj8 =>
 ae t66 false (fun Qy=>ai qO aaL fun t78 =>
 Qy t78 qO none) (fun k=>k .undef qO none) fun aa9 Eh av1 =>
 ah t66 false (fun P8=>p12 [t68,al0] Eh fun t73 VL =>
 P8 t73 VL) (fun k=>k .undef Eh) fun Uj Au =>
 uO t66 false (fun ac6=>ai Au aaL fun alH =>
 (alH=aa9∧ac6)) (fun k=>k) (ah t66 false (fun ada=>p13 [t74,aa9,(St [])] Au fun t79 Rt =>
 ada t79 Rt) (fun k=>k .undef Au) fun alo aky =>
 ah t66 false (fun Rz=>p5 [Uj,alo] aky fun t80 Iw =>
 Rz t80 Iw) (fun k=>k .undef aky) fun alu ajG =>
 ae t66 false (fun ade=>eG alu fun t81 =>
 ade t81 ajG none) (fun k=>k .undef ajG none) fun al3 PH b_147 =>
 aJ t66 (Bo true) al3 fun t82 =>
 ay t82 (
 Q (Bo false) PH) (
 ax t16 (aa xs 0) 1 fun t85 =>
 aL PH t85 (St [115,112,111,105,108,116]) 1 fun ze =>
 af .add (aa xs 0) (N .i64 1) fun t57 =>
 next [t57] ze))) (
 aV (fun agi WI ajN =>
 bD t14 fun t88 =>
 af .lss (aa WI 0) t88 fun t89 =>
 ay t89 (
 ax t14 (aa WI 0) 5 fun t94 =>
 aA t94 4 fun t95 =>
 aL ajN t95 (St [115,112,111,105,108,116]) 1 fun vg =>
 af .add (aa WI 0) (N .i64 1) fun t91 =>
 agi [t91] vg) (
 Q (Bo true) ajN)) [(N .i64 0)] KF)) [(N .i64 0)] Cy)))))
def Cm (p1 p2:au) (a0 a1:AV) (M0:RM) (Q:ak) : Prop :=
 aZ a0 fun t6 =>
 aA t6 1 fun t7 =>
 ai M0 t7 fun t8 =>
 aZ a1 fun bH =>
 aA bH 1 fun bV =>
 ai M0 bV fun t12 =>
 p1 [t8,t12] M0 fun bf M =>
 ae bf true (fun k=>k a0 M none) (fun k=>k .undef M none) fun t15 M_0 b =>
 ae bf true (fun k_1=>aZ t15 fun t16 =>
 k_1 t16 M_0 none) (fun k=>k .undef M_0 none) fun awC M_3 b_4 =>
 ae bf true (fun k_5=>aA awC 0 fun t17 =>
 k_5 t17 M_3 none) (fun k=>k .undef M_3 none) fun adF M_7 b_8 =>
 ae bf true (fun k_9=>ai M_7 adF fun t18 =>
 k_9 t18 M_7 none) (fun k=>k .undef M_7 none) fun JX dD Nb =>
 ae bf true (fun nH=>nH a1 dD none) (fun k=>k .undef dD none) fun t19 eP adk =>
 ae bf true (fun qR=>aZ t19 fun t20 =>
 qR t20 eP none) (fun k=>k .undef eP none) fun amU bZ Lb =>
 ae bf true (fun iU=>aA amU 0 fun t21 =>
 iU t21 bZ none) (fun k=>k .undef bZ none) fun arj fJ TK =>
 ae bf true (fun sW=>ai fJ arj fun t22 =>
 sW t22 fJ none) (fun k=>k .undef fJ none) fun auI jo Nn =>
 ah bf true (fun lh=>p2 [JX,auI] jo fun t23 fV =>
 lh t23 fV) (fun k=>k .undef jo) fun aom iy =>
 aJ bf aom (Bo false) fun t24 =>
 ae t24 true (fun rP=>rP a1 iy none) (fun k=>k .undef iy none) fun t26 gF ac9 =>
 ae t24 true (fun kZ=>aZ t26 fun t27 =>
 kZ t27 gF none) (fun k=>k .undef gF none) fun atF dZ Pf =>
 ae t24 true (fun yH=>aA atF 0 fun t28 =>
 yH t28 dZ none) (fun k=>k .undef dZ none) fun anY gG K6 =>
 ae t24 true (fun BC=>ai gG anY fun t29 =>
 BC t29 gG none) (fun k=>k .undef gG none) fun apl kE aju =>
 ae t24 true (fun yj=>yj a0 kE none) (fun k=>k .undef kE none) fun t30 kL arv =>
 ae t24 true (fun yL=>aZ t30 fun t31 =>
 yL t31 kL none) (fun k=>k .undef kL none) fun aqu mY ajx =>
 ae t24 true (fun Nv=>aA aqu 0 fun t32 =>
 Nv t32 mY none) (fun k=>k .undef mY none) fun an6 qb ase =>
 ae t24 true (fun NS=>ai qb an6 fun t33 =>
 NS t33 qb none) (fun k=>k .undef qb none) fun an8 lg YH =>
 ah t24 true (fun yG=>p2 [apl,an8] lg fun t34 zW =>
 yG t34 zW) (fun k=>k .undef lg) fun asL EO =>
 aJ t24 asL (Bo false) fun t35 =>
 Q t35 EO
def Bq (p1 p2:au) (p3:Nat) (a0:AV) (M0:RM) (Q:ak) : Prop :=
 aZ a0 fun t4 =>
 aA t4 0 fun t5 =>
 ai M0 t5 fun t6 =>
 aZ a0 fun t9 =>
 aA t9 1 fun bH =>
 ai M0 bH fun bV =>
 p1 [t6] M0 fun t7 M =>
 ai M bH fun axm =>
 (axm=bV∧p2 [bV] M fun t12 M_0 =>
 lX [(.sc (.pointer none)),(.sc (.slice none 0 0))] [(0,1,t7),(1,1,t12)] fun bf =>
 iW p3 bf fun r f =>
 mI r f M_0 fun t14 M_1 b =>
 Q t14 M_1)
def afV (p1:Nat) (a0 a1 a2:AV) (M0:RM) (Q:ak) : Prop :=
 LW p1 64 [(N .i64 0),(N .u64 0),(St []),(St []),(St [])] (N .i64 0) (N .i64 0) fun r f =>
 df r f M0 fun t9 M =>
 aV (fun next xs M_0 =>
 bD a0 fun t12 =>
 af .lss (aa xs 1) t12 fun bf =>
 ay bf (
 ed (fun J =>
 ax a0 (aa xs 1) 5 fun t18 =>
 aA t18 2 fun t19 =>
 ai M_0 t19 fun t20 =>
 iT .eql t20 a1 fun t22 =>
 ah t22 true (fun k=>k a2 M_0) (fun k=>k .undef M_0) fun t24 M_1 =>
 ah t22 true (fun k_2=>iT .eql t24 (St []) fun t25 =>
 k_2 t25 M_1) (fun k=>k .undef M_1) fun avT M_4 =>
 ah t22 true (fun k_5=>k_5 avT M_4) (fun k=>k .undef M_4) fun t26 M_6 =>
 ah t26 false (fun k_7=>k_7 a0 M_6) (fun k=>k .undef M_6) fun t27 M_8 =>
 ah t26 false (fun k_9=>k_9 (aa xs 1) M_8) (fun k=>k .undef M_8) fun t28 dm =>
 ah t26 false (fun jG=>ax t27 t28 5 fun t29 =>
 jG t29 dm) (fun k=>k .undef dm) fun ath eu =>
 ah t26 false (fun iJ=>aA ath 3 fun t30 =>
 iJ t30 eu) (fun k=>k .undef eu) fun aof dh =>
 ah t26 false (fun jV=>ai dh aof fun t31 =>
 jV t31 dh) (fun k=>k .undef dh) fun atW dE =>
 ah t26 false (fun iU=>iU a2 dE) (fun k=>k .undef dE) fun t32 dN =>
 ah t26 false (fun oK=>iT .eql atW t32 fun t33 =>
 oK t33 dN) (fun k=>k .undef dN) fun anV fO =>
 ah t22 true (fun nz=>aJ t26 (Bo true) anV fun t34 =>
 nz t34 fO) (fun k=>k .undef fO) fun arB gp =>
 aJ t22 arB (Bo false) fun t35 =>
 ay t35 (
 ax a0 (aa xs 1) 5 fun t39 =>
 aI gp t39 5 fun t40 =>
 dH p1 1 [(N .i64 0),(N .u64 0),(St []),(St []),(St [])] [(0,5,t40)] fun aAE azw =>
 df aAE azw gp fun t41 eU =>
 appW p1 5 64 [(N .i64 0),(N .u64 0),(St []),(St []),(St [])] false (aa xs 0) t41 eU fun t42 iy =>
 J [t42] iy) (
 J [(aa xs 0)] gp)) (fun avh gF =>
 af .add (aa xs 1) (N .i64 1) fun t15 =>
 next [(aa avh 0),t15] gF)) (
 Q (aa xs 0) M_0)) [t9,(N .i64 0)] M
def CE (p1:au) (a0:AV) (M0:RM) (Q:ak) : Prop :=
 aZ a0 fun t4 =>
 aA t4 0 fun t5 =>
 ai M0 t5 fun t6 =>
 p1 [t6] M0 fun t7 M =>
 Q t7 M
def vY (p1 p2:Nat) (a0:AV) (M0:RM) (Q:ak) : Prop :=
 aZ a0 fun t7 =>
 aA t7 1 fun t8 =>
 ai M0 t8 fun t9 =>
 bD t9 fun bH =>
 aV (fun next xs M =>
 af .lss (aa xs 1) bH fun t12 =>
 ay t12 (
 ed (fun J =>
 ax t9 (aa xs 1) 5 fun bf =>
 aI M bf 5 fun t14 =>
 df (.row [(N .i64 0),(N .u64 0),(St []),(St []),(St [])] false p1 0) (fun b=>.ptr b 0) M fun t5 M_0 =>
 aL M_0 t5 t14 5 fun M_1 =>
 bD (aa xs 0) fun t16 =>
 af .eql t16 (N .i64 0) fun t17 =>
 ae t17 false (fun k=>k (aa xs 0) M_1 none) (fun k=>k .undef M_1 none) fun t19 M_2 b =>
 ae t17 false (fun k_3=>k_3 (aa xs 0) M_2 none) (fun k=>k .undef M_2 none) fun t20 M_4 b_5 =>
 ae t17 false (fun k_6=>bD t20 fun t21 =>
 k_6 t21 M_4 none) (fun k=>k .undef M_4 none) fun aw2 M_8 b_9 =>
 ae t17 false (fun pz=>af .sub aw2 (N .i64 1) fun t22 =>
 pz t22 M_8 none) (fun k=>k .undef M_8 none) fun anI eO NF =>
 ae t17 false (fun iJ=>ax t19 anI 1 fun t23 =>
 iJ t23 eO none) (fun k=>k .undef eO none) fun Zw dh Bw =>
 ae t17 false (fun mh=>ai dh Zw fun t24 =>
 mh t24 dh none) (fun k=>k .undef dh none) fun at6 j6 aho =>
 ae t17 false (fun oK=>aA t5 2 fun t25 =>
 oK t25 j6 none) (fun k=>k .undef j6 none) fun aub fO NE =>
 ae t17 false (fun vK=>ai fO aub fun t26 =>
 vK t26 fO none) (fun k=>k .undef fO none) fun at7 lK II =>
 ae t17 false (fun vL=>iT .neq at6 at7 fun t27 =>
 vL t27 lK none) (fun k=>k .undef lK none) fun aqt iZ ag8 =>
 aJ t17 (Bo true) aqt fun t28 =>
 ay t28 (
 aA t5 2 fun t30 =>
 ai iZ t30 fun t31 =>
 dH p2 1 [(St [])] [(0,1,t31)] fun r f =>
 df r f iZ fun t32 eY =>
 appW p2 1 16 [(St [])] false (aa xs 0) t32 eY fun t33 Ib =>
 J [t33] Ib) (
 J [(aa xs 0)] iZ)) (fun awE dZ =>
 af .add (aa xs 1) (N .i64 1) fun t34 =>
 next [(aa awE 0),t34] dZ)) (
 Q (aa xs 0) M)) [(.sc (.slice none 0 0)),(N .i64 0)] M0
def wV (p1:Nat) (a0 a1:AV) (M0:RM) (Q:ak) : Prop :=
 aZ a0 fun t9 =>
 aA t9 1 fun bH =>
 ai M0 bH fun bV =>
 bD bV fun t12 =>
 aV (fun next xs M =>
 af .lss (aa xs 1) t12 fun t14 =>
 ay t14 (
 ed (fun J =>
 ax bV (aa xs 1) 5 fun t15 =>
 aI M t15 5 fun t16 =>
 df (.row [(N .i64 0),(N .u64 0),(St []),(St []),(St [])] false p1 0) (fun b=>.ptr b 0) M fun t7 M_0 =>
 aL M_0 t7 t16 5 fun M_1 =>
 aA t7 2 fun t17 =>
 ai M_1 t17 fun t18 =>
 iT .eql t18 a1 fun t20 =>
 ay t20 (
 aI M_1 t7 5 fun t22 =>
 dH p1 1 [(N .i64 0),(N .u64 0),(St []),(St []),(St [])] [(0,5,t22)] fun r f =>
 df r f M_1 fun t23 M_2 =>
 appW p1 5 64 [(N .i64 0),(N .u64 0),(St []),(St []),(St [])] false (aa xs 0) t23 M_2 fun t24 M_3 =>
 J [t24] M_3) (
 J [(aa xs 0)] M_1)) (fun Ag M_5 =>
 af .add (aa xs 1) (N .i64 1) fun t25 =>
 next [(aa Ag 0),t25] M_5)) (
 Q (aa xs 0) M)) [(.sc (.slice none 0 0)),(N .i64 0)] M0
def z8 (p1:Nat) (a0:AV) (M0:RM) (Q:ak) : Prop :=
 lJ false 2 a0 (.sc (.slice none 0 0)) fun t4 =>
 ay t4 (
 Q (.sc (.slice none 0 0)) M0) (
 dH p1 0 [(N .i64 0),(N .u64 0),(St []),(St []),(St [])] [] fun r f =>
 df r f M0 fun t5 M =>
 appW p1 5 64 [(N .i64 0),(N .u64 0),(St []),(St []),(St [])] false t5 a0 M fun t7 M_0 =>
 Q t7 M_0)
def vO (p1 p2:au) (a0 a1:AV) (M0:RM) (Q:ak) : Prop :=
 bD a0 fun t6 =>
 iE .u64 t6 fun bH =>
 p1 [bH] M0 fun bV M =>
 p2 [a0,(N .i64 0),t6,bV,a1] M fun bf M_0 =>
 Q (.tup []) M_0
def K9 (p1:Nat) (p2 p3:au) (p4:Nat) (p5:au) (a0 a1:AV) (M0:RM) (Q:ak) : Prop :=
 iW p1 a0 fun r f =>
 df r f M0 fun t2 M =>
 iW p1 a1 fun r_0 f_1 =>
 df r_0 f_1 M fun t3 M_2 =>
 aA t2 2 fun t5 =>
 ai M_2 t5 fun t6 =>
 aA t3 2 fun t7 =>
 ai M_2 t7 fun t8 =>
 aA t2 3 fun bH =>
 ai M_2 bH fun bV =>
 aA t3 3 fun t12 =>
 ai M_2 t12 fun bf =>
 aA t2 0 fun t15 =>
 aI M_2 t15 2 fun t16 =>
 aA t3 0 fun t17 =>
 aI M_2 t17 2 fun t18 =>
 p2 [t6,t8] M_2 fun t9 M_3 =>
 ai M_3 bH fun ast =>
 (ast=bV∧ai M_3 t12 fun ao0 =>
 (ao0=bf∧aI M_3 t15 2 fun atS =>
 (atS=t16∧aI M_3 t17 2 fun Wt =>
 (Wt=t18∧p2 [bV,bf] M_3 fun t14 M_4 =>
 aI M_4 t15 2 fun ap8 =>
 (ap8=t16∧aI M_4 t17 2 fun JX =>
 (JX=t18∧p3 [t16,t18] M_4 fun t19 M_5 =>
 dH p4 3 [(N .i64 0)] [(0,1,t9),(1,1,t14),(2,1,t19)] fun r_6 f_7 =>
 mI r_6 f_7 M_5 fun t20 M_8 b =>
 p5 [t20] M_8 fun t21 M_9 =>
 Q t21 M_9))))))
def sO (p1:au) (p2:Nat) (cv:(FuncId→au)) (a0 a1:AV) (M0:RM) (Q:ak) : Prop :=
 p1 [a0,a1] M0 fun bH M =>
 af .eql bH (N .i64 (-1)) fun t12 =>
 ay t12 (
 Q a0 M) (
 af .add bH (N .i64 1) fun t15 =>
 aV (fun next xs M_0 =>
 bD a0 fun t18 =>
 af .lss (aa xs 1) t18 fun t19 =>
 ay t19 (
 ed (fun J =>
 ax a0 (aa xs 1) 5 fun t24 =>
 aI M_0 t24 5 fun t25 =>
 df (.row [(N .i64 0),(N .u64 0),(St []),(St []),(St [])] false p2 0) (fun b=>.ptr b 0) M_0 fun t7 M_1 =>
 aL M_1 t7 t25 5 fun M_2 =>
 aI M_2 t7 5 fun t27 =>
 gW cv a1 [t27] M_2 fun t28 M_3 =>
 eG t28 fun t29 =>
 ay t29 (
 aI M_3 t7 5 fun t32 =>
 ax a0 (aa xs 0) 5 fun t33 =>
 aL M_3 t33 t32 5 fun M_4 =>
 af .add (aa xs 0) (N .i64 1) fun t35 =>
 J [t35] M_4) (
 J [(aa xs 0)] M_3)) (fun JR M_6 =>
 af .add (aa xs 1) (N .i64 1) fun t21 =>
 next [(aa JR 0),t21] M_6)) (
 eT (bB 5 a0 (some (aa xs 0)) none none) fun t38 =>
 Qu [(N .i64 0),(N .u64 0),(St []),(St []),(St [])] t38 M_0 fun u M_7 =>
 eT (bB 5 a0 none (some (aa xs 0)) none) fun t41 =>
 Q t41 M_7)) [bH,t15] M)
def xg (p1:Nat) (p2:au) (a0 a1:AV) (M0:RM) (Q:ak) : Prop :=
 iW p1 a0 fun r f =>
 df r f M0 fun t2 M =>
 aA a1 6 fun t4 =>
 ai M t4 fun t5 =>
 aA t2 0 fun t6 =>
 aI M t6 2 fun t7 =>
 p2 [t5,t7] M fun t8 M_0 =>
 Q t8 M_0
def yz (p1:Nat) (p2:au) (a0 a1:AV) (M0:RM) (Q:ak) : Prop :=
 iW p1 a1 fun r f =>
 df r f M0 fun t3 M =>
 aI M t3 2 fun t6 =>
 p2 [a0,t6] M fun t7 M_0 =>
 af .geq t7 (N .i64 0) fun t8 =>
 Q t8 M_0
def zQ (a0 a1:AV) (M0:RM) (Q:ak) : Prop :=
 bD a0 fun t7 =>
 bD a1 fun t9 =>
 af .neq t7 t9 fun bH =>
 ay bH (
 Q (Bo false) M0) (
 bD a0 fun t12 =>
 aV (fun next xs M =>
 af .lss (aa xs 0) t12 fun t14 =>
 ay t14 (
 ax a0 (aa xs 0) 5 fun t18 =>
 aI M t18 5 fun t19 =>
 ax a1 (aa xs 0) 5 fun t22 =>
 aI M t22 5 fun t23 =>
 nE true [1,1,2,2,2] t19 t23 fun t24 =>
 ay t24 (
 Q (Bo false) M) (
 af .add (aa xs 0) (N .i64 1) fun t25 =>
 next [t25] M)) (
 Q (Bo true) M)) [(N .i64 0)] M0)
def zN (p1:au) (a0 a1:AV) (M0:RM) (Q:ak) : Prop :=
 p1 [a0,a1] M0 fun t9 M =>
 aZ a0 fun t12 =>
 aA t12 1 fun bf =>
 ai M bf fun t14 =>
 ah t14 false (fun k=>k t9 M) (fun k=>k .undef M) fun t16 M_0 =>
 ah t14 false (fun k_1=>k_1 a0 M_0) (fun k=>k .undef M_0) fun t17 M_2 =>
 ah t14 false (fun k_3=>aZ t17 fun t18 =>
 k_3 t18 M_2) (fun k=>k .undef M_2) fun avd M_5 =>
 ah t14 false (fun k_6=>aA avd 0 fun t19 =>
 k_6 t19 M_5) (fun k=>k .undef M_5) fun awS M_8 =>
 ah t14 false (fun k_9=>ai M_8 awS fun t20 =>
 k_9 t20 M_8) (fun k=>k .undef M_8) fun asG dD =>
 ah t14 false (fun mq=>bD asG fun t21 =>
 mq t21 dD) (fun k=>k .undef dD) fun anZ eP =>
 ah t14 false (fun sD=>af .gtr t16 anZ fun t22 =>
 sD t22 eP) (fun k=>k .undef eP) fun asu kG =>
 aJ t14 (Bo true) asu fun t23 =>
 aZ a0 fun t24 =>
 aA t24 1 fun t25 =>
 aL kG t25 t23 1 fun bZ =>
 aZ a0 fun t27 =>
 aA t27 1 fun t28 =>
 ai bZ t28 fun t29 =>
 ay t29 (
 Q (St []) bZ) (
 aZ a0 fun t31 =>
 aA t31 0 fun t32 =>
 ai bZ t32 fun t33 =>
 eT (bB 1 t33 none (some t9) none) fun t35 =>
 jL bZ t35 fun t36 =>
 aZ a0 fun t39 =>
 aA t39 0 fun t40 =>
 ai bZ t40 fun t41 =>
 eT (bB 1 t41 (some t9) none none) fun t43 =>
 aZ a0 fun t44 =>
 aA t44 0 fun t45 =>
 aL bZ t45 t43 1 fun dE =>
 Q t36 dE)
def Eo (a0 a1 a2:AV) (M0:RM) (Q:ak) : Prop :=
 qi a0 fun t8 =>
 af .geq t8 (N .i64 1) fun t9 =>
 ah t9 true (fun k=>k a0 M0) (fun k=>k .undef M0) fun bV M =>
 ah t9 true (fun k_0=>qi bV fun t12 =>
 k_0 t12 M) (fun k=>k .undef M) fun av6 M_2 =>
 ah t9 true (fun k_3=>af .leq av6 (N .i64 64) fun bf =>
 k_3 bf M_2) (fun k=>k .undef M_2) fun av4 M_5 =>
 aJ t9 av4 (Bo false) fun t14 =>
 ah t14 true (fun k_6=>k_6 a1 M_5) (fun k=>k .undef M_5) fun t16 M_7 =>
 ah t14 true (fun k_8=>qi t16 fun t17 =>
 k_8 t17 M_7) (fun k=>k .undef M_7) fun avf dm =>
 ah t14 true (fun jG=>af .leq avf (N .i64 64) fun t18 =>
 jG t18 dm) (fun k=>k .undef dm) fun Wt eu =>
 aJ t14 Wt (Bo false) fun t19 =>
 ah t19 true (fun iJ=>iJ a2 eu) (fun k=>k .undef eu) fun t21 fP =>
 ah t19 true (fun qR=>qi t21 fun t22 =>
 qR t22 fP) (fun k=>k .undef fP) fun aoR bZ =>
 ah t19 true (fun vT=>af .leq aoR (N .i64 512) fun t23 =>
 vT t23 bZ) (fun k=>k .undef bZ) fun aqc dN =>
 aJ t19 aqc (Bo false) fun t24 =>
 Q t24 dN
def Y8 (p1:au) (p2:Nat) (a0 a1:AV) (M0:RM) (Q:ak) : Prop :=
 qi a1 fun t7 =>
 iE .u64 t7 fun t8 =>
 p1 [a0,t8] M0 fun t9 M =>
 appW p2 1 1 [(N .u8 0)] false t9 a1 M fun bV M_0 =>
 Q bV M_0
def Jr (p1:Nat) (p2 p3:au) (a0:AV) (M0:RM) (Q:ak) : Prop :=
 LW p1 64 [(N .i64 0),(N .u64 0),(St []),(St []),(St [])] (N .i64 0) (N .i64 0) fun r f =>
 df r f M0 fun t7 M =>
 aV (fun next xs M_0 =>
 bD a0 fun bH =>
 af .lss (aa xs 1) bH fun bV =>
 ay bV (
 ed (fun J =>
 ax a0 (aa xs 1) 7 fun t16 =>
 aA t16 2 fun t17 =>
 ai M_0 t17 fun t18 =>
 af .eql t18 (N .i64 1) fun t19 =>
 aV (fun BP gJ M_3 =>
 bD a0 fun t22 =>
 af .lss (aa gJ 1) t22 fun t23 =>
 ay t23 (
 ae (aa gJ 0) true (fun k=>k a0 M_3 none) (fun k=>k .undef M_3 none) fun t28 M_4 b =>
 ae (aa gJ 0) true (fun k_5=>k_5 (aa gJ 1) M_4 none) (fun k=>k .undef M_4 none) fun t29 M_6 b_7 =>
 ae (aa gJ 0) true (fun k_8=>ax t28 t29 7 fun t30 =>
 k_8 t30 M_6 none) (fun k=>k .undef M_6 none) fun awk dm an2 =>
 ae (aa gJ 0) true (fun mq=>aA awk 6 fun t31 =>
 mq t31 dm none) (fun k=>k .undef dm none) fun apK eP adk =>
 ae (aa gJ 0) true (fun qR=>ai eP apK fun t32 =>
 qR t32 eP none) (fun k=>k .undef eP none) fun aqa bZ Lb =>
 ae (aa gJ 0) true (fun iU=>iU a0 bZ none) (fun k=>k .undef bZ none) fun t33 dN MX =>
 ae (aa gJ 0) true (fun kY=>kY (aa xs 1) dN none) (fun k=>k .undef dN none) fun t34 fO NE =>
 ae (aa gJ 0) true (fun vK=>ax t33 t34 7 fun t35 =>
 vK t35 fO none) (fun k=>k .undef fO none) fun arH lK II =>
 ae (aa gJ 0) true (fun vL=>aA arH 0 fun t36 =>
 vL t36 lK none) (fun k=>k .undef lK none) fun aqX iZ ag8 =>
 ae (aa gJ 0) true (fun rM=>aI iZ aqX 2 fun t37 =>
 rM t37 iZ none) (fun k=>k .undef iZ none) fun apV jh aiG =>
 ah (aa gJ 0) true (fun rY=>p2 [aqa,apV] jh fun t38 nT =>
 rY t38 nT) (fun k=>k .undef jh) fun WN gG =>
 ae (aa gJ 0) true (fun yR=>eG WN fun t39 =>
 yR t39 gG none) (fun k=>k .undef gG none) fun amY nJ aco =>
 aJ (aa gJ 0) amY (Bo false) fun t40 =>
 ae t40 true (fun OZ=>OZ (aa gJ 1) nJ none) (fun k=>k .undef nJ none) fun t42 jU auf =>
 ae t40 true (fun Oi=>Oi (aa xs 1) jU none) (fun k=>k .undef jU none) fun t43 jW Wp =>
 ae t40 true (fun BX=>af .lss t42 t43 fun t44 =>
 BX t44 jW none) (fun k=>k .undef jW none) fun ap9 j5 acy =>
 ae t40 true (fun yg=>yg ap9 j5 none) (fun k=>k .undef j5 none) fun t45 iY OE =>
 ae t45 true (fun vQ=>vQ a0 iY none) (fun k=>k .undef iY none) fun t46 lg YH =>
 ae t45 true (fun yG=>yG (aa gJ 1) lg none) (fun k=>k .undef lg none) fun t47 zW aAO =>
 ae t45 true (fun Yq=>ax t46 t47 7 fun t48 =>
 Yq t48 zW none) (fun k=>k .undef zW none) fun ass rq atm =>
 ae t45 true (fun X8=>aA ass 0 fun t49 =>
 X8 t49 rq none) (fun k=>k .undef rq none) fun apH Ah aAu =>
 ae t45 true (fun aiO=>aI Ah apH 2 fun t50 =>
 aiO t50 Ah none) (fun k=>k .undef Ah none) fun auh Hg ay0 =>
 ae t45 true (fun O7=>O7 a0 Hg none) (fun k=>k .undef Hg none) fun t51 CX azs =>
 ae t45 true (fun Yk=>Yk (aa xs 1) CX none) (fun k=>k .undef CX none) fun t52 NL azG =>
 ae t45 true (fun YK=>ax t51 t52 7 fun t53 =>
 YK t53 NL none) (fun k=>k .undef NL none) fun amK xH arp =>
 ae t45 true (fun O9=>aA amK 0 fun t54 =>
 O9 t54 xH none) (fun k=>k .undef xH none) fun aoX q9 aiw =>
 ae t45 true (fun Xo=>aI q9 aoX 2 fun t55 =>
 Xo t55 q9 none) (fun k=>k .undef q9 none) fun atg Cy apu =>
 ae t45 true (fun NG=>nE false [1,1] auh atg fun t56 =>
 NG t56 Cy none) (fun k=>k .undef Cy none) fun atK vR az9 =>
 ae t40 true (fun ajd=>aJ t45 atK (Bo false) fun t57 =>
 ajd t57 vR none) (fun k=>k .undef vR none) fun alD Lm avn =>
 ae t40 true (fun P6=>eG alD fun t58 =>
 P6 t58 Lm none) (fun k=>k .undef Lm none) fun akN QJ b_106 =>
 aJ t40 akN (Bo false) fun t59 =>
 af .add (aa gJ 1) (N .i64 1) fun t25 =>
 BP [t59,t25] QJ) (
 ay (aa gJ 0) (
 ax a0 (aa xs 1) 7 fun t64 =>
 aA t64 0 fun t65 =>
 aI M_3 t65 2 fun t66 =>
 ax a0 (aa xs 1) 7 fun t69 =>
 aA t69 3 fun t70 =>
 ai M_3 t70 fun t71 =>
 ax a0 (aa xs 1) 7 fun t74 =>
 aA t74 4 fun t75 =>
 ai M_3 t75 fun t76 =>
 ax a0 (aa xs 1) 7 fun t79 =>
 aA t79 5 fun t80 =>
 ai M_3 t80 fun t81 =>
 lX [(N .i64 0),(N .u64 0),(St []),(St []),(St [])] [(0,2,t66),(2,1,t71),(3,1,t76),(4,1,t81)] fun t82 =>
 p3 [(aa xs 0),t82] M_3 fun t83 uY =>
 J [t83] uY) (
 J [(aa xs 0)] M_3))) [t19,(N .i64 0)] M_0) (fun aqT avX =>
 af .add (aa xs 1) (N .i64 1) fun bf =>
 next [(aa aqT 0),bf] avX)) (
 Q (aa xs 0) M_0)) [t7,(N .i64 0)] M
def GG (p1:Nat) (a0:AV) (M0:RM) (Q:ak) : Prop :=
 LW p1 16 [(St [])] (N .i64 0) (N .i64 0) fun r f =>
 df r f M0 fun t5 M =>
 aV (fun next xs M_0 =>
 bD a0 fun t8 =>
 af .lss (aa xs 1) t8 fun t9 =>
 ay t9 (
 ed (fun J =>
 af .eql (aa xs 1) (N .i64 0) fun bf =>
 ae bf false (fun k=>k a0 M_0 none) (fun k=>k .undef M_0 none) fun t15 M_1 b =>
 ae bf false (fun k_2=>k_2 (aa xs 1) M_1 none) (fun k=>k .undef M_1 none) fun t16 M_3 b_4 =>
 ae bf false (fun k_5=>ax t15 t16 5 fun t17 =>
 k_5 t17 M_3 none) (fun k=>k .undef M_3 none) fun adF M_7 b_8 =>
 ae bf false (fun k_9=>aA adF 2 fun t18 =>
 k_9 t18 M_7 none) (fun k=>k .undef M_7 none) fun JX dD Nb =>
 ae bf false (fun nH=>ai dD JX fun t19 =>
 nH t19 dD none) (fun k=>k .undef dD none) fun asA fP WV =>
 ae bf false (fun jV=>jV a0 fP none) (fun k=>k .undef fP none) fun t20 bZ Lb =>
 ae bf false (fun iU=>iU (aa xs 1) bZ none) (fun k=>k .undef bZ none) fun t21 dN MX =>
 ae bf false (fun kY=>af .sub t21 (N .i64 1) fun t22 =>
 kY t22 dN none) (fun k=>k .undef dN none) fun ar9 iI Uh =>
 ae bf false (fun rT=>ax t20 ar9 5 fun t23 =>
 rT t23 iI none) (fun k=>k .undef iI none) fun aur fV Nq =>
 ae bf false (fun kX=>aA aur 2 fun t24 =>
 kX t24 fV none) (fun k=>k .undef fV none) fun am7 gF ac9 =>
 ae bf false (fun kZ=>ai gF am7 fun t25 =>
 kZ t25 gF none) (fun k=>k .undef gF none) fun Kw dZ Pf =>
 ae bf false (fun yH=>iT .neq asA Kw fun t26 =>
 yH t26 dZ none) (fun k=>k .undef dZ none) fun amw gG K6 =>
 aJ bf (Bo true) amw fun t27 =>
 ay t27 (
 ax a0 (aa xs 1) 5 fun t31 =>
 aA t31 2 fun t32 =>
 ai gG t32 fun t33 =>
 dH p1 1 [(St [])] [(0,1,t33)] fun agj ahe =>
 df agj ahe gG fun t34 kE =>
 appW p1 1 16 [(St [])] false (aa xs 0) t34 kE fun t35 gN =>
 J [t35] gN) (
 J [(aa xs 0)] gG)) (fun xL kL =>
 af .add (aa xs 1) (N .i64 1) fun bV =>
 next [(aa xL 0),bV] kL)) (
 Q (aa xs 0) M_0)) [t5,(N .i64 0)] M
def WB (a0 a1:AV) (M0:RM) (Q:ak) : Prop :=
 bD a0 fun t7 =>
 bD a1 fun t9 =>
 af .neq t7 t9 fun bH =>
 ay bH (
 Q (Bo false) M0) (
 aV (fun next xs M =>
 bD a0 fun bf =>
 af .lss (aa xs 0) bf fun t14 =>
 ay t14 (
 ax a0 (aa xs 0) 5 fun t19 =>
 aI M t19 5 fun t20 =>
 ax a1 (aa xs 0) 5 fun t23 =>
 aI M t23 5 fun t24 =>
 nE true [1,1,2,2,2] t20 t24 fun t25 =>
 ay t25 (
 Q (Bo false) M) (
 af .add (aa xs 0) (N .i64 1) fun t16 =>
 next [t16] M)) (
 Q (Bo true) M)) [(N .i64 0)] M0)
def YT (p1:au) (a0:AV) (M0:RM) (Q:ak) : Prop :=
 aV (fun next xs M =>
 bD a0 fun t8 =>
 af .lss (aa xs 1) t8 fun t9 =>
 ay t9 (
 ax a0 (aa xs 1) 7 fun t15 =>
 aA t15 0 fun t16 =>
 aI M t16 2 fun t17 =>
 p1 [(aa xs 0),t17] M fun t18 M_0 =>
 aV (fun BP gJ M_3 =>
 ax a0 (aa xs 1) 7 fun t22 =>
 aA t22 6 fun t23 =>
 ai M_3 t23 fun t24 =>
 bD t24 fun t25 =>
 af .lss (aa gJ 1) t25 fun t26 =>
 ay t26 (
 ax a0 (aa xs 1) 7 fun t32 =>
 aA t32 6 fun t33 =>
 ai M_3 t33 fun t34 =>
 ax t34 (aa gJ 1) 2 fun t36 =>
 aI M_3 t36 2 fun t37 =>
 p1 [(aa gJ 0),t37] M_3 fun t38 M_4 =>
 af .add (aa gJ 1) (N .i64 1) fun t28 =>
 BP [t38,t28] M_4) (
 af .add (aa xs 1) (N .i64 1) fun bV =>
 next [(aa gJ 0),bV] M_3)) [t18,(N .i64 0)] M_0) (
 Q (aa xs 0) M)) [(.sc (.slice none 0 0)),(N .i64 0)] M0
def Ad (p1 p2 p3:au) (p4:Nat) (a0 a1:AV) (M0:RM) (Q:ak) : Prop :=
 p1 [a0] M0 fun t8 M =>
 jL M t8 fun t9 =>
 p2 [t9] M fun bH M_0 =>
 bD a1 fun bf =>
 iE .u64 bf fun t14 =>
 p3 [t14] M_0 fun t15 M_1 =>
 appW p4 1 1 [(N .u8 0)] false bH t15 M_1 fun t16 M_2 =>
 aV (fun next xs M_3 =>
 bD a1 fun t19 =>
 af .lss (aa xs 1) t19 fun t20 =>
 ay t20 (
 ax a1 (aa xs 1) 5 fun t26 =>
 aA t26 0 fun t27 =>
 aA t27 0 fun t28 =>
 ai M_3 t28 fun t29 =>
 iE .u64 t29 fun t30 =>
 ax a1 (aa xs 1) 5 fun t35 =>
 aA t35 0 fun t36 =>
 aA t36 1 fun t37 =>
 ai M_3 t37 fun t38 =>
 p3 [t30] M_3 fun t31 M_4 =>
 ai M_4 t37 fun atn =>
 (atn=t38∧appW p4 1 1 [(N .u8 0)] false (aa xs 0) t31 M_4 fun t32 M_5 =>
 ai M_5 t37 fun anr =>
 (anr=t38∧p3 [t38] M_5 fun t39 M_6 =>
 appW p4 1 1 [(N .u8 0)] false t32 t39 M_6 fun t40 M_7 =>
 ax a1 (aa xs 1) 5 fun t44 =>
 aA t44 2 fun t45 =>
 ai M_7 t45 fun t46 =>
 ax a1 (aa xs 1) 5 fun t51 =>
 aA t51 3 fun t52 =>
 ai M_7 t52 fun t53 =>
 ax a1 (aa xs 1) 5 fun t58 =>
 aA t58 4 fun t59 =>
 ai M_7 t59 fun t60 =>
 p2 [t46] M_7 fun t47 M_8 =>
 ai M_8 t52 fun asa =>
 (asa=t53∧ai M_8 t59 fun asM =>
 (asM=t60∧appW p4 1 1 [(N .u8 0)] false t40 t47 M_8 fun t48 M_9 =>
 ai M_9 t52 fun aqM =>
 (aqM=t53∧ai M_9 t59 fun asO =>
 (asO=t60∧p2 [t53] M_9 fun t54 dm =>
 ai dm t59 fun atJ =>
 (atJ=t60∧appW p4 1 1 [(N .u8 0)] false t48 t54 dm fun t55 dD =>
 ai dD t59 fun aqj =>
 (aqj=t60∧p2 [t60] dD fun t61 eO =>
 appW p4 1 1 [(N .u8 0)] false t55 t61 eO fun t62 eu =>
 af .add (aa xs 1) (N .i64 1) fun t22 =>
 next [t62,t22] eu))))))))) (
 Q (aa xs 0) M_3)) [t16,(N .i64 0)] M_2
def E8 (p1:au) (p2:Nat) (a0:AV) (M0:RM) (Q:ak) : Prop :=
 qi a0 fun t4 =>
 iE .u64 t4 fun t5 =>
 p1 [t5] M0 fun t6 M =>
 appW p2 1 1 [(N .u8 0)] false t6 a0 M fun t8 M_0 =>
 Q t8 M_0
def RP (p1:Nat) (p2 p3:au) (p4:Nat) (p5:au) (a0 a1:AV) (M0:RM) (Q:ak) : Prop :=
 iW p1 a0 fun r f =>
 df r f M0 fun t2 M =>
 iW p1 a1 fun r_0 f_1 =>
 df r_0 f_1 M fun t3 M_2 =>
 aA t2 1 fun t5 =>
 ai M_2 t5 fun t6 =>
 aA t3 1 fun t7 =>
 ai M_2 t7 fun t8 =>
 aA t2 0 fun bH =>
 ai M_2 bH fun bV =>
 aA t3 0 fun t12 =>
 ai M_2 t12 fun bf =>
 p2 [t6,t8] M_2 fun t9 M_3 =>
 ai M_3 bH fun ari =>
 (ari=bV∧ai M_3 t12 fun IB =>
 (IB=bf∧p3 [bV,bf] M_3 fun t14 M_4 =>
 dH p4 2 [(N .i64 0)] [(0,1,t9),(1,1,t14)] fun r_5 f_6 =>
 mI r_5 f_6 M_4 fun t15 M_7 b =>
 p5 [t15] M_7 fun t16 M_8 =>
 Q t16 M_8))
def jq (p1 p2 p3 p4 p5 p6:au) (cv:(FuncId→au)) (p7 p8 p9:au) (a0 a1 a2 a3 a4:AV) (M0:RM) (Q:ak) : Prop :=
 aV (fun next xs M =>
 af .sub (aa xs 1) (aa xs 0) fun t23 =>
 af .leq t23 (N .i64 12) fun t25 =>
 ay t25 (
 p1 [a0,(aa xs 0),(aa xs 1),a4] M fun t30 M_0 =>
 Q (.tup []) M_0) (
 af .eql (aa xs 2) (N .i64 0) fun t32 =>
 ay t32 (
 p2 [a0,(aa xs 0),(aa xs 1),a4] M fun t37 M_1 =>
 Q (.tup []) M_1) (
 ed (fun J =>
 eG (aa xs 3) fun t39 =>
 ay t39 (
 p3 [a0,(aa xs 0),(aa xs 1),a4] M fun t44 M_2 =>
 af .sub (aa xs 2) (N .i64 1) fun t46 =>
 J [t46] M_2) (
 J [(aa xs 2)] M)) (fun dU M_4 =>
 p4 [a0,(aa xs 0),(aa xs 1),a4] M_4 fun t52 M_5 =>
 fI t52 0 fun t53 =>
 fI t52 1 fun t54 =>
 ed (fun J_6 =>
 af .eql t54 (N .i64 2) fun t56 =>
 ay t56 (
 p5 [a0,(aa xs 0),(aa xs 1),a4] M_5 fun t61 M_7 =>
 af .sub (aa xs 1) (N .i64 1) fun t63 =>
 af .sub t53 (aa xs 0) fun t66 =>
 af .sub t63 t66 fun t67 =>
 J_6 [t67,(N .i64 1)] M_7) (
 J_6 [t53,t54] M_5)) (fun og M_9 =>
 ed (fun Zk =>
 ah (aa xs 3) true (fun k=>k (aa xs 4) M_9) (fun k=>k .undef M_9) fun t70 dD =>
 aJ (aa xs 3) t70 (Bo false) fun t71 =>
 ah t71 true (fun mq=>mq (aa og 1) dD) (fun k=>k .undef dD) fun t73 eu =>
 ah t71 true (fun iJ=>af .eql t73 (N .i64 1) fun t74 =>
 iJ t74 eu) (fun k=>k .undef eu) fun ao7 dh =>
 aJ t71 ao7 (Bo false) fun t75 =>
 ay t75 (
 p6 [a0,(aa xs 0),(aa xs 1),a4] dh fun t80 kG =>
 ay t80 (
 Q (.tup []) kG) (
 Zk [] kG)) (
 Zk [] dh)) (fun awc dE =>
 af .gtr (aa xs 0) (N .i64 0) fun t82 =>
 ae t82 true (fun iU=>iU a4 dE none) (fun k=>k .undef dE none) fun t84 dN b =>
 ae t82 true (fun oK=>oK a0 dN none) (fun k=>k .undef dN none) fun t85 lL Sq =>
 ae t82 true (fun nz=>nz (aa xs 0) lL none) (fun k=>k .undef lL none) fun t86 jo Nn =>
 ae t82 true (fun lh=>af .sub t86 (N .i64 1) fun t87 =>
 lh t87 jo none) (fun k=>k .undef jo none) fun auj eU adl =>
 ae t82 true (fun rP=>ax t85 auj 5 fun t88 =>
 rP t88 eU none) (fun k=>k .undef eU none) fun atG eY acp =>
 ae t82 true (fun BU=>aI eY atG 5 fun t89 =>
 BU t89 eY none) (fun k=>k .undef eY none) fun ap5 nZ agk =>
 ae t82 true (fun BF=>BF a0 nZ none) (fun k=>k .undef nZ none) fun t90 gG K6 =>
 ae t82 true (fun BC=>BC (aa og 0) gG none) (fun k=>k .undef gG none) fun t91 nJ aco =>
 ae t82 true (fun OZ=>ax t90 t91 5 fun t92 =>
 OZ t92 nJ none) (fun k=>k .undef nJ none) fun asS kL arv =>
 ae t82 true (fun yL=>aI kL asS 5 fun t93 =>
 yL t93 kL none) (fun k=>k .undef kL none) fun anT mY ajx =>
 ah t82 true (fun Nv=>gW cv t84 [ap5,anT] mY fun t94 nR =>
 Nv t94 nR) (fun k=>k .undef mY) fun aoQ iY =>
 ae t82 true (fun NS=>af .lss aoQ (N .i64 0) fun t95 =>
 NS t95 iY none) (fun k=>k .undef iY none) fun apX lg YH =>
 ae t82 true (fun yG=>eG apX fun t96 =>
 yG t96 lg none) (fun k=>k .undef lg none) fun am0 qG af2 =>
 aJ t82 am0 (Bo false) fun t97 =>
 ay t97 (
 p7 [a0,(aa xs 0),(aa xs 1),(aa og 0),a4] qG fun vH uF =>
 next [vH,(aa xs 1),(aa dU 0),(aa xs 3),(aa xs 4)] uF) (
 p8 [a0,(aa xs 0),(aa xs 1),(aa og 0),a4] qG fun Al rq =>
 fI Al 0 fun rZ =>
 fI Al 1 fun xq =>
 af .sub rZ (aa xs 0) fun t117 =>
 af .sub (aa xs 1) rZ fun EL =>
 af .quo t23 (N .i64 8) fun Kr =>
 af .lss t117 EL fun oU =>
 ay oU (
 af .geq t117 Kr fun OU =>
 p9 [a0,(aa xs 0),rZ,(aa dU 0),a4] rq fun KM Fb =>
 af .add rZ (N .i64 1) fun Kb =>
 next [Kb,(aa xs 1),(aa dU 0),OU,xq] Fb) (
 af .geq EL Kr fun t139 =>
 af .add rZ (N .i64 1) fun ahn =>
 p9 [a0,ahn,(aa xs 1),(aa dU 0),a4] rq fun t146 pq =>
 next [(aa xs 0),rZ,(aa dU 0),t139,xq] pq)))))))) [a1,a2,a3,(Bo true),(Bo true)] M0
def Nr (a0:AV) (M0:RM) (Q:ak) : Prop :=
 bD a0 fun t7 =>
 aV (fun next xs M =>
 af .lss (aa xs 0) t7 fun t9 =>
 ay t9 (
 ax a0 (aa xs 0) 1 fun bH =>
 ai M bH fun bV =>
 af .neq bV (N .i64 0) fun t14 =>
 ay t14 (
 Q bV M) (
 af .add (aa xs 0) (N .i64 1) fun t16 =>
 next [t16] M)) (
 Q (N .i64 0) M)) [(N .i64 0)] M0
def vV (p1:au) (a0 a1:AV) (M0:RM) (Q:ak) : Prop :=
 p1 [a0] M0 fun t8 M =>
 p1 [a1] M fun bH M_0 =>
 ay t8 (
 ay bH (
 Q (N .i64 0) M_0) (
 Q (N .i64 (-1)) M_0)) (
 ay bH (
 Q (N .i64 1) M_0) (
 iT .lss a0 a1 fun t16 =>
 ay t16 (
 Q (N .i64 (-1)) M_0) (
 iT .gtr a0 a1 fun t19 =>
 ay t19 (
 Q (N .i64 1) M_0) (
 Q (N .i64 0) M_0))))
def uG (cv:(FuncId→au)) (a0 a1:AV) (M0:RM) (Q:ak) : Prop :=
 bD a0 fun t7 =>
 aV (fun next xs M =>
 af .lss (aa xs 0) t7 fun t9 =>
 ay t9 (
 ax a0 (aa xs 0) 5 fun t14 =>
 aI M t14 5 fun t15 =>
 gW cv a1 [t15] M fun t16 M_0 =>
 ay t16 (
 Q (aa xs 0) M_0) (
 af .add (aa xs 0) (N .i64 1) fun t18 =>
 next [t18] M_0)) (
 Q (N .i64 (-1)) M)) [(N .i64 0)] M0
def EF (p1:Nat) (a0 a1:AV) (M0:RM) (Q:ak) : Prop :=
 iW p1 a1 fun r f =>
 df r f M0 fun t3 M =>
 bD a0 fun t7 =>
 aV (fun next xs M_0 =>
 af .lss (aa xs 0) t7 fun t9 =>
 ay t9 (
 aI M_0 t3 2 fun bV =>
 ax a0 (aa xs 0) 2 fun t14 =>
 aI M_0 t14 2 fun t15 =>
 nE false [1,1] bV t15 fun t16 =>
 ay t16 (
 Q (aa xs 0) M_0) (
 af .add (aa xs 0) (N .i64 1) fun t18 =>
 next [t18] M_0)) (
 Q (N .i64 (-1)) M_0)) [(N .i64 0)] M
def Gn (p1:Nat) (p2:au) (a0 a1:AV) (M0:RM) (Q:ak) : Prop :=
 iW p1 a1 fun r f =>
 df r f M0 fun t3 M =>
 aV (fun next xs M_0 =>
 bD a0 fun t8 =>
 af .lss (aa xs 0) t8 fun t9 =>
 ae t9 true (fun k=>k a0 M_0 none) (fun k=>k .undef M_0 none) fun bV M_1 b =>
 ae t9 true (fun k_2=>k_2 (aa xs 0) M_1 none) (fun k=>k .undef M_1 none) fun t12 M_3 b_4 =>
 ae t9 true (fun k_5=>ax bV t12 5 fun bf =>
 k_5 bf M_3 none) (fun k=>k .undef M_3 none) fun acj M_7 b_8 =>
 ae t9 true (fun k_9=>aI M_7 acj 5 fun t14 =>
 k_9 t14 M_7 none) (fun k=>k .undef M_7 none) fun WL dD Nb =>
 ae t9 true (fun nH=>aI dD t3 5 fun t15 =>
 nH t15 dD none) (fun k=>k .undef dD none) fun anX fP WV =>
 ah t9 true (fun jV=>p2 [WL,anX] fP fun t16 bZ =>
 jV t16 bZ) (fun k=>k .undef fP) fun anL j6 =>
 aJ t9 anL (Bo false) fun t17 =>
 ay t17 (
 af .add (aa xs 0) (N .i64 1) fun t19 =>
 next [t19] j6) (
 dH p1 0 [(N .i64 0),(N .u64 0),(St []),(St []),(St [])] [] fun ayX ax9 =>
 mI ayX ax9 j6 fun t20 lL Sq =>
 eT (bB 5 a0 none (some (aa xs 0)) none) fun t23 =>
 aI lL t3 5 fun t25 =>
 dH p1 1 [(N .i64 0),(N .u64 0),(St []),(St []),(St [])] [(0,5,t25)] fun aAy ax8 =>
 mI aAy ax8 lL fun t26 gp acR =>
 eT (bB 5 a0 (some (aa xs 0)) none none) fun t30 =>
 appW p1 5 64 [(N .i64 0),(N .u64 0),(St []),(St []),(St [])] false t20 t23 gp fun t24 fV =>
 aI fV t3 5 fun Kw =>
 (Kw=t25∧dH p1 1 [(N .i64 0),(N .u64 0),(St []),(St []),(St [])] [(0,5,t25)] fun ayR azb =>
 (uk acR fV ayR azb t26∧eT (bB 5 a0 (some (aa xs 0)) none none) fun auF =>
 (auF=t30∧appW p1 5 64 [(N .i64 0),(N .u64 0),(St []),(St []),(St [])] false t24 t26 fV fun t27 eU =>
 eT (bB 5 a0 (some (aa xs 0)) none none) fun anW =>
 (anW=t30∧appW p1 5 64 [(N .i64 0),(N .u64 0),(St []),(St []),(St [])] false t27 t30 eU fun t31 iy =>
 Q t31 iy)))))) [(N .i64 0)] M
def vX (p1:au) (a0 a1:AV) (M0:RM) (Q:ak) : Prop :=
 p1 [a0] M0 fun t8 M =>
 p1 [a1] M fun bH M_0 =>
 ay t8 (
 ay bH (
 Q (N .i64 0) M_0) (
 Q (N .i64 (-1)) M_0)) (
 ay bH (
 Q (N .i64 1) M_0) (
 af .lss a0 a1 fun t16 =>
 ay t16 (
 Q (N .i64 (-1)) M_0) (
 af .gtr a0 a1 fun t19 =>
 ay t19 (
 Q (N .i64 1) M_0) (
 Q (N .i64 0) M_0))))
def zV (p1:au) (a0 a1:AV) (M0:RM) (Q:ak) : Prop :=
 p1 [a0] M0 fun t8 M =>
 p1 [a1] M fun bH M_0 =>
 ay t8 (
 ay bH (
 Q (N .i64 0) M_0) (
 Q (N .i64 (-1)) M_0)) (
 ay bH (
 Q (N .i64 1) M_0) (
 af .lss a0 a1 fun t16 =>
 ay t16 (
 Q (N .i64 (-1)) M_0) (
 af .gtr a0 a1 fun t19 =>
 ay t19 (
 Q (N .i64 1) M_0) (
 Q (N .i64 0) M_0))))
def gK (cv:(FuncId→au)) (a0 a1 a2 a3:AV) (M0:RM) (Q:ak) : Prop :=
 af .add a1 (N .i64 1) fun bV =>
 aV (fun next xs M =>
 af .lss (aa xs 0) a2 fun t14 =>
 ay t14 (
 aV (fun xk dz M_2 =>
 af .gtr (aa dz 0) a1 fun t20 =>
 ae t20 true (fun k=>k a3 M_2 none) (fun k=>k .undef M_2 none) fun t22 M_3 b =>
 ae t20 true (fun k_4=>k_4 a0 M_3 none) (fun k=>k .undef M_3 none) fun t23 M_5 b_6 =>
 ae t20 true (fun k_7=>k_7 (aa dz 0) M_5 none) (fun k=>k .undef M_5 none) fun t24 M_8 b_9 =>
 ae t20 true (fun pz=>ax t23 t24 5 fun t25 =>
 pz t25 M_8 none) (fun k=>k .undef M_8 none) fun an0 eO NF =>
 ae t20 true (fun iJ=>aI eO an0 5 fun t26 =>
 iJ t26 eO none) (fun k=>k .undef eO none) fun auH dh Bw =>
 ae t20 true (fun mh=>mh a0 dh none) (fun k=>k .undef dh none) fun t27 dE Xb =>
 ae t20 true (fun yl=>yl (aa dz 0) dE none) (fun k=>k .undef dE none) fun t28 fJ TK =>
 ae t20 true (fun sW=>af .sub t28 (N .i64 1) fun t29 =>
 sW t29 fJ none) (fun k=>k .undef fJ none) fun arz jo Nn =>
 ae t20 true (fun lh=>ax t27 arz 5 fun t30 =>
 lh t30 jo none) (fun k=>k .undef jo none) fun arJ eU adl =>
 ae t20 true (fun rP=>aI eU arJ 5 fun t31 =>
 rP t31 eU none) (fun k=>k .undef eU none) fun aut eY acp =>
 ah t20 true (fun BU=>gW cv t22 [auH,aut] eY fun t32 dZ =>
 BU t32 dZ) (fun k=>k .undef eY) fun aqk nT =>
 ae t20 true (fun BF=>af .lss aqk (N .i64 0) fun t33 =>
 BF t33 nT none) (fun k=>k .undef nT none) fun atQ nS ahg =>
 aJ t20 atQ (Bo false) fun t34 =>
 ay t34 (
 af .sub (aa dz 0) (N .i64 1) fun t41 =>
 af .sub (aa dz 0) (N .i64 1) fun t44 =>
 ax a0 t44 5 fun t45 =>
 aI nS t45 5 fun t46 =>
 ax a0 (aa dz 0) 5 fun t49 =>
 aI nS t49 5 fun t50 =>
 ax a0 (aa dz 0) 5 fun t51 =>
 aL nS t51 t46 5 fun nJ =>
 ax a0 t41 5 fun t52 =>
 aL nJ t52 t50 5 fun kE =>
 af .sub (aa dz 0) (N .i64 1) fun t36 =>
 xk [t36] kE) (
 af .add (aa xs 0) (N .i64 1) fun t16 =>
 next [t16] nS)) [(aa xs 0)] M) (
 Q (.tup []) M)) [bV] M0
def nW (p1:au) (a0 a1 a2 a3:AV) (M0:RM) (Q:ak) : Prop :=
 af .sub a2 a1 fun t16 =>
 af .sub t16 (N .i64 1) fun t18 =>
 af .quo t18 (N .i64 2) fun t19 =>
 aV (fun next xs M =>
 af .geq (aa xs 0) (N .i64 0) fun t21 =>
 ay t21 (
 p1 [a0,(aa xs 0),t16,a1,a3] M fun t29 M_0 =>
 af .sub (aa xs 0) (N .i64 1) fun t23 =>
 next [t23] M_0) (
 af .sub t16 (N .i64 1) fun t31 =>
 aV (fun BP gJ M_3 =>
 af .geq (aa gJ 0) (N .i64 0) fun t33 =>
 ay t33 (
 af .add a1 (aa gJ 0) fun t41 =>
 af .add a1 (aa gJ 0) fun t45 =>
 ax a0 t45 5 fun t46 =>
 aI M_3 t46 5 fun t47 =>
 ax a0 a1 5 fun t50 =>
 aI M_3 t50 5 fun t51 =>
 ax a0 a1 5 fun t52 =>
 aL M_3 t52 t47 5 fun M_4 =>
 ax a0 t41 5 fun t53 =>
 aL M_4 t53 t51 5 fun M_5 =>
 p1 [a0,(N .i64 0),(aa gJ 0),a1,a3] M_5 fun t59 M_6 =>
 af .sub (aa gJ 0) (N .i64 1) fun t35 =>
 BP [t35] M_6) (
 Q (.tup []) M_3)) [t31] M)) [t19] M0
def kW (p1:Nat) (p2 p3:au) (a0 a1 a2 a3:AV) (M0:RM) (Q:ak) : Prop :=
 af .sub a2 a1 fun t15 =>
 af .geq t15 (N .i64 8) fun t17 =>
 ay t17 (
 iE .u64 t15 fun t19 =>
 df (.row [(N .u64 0)] false p1 0) (fun b=>.ptr b 0) M0 fun t9 M =>
 aL M t9 t19 1 fun M_0 =>
 p2 [t15] M_0 fun t21 M_1 =>
 af .quo t15 (N .i64 4) fun t24 =>
 af .mul t24 (N .i64 2) fun t25 =>
 af .add a1 t25 fun t26 =>
 af .sub t26 (N .i64 1) fun t27 =>
 aV (fun next xs M_2 =>
 af .quo t15 (N .i64 4) fun t31 =>
 af .mul t31 (N .i64 2) fun t32 =>
 af .add a1 t32 fun t33 =>
 af .add t33 (N .i64 1) fun t34 =>
 af .leq (aa xs 0) t34 fun t35 =>
 ay t35 (
 ed (fun J =>
 p3 [t9] M_2 fun t38 M_3 =>
 af .sub t21 (N .u64 1) fun t40 =>
 af .and t38 t40 fun t41 =>
 iE .i64 t41 fun t42 =>
 ed (fun J_4 =>
 af .geq t42 t15 fun t45 =>
 ay t45 (
 af .sub t42 t15 fun t48 =>
 J_4 [t48] M_3) (
 J_4 [t42] M_3)) (fun JR M_6 =>
 af .add a1 (aa JR 0) fun t54 =>
 af .add a1 (aa JR 0) fun t58 =>
 ax a0 t58 5 fun t59 =>
 aI M_6 t59 5 fun t60 =>
 ax a0 (aa xs 0) 5 fun t63 =>
 aI M_6 t63 5 fun t64 =>
 ax a0 (aa xs 0) 5 fun t65 =>
 aL M_6 t65 t60 5 fun M_7 =>
 ax a0 t54 5 fun t66 =>
 aL M_7 t66 t64 5 fun M_8 =>
 J [] M_8)) (fun H5 dm =>
 af .add (aa xs 0) (N .i64 1) fun t37 =>
 next [t37] dm)) (
 Q (.tup []) M_2)) [t27] M_1) (
 Q (.tup []) M0)
def mo (p1:Nat) (p2 p3:au) (a0 a1 a2 a3:AV) (M0:RM) (Q:ak) : Prop :=
 af .sub a2 a1 fun t17 =>
 df (.row [(N .i64 0)] false p1 0) (fun b=>.ptr b 0) M0 fun bV M =>
 af .quo t17 (N .i64 4) fun t20 =>
 af .mul t20 (N .i64 1) fun t21 =>
 af .add a1 t21 fun t22 =>
 af .quo t17 (N .i64 4) fun t25 =>
 af .mul t25 (N .i64 2) fun t26 =>
 af .add a1 t26 fun t27 =>
 af .quo t17 (N .i64 4) fun t30 =>
 af .mul t30 (N .i64 3) fun t31 =>
 af .add a1 t31 fun t32 =>
 ed (fun J =>
 af .geq t17 (N .i64 8) fun t34 =>
 ay t34 (
 ed (fun J_0 =>
 af .geq t17 (N .i64 50) fun t36 =>
 ay t36 (
 p2 [a0,t22,bV,a3] M fun t40 M_1 =>
 p2 [a0,t27,bV,a3] M_1 fun t44 M_2 =>
 p2 [a0,t32,bV,a3] M_2 fun t48 M_3 =>
 J_0 [t40,t44,t48] M_3) (
 J_0 [t22,t27,t32] M)) (fun xs M_4 =>
 p3 [a0,(aa xs 0),(aa xs 1),(aa xs 2),bV,a3] M_4 fun t54 M_5 =>
 J [t54] M_5)) (
 J [t27] M)) (fun Ns M_7 =>
 ai M_7 bV fun t55 =>
 af .eql t55 (N .i64 0) fun t58 =>
 ay t58 (
 Q (.tup [(aa Ns 0),(N .i64 1)]) M_7) (
 af .eql t55 (N .i64 12) fun t61 =>
 ay t61 (
 Q (.tup [(aa Ns 0),(N .i64 2)]) M_7) (
 Q (.tup [(aa Ns 0),(N .i64 0)]) M_7)))
def lW (a0 a1 a2 a3:AV) (M0:RM) (Q:ak) : Prop :=
 af .sub a2 (N .i64 1) fun t12 =>
 aV (fun next xs M =>
 af .lss (aa xs 0) (aa xs 1) fun t15 =>
 ay t15 (
 ax a0 (aa xs 1) 5 fun t22 =>
 aI M t22 5 fun t23 =>
 ax a0 (aa xs 0) 5 fun t26 =>
 aI M t26 5 fun t27 =>
 ax a0 (aa xs 0) 5 fun t28 =>
 aL M t28 t23 5 fun M_0 =>
 ax a0 (aa xs 1) 5 fun t29 =>
 aL M_0 t29 t27 5 fun M_1 =>
 af .add (aa xs 0) (N .i64 1) fun t31 =>
 af .sub (aa xs 1) (N .i64 1) fun t33 =>
 next [t31,t33] M_1) (
 Q (.tup []) M)) [a1,t12] M0
def iX (cv:(FuncId→au)) (a0 a1 a2 a3:AV) (M0:RM) (Q:ak) : Prop :=
 af .add a1 (N .i64 1) fun t14 =>
 aV (fun next xs M =>
 af .lss (aa xs 1) (N .i64 5) fun t16 =>
 ay t16 (
 ed (fun J =>
 aV (fun xk dz M_2 =>
 af .lss (aa dz 0) a2 fun t21 =>
 ae t21 true (fun k=>k a3 M_2 none) (fun k=>k .undef M_2 none) fun t23 M_3 b =>
 ae t21 true (fun k_4=>k_4 a0 M_3 none) (fun k=>k .undef M_3 none) fun t24 M_5 b_6 =>
 ae t21 true (fun k_7=>k_7 (aa dz 0) M_5 none) (fun k=>k .undef M_5 none) fun t25 M_8 b_9 =>
 ae t21 true (fun pz=>ax t24 t25 5 fun t26 =>
 pz t26 M_8 none) (fun k=>k .undef M_8 none) fun auS eO NF =>
 ae t21 true (fun iJ=>aI eO auS 5 fun t27 =>
 iJ t27 eO none) (fun k=>k .undef eO none) fun apr dh Bw =>
 ae t21 true (fun mh=>mh a0 dh none) (fun k=>k .undef dh none) fun t28 dE Xb =>
 ae t21 true (fun yl=>yl (aa dz 0) dE none) (fun k=>k .undef dE none) fun t29 fJ TK =>
 ae t21 true (fun sW=>af .sub t29 (N .i64 1) fun t30 =>
 sW t30 fJ none) (fun k=>k .undef fJ none) fun amA jo Nn =>
 ae t21 true (fun lh=>ax t28 amA 5 fun t31 =>
 lh t31 jo none) (fun k=>k .undef jo none) fun Yn eU adl =>
 ae t21 true (fun rP=>aI eU Yn 5 fun t32 =>
 rP t32 eU none) (fun k=>k .undef eU none) fun Wq eY acp =>
 ah t21 true (fun BU=>gW cv t23 [apr,Wq] eY fun t33 dZ =>
 BU t33 dZ) (fun k=>k .undef eY) fun apx nT =>
 ae t21 true (fun BF=>af .lss apx (N .i64 0) fun t34 =>
 BF t34 nT none) (fun k=>k .undef nT none) fun Xi nS ahg =>
 ae t21 true (fun xY=>eG Xi fun t35 =>
 xY t35 nS none) (fun k=>k .undef nS none) fun aoF gN ahm =>
 aJ t21 aoF (Bo false) fun t36 =>
 ay t36 (
 af .add (aa dz 0) (N .i64 1) fun t38 =>
 xk [t38] gN) (
 af .eql (aa dz 0) a2 fun t41 =>
 ay t41 (
 Q (Bo true) gN) (
 af .sub a2 a1 fun t44 =>
 af .lss t44 (N .i64 50) fun t45 =>
 ay t45 (
 Q (Bo false) gN) (
 af .sub (aa dz 0) (N .i64 1) fun t50 =>
 af .sub (aa dz 0) (N .i64 1) fun t53 =>
 ax a0 t53 5 fun t54 =>
 aI gN t54 5 fun t55 =>
 ax a0 (aa dz 0) 5 fun t58 =>
 aI gN t58 5 fun t59 =>
 ax a0 (aa dz 0) 5 fun t60 =>
 aL gN t60 t55 5 fun kL =>
 ax a0 t50 5 fun t61 =>
 aL kL t61 t59 5 fun jT =>
 ed (fun ai9 =>
 af .sub (aa dz 0) a1 fun t64 =>
 af .geq t64 (N .i64 2) fun t65 =>
 ay t65 (
 af .sub (aa dz 0) (N .i64 1) fun t67 =>
 aV (fun alq y5 nU =>
 af .geq (aa y5 0) (N .i64 1) fun t69 =>
 ay t69 (
 ax a0 (aa y5 0) 5 fun t75 =>
 aI nU t75 5 fun t76 =>
 af .sub (aa y5 0) (N .i64 1) fun t79 =>
 ax a0 t79 5 fun t80 =>
 aI nU t80 5 fun t81 =>
 gW cv a3 [t76,t81] nU fun t82 j5 =>
 af .lss t82 (N .i64 0) fun t83 =>
 eG t83 fun t84 =>
 ay t84 (
 ai9 [] j5) (
 af .sub (aa y5 0) (N .i64 1) fun t89 =>
 af .sub (aa y5 0) (N .i64 1) fun t92 =>
 ax a0 t92 5 fun t93 =>
 aI j5 t93 5 fun t94 =>
 ax a0 (aa y5 0) 5 fun t97 =>
 aI j5 t97 5 fun t98 =>
 ax a0 (aa y5 0) 5 fun t99 =>
 aL j5 t99 t94 5 fun nR =>
 ax a0 t89 5 fun mg =>
 aL nR mg t98 5 fun qb =>
 af .sub (aa y5 0) (N .i64 1) fun t71 =>
 alq [t71] qb)) (
 ai9 [] nU)) [t67] jT) (
 ai9 [] jT)) (fun xs_57 pX =>
 af .sub a2 (aa dz 0) fun vH =>
 af .geq vH (N .i64 2) fun Gj =>
 ay Gj (
 af .add (aa dz 0) (N .i64 1) fun Hw =>
 aV (fun amf Dj oV =>
 af .lss (aa Dj 0) a2 fun t109 =>
 ay t109 (
 ax a0 (aa Dj 0) 5 fun Xf =>
 aI oV Xf 5 fun t116 =>
 af .sub (aa Dj 0) (N .i64 1) fun t119 =>
 ax a0 t119 5 fun EL =>
 aI oV EL 5 fun Ak =>
 gW cv a3 [t116,Ak] oV fun Kr oO =>
 af .lss Kr (N .i64 0) fun Gp =>
 eG Gp fun t124 =>
 ay t124 (
 J [(aa dz 0)] oO) (
 af .sub (aa Dj 0) (N .i64 1) fun yE =>
 af .sub (aa Dj 0) (N .i64 1) fun Ou =>
 ax a0 Ou 5 fun V9 =>
 aI oO V9 5 fun KM =>
 ax a0 (aa Dj 0) 5 fun ahw =>
 aI oO ahw 5 fun t138 =>
 ax a0 (aa Dj 0) 5 fun t139 =>
 aL oO t139 KM 5 fun zW =>
 ax a0 yE 5 fun ahs =>
 aL zW ahs t138 5 fun qG =>
 af .add (aa Dj 0) (N .i64 1) fun Al =>
 amf [Al] qG)) (
 J [(aa dz 0)] oV)) [Hw] pX) (
 J [(aa dz 0)] pX)))))) [(aa xs 0)] M) (fun avs uF =>
 af .add (aa xs 1) (N .i64 1) fun t18 =>
 next [(aa avs 0),t18] uF)) (
 Q (Bo false) M)) [t14,(N .i64 0)] M0
def kJ (cv:(FuncId→au)) (a0 a1 a2 a3 a4:AV) (M0:RM) (Q:ak) : Prop :=
 ax a0 a3 5 fun t19 =>
 aI M0 t19 5 fun t20 =>
 ax a0 a1 5 fun t23 =>
 aI M0 t23 5 fun t24 =>
 ax a0 a1 5 fun t25 =>
 aL M0 t25 t20 5 fun M =>
 ax a0 a3 5 fun t26 =>
 aL M t26 t24 5 fun M_0 =>
 af .add a1 (N .i64 1) fun t28 =>
 af .sub a2 (N .i64 1) fun t30 =>
 aV (fun next xs M_1 =>
 aV (fun xh dU M_4 =>
 af .leq (aa dU 0) (aa xs 1) fun t33 =>
 ae t33 true (fun k=>k a4 M_4 none) (fun k=>k .undef M_4 none) fun t35 M_5 b =>
 ae t33 true (fun k_6=>k_6 a0 M_5 none) (fun k=>k .undef M_5 none) fun t36 M_7 b_8 =>
 ae t33 true (fun k_9=>k_9 a1 M_7 none) (fun k=>k .undef M_7 none) fun t37 dm an2 =>
 ae t33 true (fun mq=>ax t36 t37 5 fun t38 =>
 mq t38 dm none) (fun k=>k .undef dm none) fun an9 eP adk =>
 ae t33 true (fun qR=>aI eP an9 5 fun t39 =>
 qR t39 eP none) (fun k=>k .undef eP none) fun aon bZ Lb =>
 ae t33 true (fun iU=>iU a0 bZ none) (fun k=>k .undef bZ none) fun t40 dN MX =>
 ae t33 true (fun kY=>kY (aa dU 0) dN none) (fun k=>k .undef dN none) fun t41 fO NE =>
 ae t33 true (fun vK=>ax t40 t41 5 fun t42 =>
 vK t42 fO none) (fun k=>k .undef fO none) fun anO lK II =>
 ae t33 true (fun vL=>aI lK anO 5 fun t43 =>
 vL t43 lK none) (fun k=>k .undef lK none) fun amJ iZ ag8 =>
 ah t33 true (fun rM=>gW cv t35 [aon,amJ] iZ fun t44 Ib =>
 rM t44 Ib) (fun k=>k .undef iZ) fun arS dZ =>
 ae t33 true (fun rY=>af .lss arS (N .i64 0) fun t45 =>
 rY t45 dZ none) (fun k=>k .undef dZ none) fun ams kD az0 =>
 ae t33 true (fun yR=>eG ams fun t46 =>
 yR t46 kD none) (fun k=>k .undef kD none) fun asI nJ aco =>
 aJ t33 asI (Bo false) fun t47 =>
 ay t47 (
 af .add (aa dU 0) (N .i64 1) fun t49 =>
 xh [t49] nJ) (
 aV (fun akO xL kL =>
 af .leq (aa dU 0) (aa xL 0) fun t52 =>
 ae t52 true (fun Oi=>Oi a4 kL none) (fun k=>k .undef kL none) fun t54 jW Wp =>
 ae t52 true (fun BX=>BX a0 jW none) (fun k=>k .undef jW none) fun t55 nU af1 =>
 ae t52 true (fun OV=>OV a1 nU none) (fun k=>k .undef nU none) fun t56 qb ase =>
 ae t52 true (fun NS=>ax t55 t56 5 fun t57 =>
 NS t57 qb none) (fun k=>k .undef qb none) fun anh lg YH =>
 ae t52 true (fun yG=>aI lg anh 5 fun t58 =>
 yG t58 lg none) (fun k=>k .undef lg none) fun amL qG af2 =>
 ae t52 true (fun Y6=>Y6 a0 qG none) (fun k=>k .undef qG none) fun t59 rq atm =>
 ae t52 true (fun X8=>X8 (aa xL 0) rq none) (fun k=>k .undef rq none) fun t60 IA b_71 =>
 ae t52 true (fun aAF=>ax t59 t60 5 fun t61 =>
 aAF t61 IA none) (fun k=>k .undef IA none) fun auA GA b_75 =>
 ae t52 true (fun ayo=>aI GA auA 5 fun t62 =>
 ayo t62 GA none) (fun k=>k .undef GA none) fun amM CX azs =>
 ah t52 true (fun Yk=>gW cv t54 [amL,amM] CX fun t63 NL =>
 Yk t63 NL) (fun k=>k .undef CX) fun as2 xK =>
 ae t52 true (fun ahD=>af .lss as2 (N .i64 0) fun t64 =>
 ahD t64 xK none) (fun k=>k .undef xK none) fun amR Ov b_87 =>
 aJ t52 amR (Bo false) fun t65 =>
 ay t65 (
 af .sub (aa xL 0) (N .i64 1) fun t67 =>
 akO [t67] Ov) (
 af .gtr (aa dU 0) (aa xL 0) fun t70 =>
 ay t70 (
 Q (aa dU 0) Ov) (
 ax a0 (aa xL 0) 5 fun t77 =>
 aI Ov t77 5 fun t78 =>
 ax a0 (aa dU 0) 5 fun t81 =>
 aI Ov t81 5 fun t82 =>
 ax a0 (aa dU 0) 5 fun t83 =>
 aL Ov t83 t78 5 fun vJ =>
 ax a0 (aa xL 0) 5 fun t84 =>
 aL vJ t84 t82 5 fun q9 =>
 af .add (aa dU 0) (N .i64 1) fun t86 =>
 af .sub (aa xL 0) (N .i64 1) fun t88 =>
 next [t86,t88] q9))) [(aa xs 1)] nJ)) [(aa xs 0)] M_1) [t28,t30] M_0
def nD (cv:(FuncId→au)) (a0 a1 a2 a3 a4:AV) (M0:RM) (Q:ak) : Prop :=
 ax a0 a3 5 fun t20 =>
 aI M0 t20 5 fun t21 =>
 ax a0 a1 5 fun t24 =>
 aI M0 t24 5 fun t25 =>
 ax a0 a1 5 fun t26 =>
 aL M0 t26 t21 5 fun M =>
 ax a0 a3 5 fun t27 =>
 aL M t27 t25 5 fun M_0 =>
 af .add a1 (N .i64 1) fun t29 =>
 af .sub a2 (N .i64 1) fun t31 =>
 aV (fun next xs M_1 =>
 af .leq (aa xs 0) t31 fun t34 =>
 ae t34 true (fun k=>k a4 M_1 none) (fun k=>k .undef M_1 none) fun t36 M_2 b =>
 ae t34 true (fun k_3=>k_3 a0 M_2 none) (fun k=>k .undef M_2 none) fun t37 M_4 b_5 =>
 ae t34 true (fun k_6=>k_6 (aa xs 0) M_4 none) (fun k=>k .undef M_4 none) fun t38 M_7 b_8 =>
 ae t34 true (fun k_9=>ax t37 t38 5 fun t39 =>
 k_9 t39 M_7 none) (fun k=>k .undef M_7 none) fun ars dD Nb =>
 ae t34 true (fun nH=>aI dD ars 5 fun t40 =>
 nH t40 dD none) (fun k=>k .undef dD none) fun asq fP WV =>
 ae t34 true (fun jV=>jV a0 fP none) (fun k=>k .undef fP none) fun t41 bZ Lb =>
 ae t34 true (fun iU=>iU a1 bZ none) (fun k=>k .undef bZ none) fun t42 dN MX =>
 ae t34 true (fun kY=>ax t41 t42 5 fun t43 =>
 kY t43 dN none) (fun k=>k .undef dN none) fun aqL iI Uh =>
 ae t34 true (fun rT=>aI iI aqL 5 fun t44 =>
 rT t44 iI none) (fun k=>k .undef iI none) fun apW fV Nq =>
 ah t34 true (fun kX=>gW cv t36 [asq,apW] fV fun t45 iZ =>
 kX t45 iZ) (fun k=>k .undef fV) fun arf eY =>
 ae t34 true (fun kZ=>af .lss arf (N .i64 0) fun t46 =>
 kZ t46 eY none) (fun k=>k .undef eY none) fun as5 dZ Pf =>
 aJ t34 as5 (Bo false) fun t47 =>
 ay t47 (
 af .add (aa xs 0) (N .i64 1) fun t49 =>
 next [t49] dZ) (
 aV (fun Uo nO gG =>
 af .leq (aa xs 0) (aa nO 0) fun t52 =>
 ae t52 true (fun yR=>yR a4 gG none) (fun k=>k .undef gG none) fun t54 kK anf =>
 ae t52 true (fun Nk=>Nk a0 kK none) (fun k=>k .undef kK none) fun t55 gN ahm =>
 ae t52 true (fun NH=>NH (aa nO 0) gN none) (fun k=>k .undef gN none) fun t56 jT ays =>
 ae t52 true (fun NJ=>ax t55 t56 5 fun t57 =>
 NJ t57 jT none) (fun k=>k .undef jT none) fun amt nU af1 =>
 ae t52 true (fun OV=>aI nU amt 5 fun t58 =>
 OV t58 nU none) (fun k=>k .undef nU none) fun asR iY OE =>
 ae t52 true (fun vQ=>vQ a0 iY none) (fun k=>k .undef iY none) fun t59 lg YH =>
 ae t52 true (fun yG=>yG a1 lg none) (fun k=>k .undef lg none) fun t60 zW aAO =>
 ae t52 true (fun Yq=>ax t59 t60 5 fun t61 =>
 Yq t61 zW none) (fun k=>k .undef zW none) fun apk rq atm =>
 ae t52 true (fun X8=>aI rq apk 5 fun t62 =>
 X8 t62 rq none) (fun k=>k .undef rq none) fun aoh Ah aAu =>
 ah t52 true (fun aiO=>gW cv t54 [asR,aoh] Ah fun t63 GA =>
 aiO t63 GA) (fun k=>k .undef Ah) fun arQ vW =>
 ae t52 true (fun O7=>af .lss arQ (N .i64 0) fun t64 =>
 O7 t64 vW none) (fun k=>k .undef vW none) fun anJ Ko azW =>
 ae t52 true (fun OM=>eG anJ fun t65 =>
 OM t65 Ko none) (fun k=>k .undef Ko none) fun aqn xK az6 =>
 aJ t52 aqn (Bo false) fun t66 =>
 ay t66 (
 af .sub (aa nO 0) (N .i64 1) fun t68 =>
 Uo [t68] xK) (
 af .gtr (aa xs 0) (aa nO 0) fun t71 =>
 ay t71 (
 ax a0 a1 5 fun t78 =>
 aI xK t78 5 fun t79 =>
 ax a0 (aa nO 0) 5 fun t82 =>
 aI xK t82 5 fun t83 =>
 ax a0 (aa nO 0) 5 fun t84 =>
 aL xK t84 t79 5 fun xH =>
 ax a0 a1 5 fun t85 =>
 aL xH t85 t83 5 fun Ov =>
 Q (.tup [(aa nO 0),(Bo true)]) Ov) (
 ax a0 (aa nO 0) 5 fun t93 =>
 aI xK t93 5 fun t94 =>
 ax a0 (aa xs 0) 5 fun t97 =>
 aI xK t97 5 fun t98 =>
 ax a0 (aa xs 0) 5 fun t99 =>
 aL xK t99 t94 5 fun YD =>
 ax a0 (aa nO 0) 5 fun mg =>
 aL YD mg t98 5 fun vJ =>
 af .add (aa xs 0) (N .i64 1) fun Cq =>
 af .sub (aa nO 0) (N .i64 1) fun Gj =>
 aV (fun alE ad5 uD =>
 aV (fun TY vB qM =>
 af .leq (aa vB 0) (aa ad5 1) fun t107 =>
 ae t107 true (fun NG=>NG a4 qM none) (fun k=>k .undef qM none) fun t109 rf aqH =>
 ae t107 true (fun Nu=>Nu a0 rf none) (fun k=>k .undef rf none) fun BB Fs ajR =>
 ae t107 true (fun GL=>GL (aa vB 0) Fs none) (fun k=>k .undef Fs none) fun Al u6 axo =>
 ae t107 true (fun adh=>ax BB Al 5 fun rZ =>
 adh rZ u6 none) (fun k=>k .undef u6 none) fun ahF AQ awI =>
 ae t107 true (fun Qk=>aI AQ ahF 5 fun xq =>
 Qk xq AQ none) (fun k=>k .undef AQ none) fun agZ pM ave =>
 ae t107 true (fun Po=>Po a0 pM none) (fun k=>k .undef pM none) fun Ir QK b_114 =>
 ae t107 true (fun QO=>QO a1 QK none) (fun k=>k .undef QK none) fun Xf rC b_117 =>
 ae t107 true (fun au6=>ax Ir Xf 5 fun t116 =>
 au6 t116 rC none) (fun k=>k .undef rC none) fun ag4 qC ajX =>
 ae t107 true (fun P5=>aI qC ag4 5 fun t117 =>
 P5 t117 qC none) (fun k=>k .undef qC none) fun ahT qO aj8 =>
 ah t107 true (fun Qy=>gW cv t109 [agZ,ahT] qO fun ag9 QE =>
 Qy ag9 QE) (fun k=>k .undef qO) fun agv LP =>
 ae t107 true (fun P8=>af .lss agv (N .i64 0) fun t119 =>
 P8 t119 LP none) (fun k=>k .undef LP none) fun ahr VM b_133 =>
 aJ t107 ahr (Bo false) fun EL =>
 ay EL (
 af .add (aa vB 0) (N .i64 1) fun Kr =>
 TY [Kr] VM) (
 aV (fun agY uX Io =>
 af .leq (aa vB 0) (aa uX 0) fun oU =>
 ae oU true (fun adI=>adI a4 Io none) (fun k=>k .undef Io none) fun t127 AO aw4 =>
 ae oU true (fun Rz=>Rz a0 AO none) (fun k=>k .undef AO none) fun OU Iw avP =>
 ae oU true (fun Pp=>Pp (aa uX 0) Iw none) (fun k=>k .undef Iw none) fun yE PS b_145 =>
 ae oU true (fun avx=>ax OU yE 5 fun t130 =>
 avx t130 PS none) (fun k=>k .undef PS none) fun ahf ze axc =>
 ae oU true (fun acE=>aI ze ahf 5 fun t131 =>
 acE t131 ze none) (fun k=>k .undef ze none) fun agp vg avQ =>
 ae oU true (fun adj=>adj a0 vg none) (fun k=>k .undef vg none) fun Ou Gt avc =>
 ae oU true (fun PE=>PE a1 Gt none) (fun k=>k .undef Gt none) fun V9 Qr b_159 =>
 ae oU true (fun aws=>ax Ou V9 5 fun KM =>
 aws KM Qr none) (fun k=>k .undef Qr none) fun agx Rb b_163 =>
 ae oU true (fun axj=>aI Rb agx 5 fun ahK =>
 axj ahK Rb none) (fun k=>k .undef Rb none) fun ahl RH axn =>
 ah oU true (fun acG=>gW cv t127 [agp,ahl] RH fun Kb awx =>
 acG Kb awx) (fun k=>k .undef RH) fun ahN aj4 =>
 ae oU true (fun adg=>af .lss ahN (N .i64 0) fun ahw =>
 adg ahw aj4 none) (fun k=>k .undef aj4 none) fun aha Lt avL =>
 ae oU true (fun adM=>eG aha fun t138 =>
 adM t138 Lt none) (fun k=>k .undef Lt none) fun agn zn awd =>
 aJ oU agn (Bo false) fun t139 =>
 ay t139 (
 af .sub (aa uX 0) (N .i64 1) fun t141 =>
 agY [t141] zn) (
 af .gtr (aa vB 0) (aa uX 0) fun aiD =>
 ay aiD (
 ax a0 a1 5 fun azm =>
 aI zn azm 5 fun aAp =>
 ax a0 (aa uX 0) 5 fun t173 =>
 aI zn t173 5 fun ay9 =>
 ax a0 (aa uX 0) 5 fun t175 =>
 aL zn t175 aAp 5 fun au3 =>
 ax a0 a1 5 fun azK =>
 aL au3 azK ay9 5 fun av8 =>
 Q (.tup [(aa uX 0),(Bo false)]) av8) (
 ax a0 (aa uX 0) 5 fun ajg =>
 aI zn ajg 5 fun t152 =>
 ax a0 (aa vB 0) 5 fun azA =>
 aI zn azA 5 fun t156 =>
 ax a0 (aa vB 0) 5 fun t157 =>
 aL zn t157 t152 5 fun Qn =>
 ax a0 (aa uX 0) 5 fun ax2 =>
 aL Qn ax2 t156 5 fun awi =>
 af .add (aa vB 0) (N .i64 1) fun t160 =>
 af .sub (aa uX 0) (N .i64 1) fun t162 =>
 alE [t160,t162] awi))) [(aa ad5 1)] VM)) [(aa ad5 0)] uD) [Cq,Gj] vJ))) [t31] dZ)) [t29] M_0
def yh (a0:AV) (M0:RM) (Q:ak) : Prop :=
 iT .neq a0 a0 fun t5 =>
 Q t5 M0
def NM (p1:Nat) (p2:au) (a0 a1:AV) (M0:RM) (Q:ak) : Prop :=
 iW p1 a0 fun r f =>
 df r f M0 fun t2 M =>
 iW p1 a1 fun r_0 f_1 =>
 df r_0 f_1 M fun t3 M_2 =>
 aA t2 2 fun t5 =>
 ai M_2 t5 fun t6 =>
 aA t3 2 fun t7 =>
 ai M_2 t7 fun t8 =>
 iT .neq t6 t8 fun t9 =>
 ay t9 (
 aA t2 2 fun bH =>
 ai M_2 bH fun bV =>
 aA t3 2 fun t12 =>
 ai M_2 t12 fun bf =>
 iT .lss bV bf fun t14 =>
 Q t14 M_2) (
 aA t2 3 fun t15 =>
 ai M_2 t15 fun t16 =>
 aA t3 3 fun t17 =>
 ai M_2 t17 fun t18 =>
 iT .neq t16 t18 fun t19 =>
 ay t19 (
 aA t2 3 fun t20 =>
 ai M_2 t20 fun t21 =>
 aA t3 3 fun t22 =>
 ai M_2 t22 fun t23 =>
 iT .lss t21 t23 fun t24 =>
 Q t24 M_2) (
 aA t2 0 fun t25 =>
 aI M_2 t25 2 fun t26 =>
 aA t3 0 fun t27 =>
 aI M_2 t27 2 fun t28 =>
 p2 [t26,t28] M_2 fun t29 M_3 =>
 Q t29 M_3))
def EZ (a0:AV) (M0:RM) (Q:ak) : Prop :=
 af .neq a0 a0 fun t5 =>
 Q t5 M0
def nP (cv:(FuncId→au)) (a0 a1 a2 a3 a4:AV) (M0:RM) (Q:ak) : Prop :=
 aV (fun next xs M =>
 af .mul (N .i64 2) (aa xs 0) fun t14 =>
 af .add t14 (N .i64 1) fun t15 =>
 af .geq t15 a2 fun t18 =>
 ay t18 (
 Q (.tup []) M) (
 ed (fun J =>
 af .add t15 (N .i64 1) fun t20 =>
 af .lss t20 a2 fun t22 =>
 ae t22 true (fun k=>k a4 M none) (fun k=>k .undef M none) fun t24 M_0 b =>
 ae t22 true (fun k_1=>k_1 a0 M_0 none) (fun k=>k .undef M_0 none) fun t25 M_2 b_3 =>
 ae t22 true (fun k_4=>k_4 a3 M_2 none) (fun k=>k .undef M_2 none) fun t26 M_5 b_6 =>
 ae t22 true (fun k_7=>k_7 t15 M_5 none) (fun k=>k .undef M_5 none) fun t27 M_8 b_9 =>
 ae t22 true (fun pz=>af .add t26 t27 fun t28 =>
 pz t28 M_8 none) (fun k=>k .undef M_8 none) fun apU eO NF =>
 ae t22 true (fun iJ=>ax t25 apU 5 fun t29 =>
 iJ t29 eO none) (fun k=>k .undef eO none) fun aoM dh Bw =>
 ae t22 true (fun mh=>aI dh aoM 5 fun t30 =>
 mh t30 dh none) (fun k=>k .undef dh none) fun apO j6 aho =>
 ae t22 true (fun oK=>oK a0 j6 none) (fun k=>k .undef j6 none) fun t31 lL Sq =>
 ae t22 true (fun nz=>nz a3 lL none) (fun k=>k .undef lL none) fun t32 jo Nn =>
 ae t22 true (fun lh=>lh t15 jo none) (fun k=>k .undef jo none) fun t33 fV Nq =>
 ae t22 true (fun kX=>af .add t32 t33 fun t34 =>
 kX t34 fV none) (fun k=>k .undef fV none) fun aul gF ac9 =>
 ae t22 true (fun kZ=>af .add aul (N .i64 1) fun t35 =>
 kZ t35 gF none) (fun k=>k .undef gF none) fun aoe dZ Pf =>
 ae t22 true (fun yH=>ax t31 aoe 5 fun t36 =>
 yH t36 dZ none) (fun k=>k .undef dZ none) fun YP gG K6 =>
 ae t22 true (fun BC=>aI gG YP 5 fun t37 =>
 BC t37 gG none) (fun k=>k .undef gG none) fun aso kE aju =>
 ah t22 true (fun yj=>gW cv t24 [apO,aso] kE fun t38 kL =>
 yj t38 kL) (fun k=>k .undef kE) fun ana jW =>
 ae t22 true (fun NJ=>af .lss ana (N .i64 0) fun t39 =>
 NJ t39 jW none) (fun k=>k .undef jW none) fun auU nU af1 =>
 aJ t22 auU (Bo false) fun t40 =>
 ay t40 (
 af .add t15 (N .i64 1) fun t42 =>
 J [t42] nU) (
 J [t15] nU)) (fun VW qb =>
 af .add a3 (aa xs 0) fun t47 =>
 ax a0 t47 5 fun t48 =>
 aI qb t48 5 fun t49 =>
 af .add a3 (aa VW 0) fun t53 =>
 ax a0 t53 5 fun t54 =>
 aI qb t54 5 fun t55 =>
 gW cv a4 [t49,t55] qb fun t56 iY =>
 af .lss t56 (N .i64 0) fun t57 =>
 eG t57 fun t58 =>
 ay t58 (
 Q (.tup []) iY) (
 af .add a3 (aa xs 0) fun t62 =>
 af .add a3 (aa VW 0) fun t66 =>
 af .add a3 (aa VW 0) fun t70 =>
 ax a0 t70 5 fun t71 =>
 aI iY t71 5 fun t72 =>
 af .add a3 (aa xs 0) fun t76 =>
 ax a0 t76 5 fun t77 =>
 aI iY t77 5 fun t78 =>
 ax a0 t62 5 fun t79 =>
 aL iY t79 t72 5 fun pX =>
 ax a0 t66 5 fun t80 =>
 aL pX t80 t78 5 fun EP =>
 next [(aa VW 0)] EP)))) [a1] M0
def kI (p1:au) (a0 a1 a2 a3:AV) (M0:RM) (Q:ak) : Prop :=
 af .sub a1 (N .i64 1) fun bV =>
 af .add a1 (N .i64 1) fun t14 =>
 p1 [a0,bV,a1,t14,a2,a3] M0 fun t17 M =>
 Q t17 M
def pW (p1:au) (a0 a1 a2 a3 a4 a5:AV) (M0:RM) (Q:ak) : Prop :=
 p1 [a0,a1,a2,a4,a5] M0 fun t19 M =>
 fI t19 0 fun t20 =>
 fI t19 1 fun t21 =>
 p1 [a0,t21,a3,a4,a5] M fun t28 M_0 =>
 fI t28 0 fun t29 =>
 fI t28 1 fun t30 =>
 p1 [a0,t20,t29,a4,a5] M_0 fun t37 M_1 =>
 fI t37 0 fun t38 =>
 fI t37 1 fun t39 =>
 Q t39 M_1
def qa (cv:(FuncId→au)) (a0 a1 a2 a3 a4:AV) (M0:RM) (Q:ak) : Prop :=
 ax a0 a2 5 fun t15 =>
 aI M0 t15 5 fun t16 =>
 ax a0 a1 5 fun t19 =>
 aI M0 t19 5 fun t20 =>
 gW cv a4 [t16,t20] M0 fun t21 M =>
 af .lss t21 (N .i64 0) fun t22 =>
 ay t22 (
 aZ a3 fun t24 =>
 ai M t24 fun t25 =>
 af .add t25 (N .i64 1) fun t26 =>
 aZ a3 fun t27 =>
 aL M t27 t26 1 fun M_0 =>
 Q (.tup [a2,a1]) M_0) (
 Q (.tup [a1,a2]) M)
end Go.Ab.Crw
namespace Go.Ab.aC
open Go Go.Ab
def FT (p1:Nat) (M0:RM) (Q:ak) : Prop :=
 lX [(N .u64 0),(.sc (.slice none 0 0)),(N .u64 0),(.sc (.slice none 0 0)),(N .u64 0),(.sc (.slice none 0 0)),(N .u64 0),(.sc (.slice none 0 0)),(N .u64 0),(.sc (.slice none 0 0)),(N .u64 0),(.sc (.slice none 0 0)),(N .u64 0),(.sc (.slice none 0 0)),(N .u64 0),(.sc (.slice none 0 0)),(N .u64 0),(.sc (.slice none 0 0)),(N .u64 0),(.sc (.slice none 0 0)),(N .u64 0),(.sc (.slice none 0 0)),(N .u64 0),(.sc (.slice none 0 0)),(N .u64 0),(.sc (.slice none 0 0)),(N .u64 0),(.sc (.slice none 0 0)),(N .u64 0),(.sc (.slice none 0 0)),(N .u64 0),(.sc (.slice none 0 0))] [] fun t1 =>
 iW p1 t1 fun r f =>
 df r f M0 fun t2 M =>
 Q t2 M
def IK (p1 p2 p3 p4 p5:au) (p6:Nat) (p7 p8 p9 p10:au) (a0:AV) (M0:RM) (Q:ak) : Prop :=
 p1 [a0] M0 fun bH M =>
 p2 [] M fun bV M_0 =>
 p3 [bH,(N .i64 16)] M_0 fun bf M_1 =>
 aV (fun next xs M_2 =>
 af .lss (aa xs 0) bf fun t15 =>
 ay t15 (
 aZ bV fun t19 =>
 aA t19 0 fun t20 =>
 p3 [bH,(N .i64 15)] M_2 fun t18 M_3 =>
 Ih t20 t18 16 2 fun t21 =>
 p4 [bH] M_3 fun t24 M_4 =>
 aZ t21 fun t25 =>
 aA t25 0 fun t26 =>
 aL M_4 t26 t24 1 fun M_5 =>
 aZ t21 fun t28 =>
 aA t28 0 fun t29 =>
 ai M_5 t29 fun t30 =>
 p3 [bH,(N .i64 4096)] M_5 fun t32 M_6 =>
 aV (fun V7 og M_9 =>
 af .lss (aa og 1) t32 fun t34 =>
 ay t34 (
 p4 [bH] M_9 fun t36 dm =>
 p5 [bH] dm fun t38 dD =>
 af .neq t38 (N .i64 0) fun t39 =>
 ah t39 false (fun k=>k t36 dD) (fun k=>k .undef dD) fun t41 eO =>
 ah t39 false (fun nH=>af .gtr t41 (N .u64 1099511627776) fun t42 =>
 nH t42 eO) (fun k=>k .undef eO) fun aob fP =>
 aJ t39 (Bo true) aob fun t43 =>
 ah t43 false (fun qR=>qR (aa og 0) fP) (fun k=>k .undef fP) fun t45 kG =>
 ah t43 false (fun mh=>af .gtr t45 (N .u64 1099511627776) fun t46 =>
 mh t46 kG) (fun k=>k .undef kG) fun aqo j6 =>
 aJ t43 (Bo true) aqo fun t47 =>
 ay t47 (
 Q (.tup [(.sc (.pointer none)),(N .i64 14)]) j6) (
 af .add (aa og 0) t36 fun t50 =>
 aZ t21 fun t53 =>
 aA t53 1 fun t54 =>
 ai j6 t54 fun t55 =>
 dH p6 1 [(N .u64 0)] [(0,1,t50)] fun r f =>
 df r f j6 fun t57 dN =>
 appW p6 1 8 [(N .u64 0)] false t55 t57 dN fun t58 fJ =>
 aZ t21 fun t59 =>
 aA t59 1 fun t60 =>
 aL fJ t60 t58 1 fun lL =>
 af .add (aa og 1) (N .i64 1) fun t61 =>
 V7 [t50,t61] lL)) (
 aZ t21 fun t63 =>
 aA t63 0 fun t64 =>
 ai M_9 t64 fun t65 =>
 af .gtr t65 (N .u64 1099511627776) fun t66 =>
 ah t66 false (fun sW=>sW (aa og 0) M_9) (fun k=>k .undef M_9) fun t68 iI =>
 ah t66 false (fun vK=>af .gtr t68 (N .u64 1099511627776) fun t69 =>
 vK t69 iI) (fun k=>k .undef iI) fun aps lK =>
 aJ t66 (Bo true) aps fun t70 =>
 ay t70 (
 Q (.tup [(.sc (.pointer none)),(N .i64 14)]) lK) (
 af .add (aa xs 0) (N .i64 1) fun t71 =>
 next [t71] lK))) [t30,(N .i64 0)] M_6) (
 p7 [bH] M_2 fun t73 fV =>
 af .neq t73 (N .i64 0) fun t74 =>
 ah t74 false (fun vL=>vL bV fV) (fun k=>k .undef fV) fun t76 iy =>
 ah t74 false (fun rP=>p8 [t76] iy fun t77 gF =>
 rP t77 gF) (fun k=>k .undef iy) fun ao2 Ib =>
 ah t74 false (fun BU=>eG ao2 fun t78 =>
 BU t78 Ib) (fun k=>k .undef Ib) fun amH nZ =>
 aJ t74 (Bo true) amH fun t79 =>
 ah t79 false (fun yH=>yH bV nZ) (fun k=>k .undef nZ) fun t81 kD =>
 ah t79 false (fun yu=>p9 [t81] kD fun t82 nS =>
 yu t82 nS) (fun k=>k .undef kD) fun atw nJ =>
 ah t79 false (fun Nk=>Nk a0 nJ) (fun k=>k .undef nJ) fun t83 gN =>
 ah t79 false (fun yj=>p10 [atw,t83] gN fun t84 kL =>
 yj t84 kL) (fun k=>k .undef gN) fun amQ jW =>
 ah t79 false (fun NJ=>eG amQ fun t85 =>
 NJ t85 jW) (fun k=>k .undef jW) fun anq nU =>
 aJ t79 (Bo true) anq fun t86 =>
 ay t86 (
 Q (.tup [(.sc (.pointer none)),(N .i64 14)]) nU) (
 Q (.tup [bV,(N .i64 0)]) nU))) [(N .i64 0)] M_1
def K4 (p1:Nat) (p2 p3:au) (a0 a1:AV) (M0:RM) (Q:ak) : Prop :=
 iW p1 a1 fun r f =>
 df r f M0 fun t3 M =>
 aI M t3 2 fun t6 =>
 p2 [t6] M fun t7 M_0 =>
 eG t7 fun t8 =>
 ay t8 (
 Q (N .i64 1) M_0) (
 aA t3 0 fun bV =>
 ai M_0 bV fun t12 =>
 aZ a0 fun bf =>
 aA bf 0 fun t14 =>
 Ih t14 t12 16 2 fun t15 =>
 aA t3 1 fun t16 =>
 ai M_0 t16 fun t17 =>
 p3 [t15,t17] M_0 fun t18 M_1 =>
 eG t18 fun t19 =>
 ay t19 (
 Q (N .i64 2) M_1) (
 Q (N .i64 0) M_1))
def Fe (p1:Nat) (p2:au) (p3:Nat) (a0:AV) (M0:RM) (Q:ak) : Prop :=
 aZ a0 fun t7 =>
 aA t7 0 fun t8 =>
 aI M0 t8 32 fun t9 =>
 aV (fun next xs M =>
 af .lss (aa xs 1) (N .i64 16) fun bV =>
 ay bV (
 ed (fun J =>
 Lv t9 (aa xs 1) 16 2 fun bf =>
 df (.row [(N .u64 0),(.sc (.slice none 0 0))] false p1 0) (fun b=>.ptr b 0) M fun t5 M_0 =>
 aL M_0 t5 bf 2 fun M_1 =>
 aA t5 0 fun t14 =>
 ai M_1 t14 fun t15 =>
 af .gtr t15 (N .u64 0) fun t16 =>
 ah t16 false (fun k=>aA t5 1 fun t18 =>
 k t18 M_1) (fun k=>k .undef M_1) fun awm M_3 =>
 ah t16 false (fun k_4=>ai M_3 awm fun t19 =>
 k_4 t19 M_3) (fun k=>k .undef M_3) fun awN M_6 =>
 ah t16 false (fun k_7=>bD awN fun t20 =>
 k_7 t20 M_6) (fun k=>k .undef M_6) fun avo M_9 =>
 ah t16 false (fun pz=>af .gtr avo (N .i64 0) fun t21 =>
 pz t21 M_9) (fun k=>k .undef M_9) fun aqR eO =>
 aJ t16 (Bo true) aqR fun t22 =>
 ay t22 (
 aA t5 0 fun t25 =>
 ai eO t25 fun t26 =>
 aA t5 1 fun t27 =>
 ai eO t27 fun t28 =>
 p2 [t28] eO fun t29 eu =>
 ai eu t25 fun YW =>
 (YW=t26∧lX [(N .i64 0),(N .u64 0),(.sc (.slice none 0 0))] [(0,1,(aa xs 1)),(1,1,t26),(2,1,t29)] fun t30 =>
 dH p3 1 [(N .i64 0),(N .u64 0),(.sc (.slice none 0 0))] [(0,3,t30)] fun r f =>
 mI r f eu fun t31 eP b =>
 appW p3 3 40 [(N .i64 0),(N .u64 0),(.sc (.slice none 0 0))] false (aa xs 0) t31 eP fun t32 fP =>
 J [t32] fP)) (
 J [(aa xs 0)] eO)) (fun aw1 bZ =>
 af .add (aa xs 1) (N .i64 1) fun t33 =>
 next [(aa aw1 0),t33] bZ)) (
 Q (aa xs 0) M)) [(.sc (.slice none 0 0)),(N .i64 0)] M0
def Oj (p1:Nat) (a0:AV) (M0:RM) (Q:ak) : Prop :=
 iW p1 a0 fun r f =>
 df r f M0 fun t1 M =>
 aA t1 0 fun t3 =>
 ai M t3 fun t4 =>
 af .geq t4 (N .i64 0) fun t5 =>
 ah t5 true (fun k=>aA t1 0 fun t7 =>
 k t7 M) (fun k=>k .undef M) fun ahP M_1 =>
 ah t5 true (fun k_2=>ai M_1 ahP fun t8 =>
 k_2 t8 M_1) (fun k=>k .undef M_1) fun air M_4 =>
 ah t5 true (fun k_5=>af .lss air (N .i64 16) fun t9 =>
 k_5 t9 M_4) (fun k=>k .undef M_4) fun ah7 M_7 =>
 aJ t5 ah7 (Bo false) fun bH =>
 ah bH true (fun k_8=>aA t1 1 fun t12 =>
 k_8 t12 M_7) (fun k=>k .undef M_7) fun adU dm =>
 ah bH true (fun jG=>ai dm adU fun bf =>
 jG bf dm) (fun k=>k .undef dm) fun KA eu =>
 ah bH true (fun iJ=>af .geq KA (N .u64 1) fun t14 =>
 iJ t14 eu) (fun k=>k .undef eu) fun JG dh =>
 aJ bH JG (Bo false) fun t15 =>
 ah t15 true (fun jV=>aA t1 1 fun t17 =>
 jV t17 dh) (fun k=>k .undef dh) fun Zh dE =>
 ah t15 true (fun iU=>ai dE Zh fun t18 =>
 iU t18 dE) (fun k=>k .undef dE) fun Zd fJ =>
 ah t15 true (fun kY=>af .leq Zd (N .u64 1099511627776) fun t19 =>
 kY t19 fJ) (fun k=>k .undef fJ) fun J9 iI =>
 aJ t15 J9 (Bo false) fun t20 =>
 Q t20 iI
def Ny (p1:Nat) (a0:AV) (M0:RM) (Q:ak) : Prop :=
 iW p1 a0 fun r f =>
 df r f M0 fun t1 M =>
 aA t1 0 fun t3 =>
 ai M t3 fun t4 =>
 af .geq t4 (N .i64 0) fun t5 =>
 ah t5 true (fun k=>aA t1 0 fun t7 =>
 k t7 M) (fun k=>k .undef M) fun ahP M_1 =>
 ah t5 true (fun k_2=>ai M_1 ahP fun t8 =>
 k_2 t8 M_1) (fun k=>k .undef M_1) fun air M_4 =>
 ah t5 true (fun k_5=>af .lss air (N .i64 16) fun t9 =>
 k_5 t9 M_4) (fun k=>k .undef M_4) fun ah7 M_7 =>
 aJ t5 ah7 (Bo false) fun bH =>
 ah bH true (fun k_8=>aA t1 1 fun t12 =>
 k_8 t12 M_7) (fun k=>k .undef M_7) fun adU dm =>
 ah bH true (fun jG=>ai dm adU fun bf =>
 jG bf dm) (fun k=>k .undef dm) fun KA eu =>
 ah bH true (fun iJ=>af .geq KA (N .u64 1) fun t14 =>
 iJ t14 eu) (fun k=>k .undef eu) fun JG dh =>
 aJ bH JG (Bo false) fun t15 =>
 ah t15 true (fun jV=>aA t1 1 fun t17 =>
 jV t17 dh) (fun k=>k .undef dh) fun Zh dE =>
 ah t15 true (fun iU=>ai dE Zh fun t18 =>
 iU t18 dE) (fun k=>k .undef dE) fun Zd fJ =>
 ah t15 true (fun kY=>af .leq Zd (N .u64 1099511627776) fun t19 =>
 kY t19 fJ) (fun k=>k .undef fJ) fun J9 iI =>
 aJ t15 J9 (Bo false) fun t20 =>
 Q t20 iI
def acY (p1:Nat) (p2 p3:au) (a0 a1:AV) (M0:RM) (Q:ak) : Prop :=
 iW p1 a1 fun r f =>
 df r f M0 fun t3 M =>
 aI M t3 2 fun t7 =>
 p2 [a0,t7] M fun t8 M_0 =>
 ay t8 (
 Q a0 M_0) (
 aV (fun next xs M_1 =>
 bD a0 fun t12 =>
 af .lss (aa xs 0) t12 fun bf =>
 ae bf true (fun k=>k a0 M_1 none) (fun k=>k .undef M_1 none) fun t15 M_2 b =>
 ae bf true (fun k_3=>k_3 (aa xs 0) M_2 none) (fun k=>k .undef M_2 none) fun t16 M_4 b_5 =>
 ae bf true (fun k_6=>ax t15 t16 2 fun t17 =>
 k_6 t17 M_4 none) (fun k=>k .undef M_4 none) fun av0 M_8 b_9 =>
 ae bf true (fun pz=>aI M_8 av0 2 fun t18 =>
 pz t18 M_8 none) (fun k=>k .undef M_8 none) fun atM eO NF =>
 ae bf true (fun iJ=>aI eO t3 2 fun t19 =>
 iJ t19 eO none) (fun k=>k .undef eO none) fun asy dh Bw =>
 ah bf true (fun mh=>p3 [atM,asy] dh fun t20 dE =>
 mh t20 dE) (fun k=>k .undef dh) fun anA dN =>
 aJ bf anA (Bo false) fun t21 =>
 ay t21 (
 af .add (aa xs 0) (N .i64 1) fun t23 =>
 next [t23] dN) (
 dH p1 0 [(N .i64 0),(N .u64 0)] [] fun YR YI =>
 mI YR YI dN fun t24 fO NE =>
 eT (bB 2 a0 none (some (aa xs 0)) none) fun t27 =>
 aI fO t3 2 fun t29 =>
 dH p1 1 [(N .i64 0),(N .u64 0)] [(0,2,t29)] fun Xt Yy =>
 mI Xt Yy fO fun t30 lK II =>
 eT (bB 2 a0 (some (aa xs 0)) none none) fun t34 =>
 appW p1 2 16 [(N .i64 0),(N .u64 0)] false t24 t27 lK fun t28 eU =>
 aI eU t3 2 fun KC =>
 (KC=t29∧dH p1 1 [(N .i64 0),(N .u64 0)] [(0,2,t29)] fun XI Wi =>
 (uk II eU XI Wi t30∧eT (bB 2 a0 (some (aa xs 0)) none none) fun KZ =>
 (KZ=t34∧appW p1 2 16 [(N .i64 0),(N .u64 0)] false t28 t30 eU fun t31 iy =>
 eT (bB 2 a0 (some (aa xs 0)) none none) fun Ld =>
 (Ld=t34∧appW p1 2 16 [(N .i64 0),(N .u64 0)] false t31 t34 iy fun t35 iZ =>
 Q t35 iZ)))))) [(N .i64 0)] M_0)
def IJ (p1 p2:au) (a0:AV) (M0:RM) (Q:ak) : Prop :=
 p1 [] M0 fun t4 M =>
 p2 [t4,a0] M fun t7 M_0 =>
 Q t4 M_0
def BK (p1 p2:au) (p3:Nat) (a0:AV) (M0:RM) (Q:ak) : Prop :=
 p1 [a0] M0 fun bV M =>
 bD bV fun bf =>
 iE .u64 bf fun t14 =>
 p2 [(.sc (.slice none 0 0)),t14] M fun t15 M_0 =>
 bD bV fun t17 =>
 aV (fun next xs M_1 =>
 af .lss (aa xs 1) t17 fun t19 =>
 ay t19 (
 ax bV (aa xs 1) 3 fun t20 =>
 aI M_1 t20 3 fun t21 =>
 df (.row [(N .i64 0),(N .u64 0),(.sc (.slice none 0 0))] false p3 0) (fun b=>.ptr b 0) M_1 fun t6 M_2 =>
 aL M_2 t6 t21 3 fun M_3 =>
 aA t6 0 fun t23 =>
 ai M_3 t23 fun t24 =>
 iE .u64 t24 fun t25 =>
 aA t6 1 fun t27 =>
 ai M_3 t27 fun t28 =>
 aA t6 2 fun t30 =>
 ai M_3 t30 fun t31 =>
 bD t31 fun t32 =>
 iE .u64 t32 fun t33 =>
 p2 [(aa xs 0),t25] M_3 fun t26 M_4 =>
 ai M_4 t27 fun YC =>
 (YC=t28∧ai M_4 t30 fun arW =>
 (arW=t31∧p2 [t26,t28] M_4 fun t29 M_5 =>
 ai M_5 t30 fun aoi =>
 (aoi=t31∧p2 [t29,t33] M_5 fun t34 M_6 =>
 aA t6 1 fun t35 =>
 ai M_6 t35 fun t36 =>
 aA t6 2 fun t37 =>
 ai M_6 t37 fun t38 =>
 bD t38 fun t39 =>
 aV (fun V7 og M_9 =>
 af .lss (aa og 2) t39 fun t41 =>
 ay t41 (
 ax t38 (aa og 2) 1 fun t42 =>
 ai M_9 t42 fun t43 =>
 af .sub t43 (aa og 1) fun t47 =>
 p2 [(aa og 0),t47] M_9 fun t48 dm =>
 af .add (aa og 2) (N .i64 1) fun t50 =>
 V7 [t48,t43,t50] dm) (
 af .add (aa xs 1) (N .i64 1) fun t51 =>
 next [(aa og 0),t51] M_9)) [t34,t36,(N .i64 0)] M_6)))) (
 Q (aa xs 0) M_1)) [t15,(N .i64 0)] M_0
def atd (p1 p2 p3 p4:au) (a0 a1:AV) (M0:RM) (Q:ak) : Prop :=
 p1 [a0] M0 fun bH M =>
 p2 [a1] M fun t12 M_0 =>
 bD bH fun t14 =>
 bD t12 fun t16 =>
 af .neq t14 t16 fun t17 =>
 ae t17 false (fun k=>k a0 M_0 none) (fun k=>k .undef M_0 none) fun t19 M_1 b =>
 ae t17 false (fun k_2=>k_2 a1 M_1 none) (fun k=>k .undef M_1 none) fun t22 M_3 b_4 =>
 ah t17 false (fun k_5=>p3 [t19] M_3 fun t20 M_6 =>
 k_5 t20 M_6) (fun k=>k .undef M_3) fun aks M_8 =>
 ae t17 false (fun k_9=>jL M_8 aks fun t21 =>
 k_9 t21 M_8 none) (fun k=>k .undef M_8 none) fun aeX dD Nb =>
 ah t17 false (fun nH=>p4 [t22] dD fun t23 eP =>
 nH t23 eP) (fun k=>k .undef dD) fun Zw dh =>
 uO t17 false (fun jV=>jL dh aks fun aoj =>
 (aoj=aeX∧jV)) (fun k=>k) (ae t17 false (fun vT=>jL dh Zw fun t24 =>
 vT t24 dh none) (fun k=>k .undef dh none) fun aqY dN MX =>
 ae t17 false (fun kY=>iT .neq aeX aqY fun t25 =>
 kY t25 dN none) (fun k=>k .undef dN none) fun arT iI Uh =>
 aJ t17 (Bo true) arT fun t26 =>
 ay t26 (
 Q (Bo false) iI) (
 aV (fun next xs gp =>
 bD bH fun t29 =>
 af .lss (aa xs 0) t29 fun t30 =>
 ay t30 (
 ax bH (aa xs 0) 3 fun t35 =>
 aA t35 0 fun t36 =>
 ai gp t36 fun t37 =>
 ax t12 (aa xs 0) 3 fun t40 =>
 aA t40 0 fun t41 =>
 ai gp t41 fun t42 =>
 af .neq t37 t42 fun t43 =>
 ae t43 false (fun lh=>lh bH gp none) (fun k=>k .undef gp none) fun t45 fV Nq =>
 ae t43 false (fun kX=>kX (aa xs 0) fV none) (fun k=>k .undef fV none) fun t46 iZ ag8 =>
 ae t43 false (fun rM=>ax t45 t46 3 fun t47 =>
 rM t47 iZ none) (fun k=>k .undef iZ none) fun arO jh aiG =>
 ae t43 false (fun rY=>aA arO 1 fun t48 =>
 rY t48 jh none) (fun k=>k .undef jh none) fun aoY kD az0 =>
 ae t43 false (fun yR=>ai kD aoY fun t49 =>
 yR t49 kD none) (fun k=>k .undef kD none) fun anu nJ aco =>
 ae t43 false (fun OZ=>OZ t12 nJ none) (fun k=>k .undef nJ none) fun t50 jU auf =>
 ae t43 false (fun Oi=>Oi (aa xs 0) jU none) (fun k=>k .undef jU none) fun t51 jW Wp =>
 ae t43 false (fun BX=>ax t50 t51 3 fun t52 =>
 BX t52 jW none) (fun k=>k .undef jW none) fun ati j5 acy =>
 ae t43 false (fun yg=>aA ati 1 fun t53 =>
 yg t53 j5 none) (fun k=>k .undef j5 none) fun ank pX auk =>
 ae t43 false (fun Zx=>ai pX ank fun t54 =>
 Zx t54 pX none) (fun k=>k .undef pX none) fun aoT oO ahj =>
 ae t43 false (fun Ii=>af .neq anu aoT fun t55 =>
 Ii t55 oO none) (fun k=>k .undef oO none) fun asc uF azC =>
 aJ t43 (Bo true) asc fun t56 =>
 ae t56 false (fun NR=>NR bH uF none) (fun k=>k .undef uF none) fun t58 pq aiV =>
 ae t56 false (fun Gm=>Gm (aa xs 0) pq none) (fun k=>k .undef pq none) fun t59 yB aiN =>
 ae t56 false (fun CB=>ax t58 t59 3 fun t60 =>
 CB t60 yB none) (fun k=>k .undef yB none) fun amO vW ayh =>
 ae t56 false (fun Xj=>aA amO 2 fun t61 =>
 Xj t61 vW none) (fun k=>k .undef vW none) fun aq4 yc auT =>
 ae t56 false (fun XK=>ai yc aq4 fun t62 =>
 XK t62 yc none) (fun k=>k .undef yc none) fun aov wS arE =>
 ae t56 false (fun Ot=>bD aov fun t63 =>
 Ot t63 wS none) (fun k=>k .undef wS none) fun arK vJ ann =>
 ae t56 false (fun ai3=>ai3 t12 vJ none) (fun k=>k .undef vJ none) fun t64 uD ayB =>
 ae t56 false (fun afW=>afW (aa xs 0) uD none) (fun k=>k .undef uD none) fun t65 qM aq0 =>
 ae t56 false (fun YG=>ax t64 t65 3 fun t66 =>
 YG t66 qM none) (fun k=>k .undef qM none) fun amz TC b_99 =>
 ae t56 false (fun avl=>aA amz 2 fun t67 =>
 avl t67 TC none) (fun k=>k .undef TC none) fun ame u6 axo =>
 ae t56 false (fun adh=>ai u6 ame fun t68 =>
 adh t68 u6 none) (fun k=>k .undef u6 none) fun amo AQ awI =>
 ae t56 false (fun Qk=>bD amo fun t69 =>
 Qk t69 AQ none) (fun k=>k .undef AQ none) fun ak7 pM ave =>
 ae t56 false (fun Po=>af .neq arK ak7 fun t70 =>
 Po t70 pM none) (fun k=>k .undef pM none) fun alF rF avg =>
 aJ t56 (Bo true) alF fun t71 =>
 ay t71 (
 Q (Bo false) rF) (
 aV (fun ahu JO rE =>
 ax bH (aa xs 0) 3 fun t75 =>
 aA t75 2 fun t76 =>
 ai rE t76 fun t77 =>
 bD t77 fun t78 =>
 af .lss (aa JO 0) t78 fun t79 =>
 ay t79 (
 ax bH (aa xs 0) 3 fun t84 =>
 aA t84 2 fun t85 =>
 ai rE t85 fun t86 =>
 ax t86 (aa JO 0) 1 fun t88 =>
 ai rE t88 fun t89 =>
 ax t12 (aa xs 0) 3 fun t92 =>
 aA t92 2 fun t93 =>
 ai rE t93 fun t94 =>
 ax t94 (aa JO 0) 1 fun t96 =>
 ai rE t96 fun t97 =>
 af .neq t89 t97 fun t98 =>
 ay t98 (
 Q (Bo false) rE) (
 ax bH (aa xs 0) 3 fun mi =>
 aA mi 2 fun Cq =>
 ai rE Cq fun vH =>
 ax vH (aa JO 0) 1 fun t105 =>
 aL rE t105 (N .u64 99) 1 fun DJ =>
 af .add (aa JO 0) (N .i64 1) fun t81 =>
 ahu [t81] DJ)) (
 af .add (aa xs 0) (N .i64 1) fun t32 =>
 next [t32] rE)) [(N .i64 0)] rF)) (
 Q (Bo true) gp)) [(N .i64 0)] iI))
def Kl (p1:Nat) (p2 p3:au) (a0 a1:AV) (M0:RM) (Q:ak) : Prop :=
 iW p1 a1 fun r f =>
 df r f M0 fun t3 M =>
 aI M t3 2 fun t5 =>
 p2 [t5] M fun t6 M_0 =>
 ae t6 true (fun k=>k a0 M_0 none) (fun k=>k .undef M_0 none) fun t8 M_1 b =>
 ae t6 true (fun k_2=>aA t3 0 fun t9 =>
 k_2 t9 M_1 none) (fun k=>k .undef M_1 none) fun ahz M_4 b_5 =>
 ae t6 true (fun k_6=>ai M_4 ahz fun bH =>
 k_6 bH M_4 none) (fun k=>k .undef M_4 none) fun axf M_8 b_9 =>
 ae t6 true (fun pz=>aZ t8 fun bV =>
 pz bV M_8 none) (fun k=>k .undef M_8 none) fun as7 eO NF =>
 ae t6 true (fun iJ=>aA as7 0 fun t12 =>
 iJ t12 eO none) (fun k=>k .undef eO none) fun aqK dh Bw =>
 ae t6 true (fun mh=>Ih aqK axf 16 2 fun bf =>
 mh bf dh none) (fun k=>k .undef dh none) fun apG j6 aho =>
 ae t6 true (fun oK=>aA t3 1 fun t14 =>
 oK t14 j6 none) (fun k=>k .undef j6 none) fun an3 fO NE =>
 ae t6 true (fun vK=>ai fO an3 fun t15 =>
 vK t15 fO none) (fun k=>k .undef fO none) fun atP lK II =>
 ah t6 true (fun vL=>p3 [apG,atP] lK fun t16 iy =>
 vL t16 iy) (fun k=>k .undef lK) fun att gF =>
 aJ t6 att (Bo false) fun t17 =>
 Q t17 gF
def abt (p1:Nat) (a0 a1:AV) (M0:RM) (Q:ak) : Prop :=
 iW p1 a1 fun r f =>
 df r f M0 fun t3 M =>
 aV (fun next xs M_0 =>
 bD a0 fun t8 =>
 af .lss (aa xs 0) t8 fun t9 =>
 ay t9 (
 ax a0 (aa xs 0) 2 fun t14 =>
 aI M_0 t14 2 fun t15 =>
 aI M_0 t3 2 fun t16 =>
 nE false [1,1] t15 t16 fun t17 =>
 ay t17 (
 Q (Bo true) M_0) (
 af .add (aa xs 0) (N .i64 1) fun bV =>
 next [bV] M_0)) (
 Q (Bo false) M_0)) [(N .i64 0)] M
def Gy (p1 p2:Nat) (p3 p4 p5 p6:au) (a0 a1:AV) (M0:RM) (Q:ak) : Prop :=
 aV (fun next xs M =>
 af .lss (aa xs 0) (N .i64 16) fun t8 =>
 ay t8 (
 aZ a0 fun t12 =>
 aA t12 0 fun bf =>
 Ih bf (aa xs 0) 16 2 fun t14 =>
 aZ a1 fun t17 =>
 aA t17 0 fun t18 =>
 Ih t18 (aa xs 0) 16 2 fun t19 =>
 aI M t19 2 fun t20 =>
 mI (.row [(N .u64 0),(.sc (.slice none 0 0))] false p1 0) (fun b=>.ptr b 0) M fun t6 M_0 b =>
 aL M_0 t6 t20 2 fun M_1 =>
 aZ t14 fun t23 =>
 aA t23 0 fun t24 =>
 ai M_1 t24 fun t25 =>
 aA t6 0 fun t26 =>
 ai M_1 t26 fun t27 =>
 NA true t25 t27 fun t28 =>
 aZ t14 fun t29 =>
 aA t29 0 fun t30 =>
 aL M_1 t30 t28 1 fun M_2 =>
 aZ t14 fun t33 =>
 aA t33 1 fun t34 =>
 ai M_2 t34 fun t35 =>
 aA t6 1 fun t36 =>
 ai M_2 t36 fun t37 =>
 dH p2 2 [(.sc (.slice none 0 0))] [(0,1,t35),(1,1,t37)] fun r f =>
 mI r f M_2 fun t38 M_3 b_4 =>
 p3 [t38] M_3 fun t39 M_5 =>
 aZ t14 fun t40 =>
 aA t40 1 fun t41 =>
 aL M_5 t41 t39 1 fun M_6 =>
 aZ t14 fun t43 =>
 aA t43 1 fun t44 =>
 ai M_6 t44 fun t45 =>
 p4 [t45] M_6 fun t46 M_7 =>
 aZ t14 fun t49 =>
 aA t49 1 fun t50 =>
 ai M_7 t50 fun t51 =>
 p5 [t51] M_7 fun t52 M_8 =>
 aZ t14 fun t53 =>
 aA t53 1 fun t54 =>
 aL M_8 t54 t52 1 fun M_9 =>
 p6 [t14] M_9 fun t56 dm =>
 af .add (aa xs 0) (N .i64 1) fun t57 =>
 next [t57] dm) (
 Q (.tup []) M)) [(N .i64 0)] M0
def BM (p1:Nat) (p2:au) (a0 a1:AV) (M0:RM) (Q:ak) : Prop :=
 aZ a0 fun bV =>
 aA bV 0 fun t12 =>
 aI M0 t12 32 fun bf =>
 aV (fun next xs M =>
 af .lss (aa xs 0) (N .i64 16) fun t15 =>
 ay t15 (
 Lv bf (aa xs 0) 16 2 fun t17 =>
 df (.row [(N .u64 0),(.sc (.slice none 0 0))] false p1 0) (fun b=>.ptr b 0) M fun t6 M_0 =>
 aL M_0 t6 t17 2 fun M_1 =>
 aZ a1 fun t20 =>
 aA t20 0 fun t21 =>
 Ih t21 (aa xs 0) 16 2 fun t22 =>
 aA t6 0 fun t23 =>
 ai M_1 t23 fun t24 =>
 aZ t22 fun t26 =>
 aA t26 0 fun t27 =>
 ai M_1 t27 fun t28 =>
 af .gtr t24 t28 fun t29 =>
 ay t29 (
 Q (Bo false) M_1) (
 aA t6 1 fun t30 =>
 ai M_1 t30 fun t31 =>
 bD t31 fun t32 =>
 aV (fun xh dU M_4 =>
 af .lss (aa dU 0) t32 fun t34 =>
 ay t34 (
 ax t31 (aa dU 0) 1 fun t35 =>
 ai M_4 t35 fun t36 =>
 p2 [t22,t36] M_4 fun t39 M_5 =>
 eG t39 fun t40 =>
 ay t40 (
 Q (Bo false) M_5) (
 af .add (aa dU 0) (N .i64 1) fun t41 =>
 xh [t41] M_5)) (
 af .add (aa xs 0) (N .i64 1) fun t42 =>
 next [t42] M_4)) [(N .i64 0)] M_1)) (
 Q (Bo true) M)) [(N .i64 0)] M0
def Xq (p1:Nat) (a0 a1:AV) (M0:RM) (Q:ak) : Prop :=
 iW p1 a0 fun r f =>
 df r f M0 fun t2 M =>
 iW p1 a1 fun r_0 f_1 =>
 df r_0 f_1 M fun t3 M_2 =>
 aA t2 1 fun t5 =>
 ai M_2 t5 fun t6 =>
 aA t3 1 fun t7 =>
 ai M_2 t7 fun t8 =>
 af .lss t6 t8 fun t9 =>
 ah t9 false (fun k=>aA t2 1 fun bV =>
 k bV M_2) (fun k=>k .undef M_2) fun QT M_4 =>
 ah t9 false (fun k_5=>ai M_4 QT fun t12 =>
 k_5 t12 M_4) (fun k=>k .undef M_4) fun PD M_7 =>
 ah t9 false (fun k_8=>aA t3 1 fun bf =>
 k_8 bf M_7) (fun k=>k .undef M_7) fun IB dm =>
 ah t9 false (fun jG=>ai dm IB fun t14 =>
 jG t14 dm) (fun k=>k .undef dm) fun Kh eu =>
 ah t9 false (fun iJ=>af .eql PD Kh fun t15 =>
 iJ t15 eu) (fun k=>k .undef eu) fun KO dh =>
 ah t9 false (fun jV=>jV KO dh) (fun k=>k .undef dh) fun t16 bZ =>
 ah t16 true (fun vT=>aA t2 0 fun t17 =>
 vT t17 bZ) (fun k=>k .undef bZ) fun Ju dN =>
 ah t16 true (fun oK=>ai dN Ju fun t18 =>
 oK t18 dN) (fun k=>k .undef dN) fun Lc fO =>
 ah t16 true (fun nz=>aA t3 0 fun t19 =>
 nz t19 fO) (fun k=>k .undef fO) fun KI gp =>
 ah t16 true (fun lh=>ai gp KI fun t20 =>
 lh t20 gp) (fun k=>k .undef gp) fun JD eU =>
 ah t16 true (fun kX=>af .lss Lc JD fun t21 =>
 kX t21 eU) (fun k=>k .undef eU) fun BZ gF =>
 ah t9 false (fun rM=>aJ t16 BZ (Bo false) fun t22 =>
 rM t22 gF) (fun k=>k .undef gF) fun CG jh =>
 aJ t9 (Bo true) CG fun t23 =>
 Q t23 jh
def NC (p1:Nat) (a0 a1:AV) (M0:RM) (Q:ak) : Prop :=
 iW p1 a0 fun r f =>
 df r f M0 fun t2 M =>
 iW p1 a1 fun r_0 f_1 =>
 df r_0 f_1 M fun t3 M_2 =>
 aA t2 1 fun t5 =>
 ai M_2 t5 fun t6 =>
 aA t3 1 fun t7 =>
 ai M_2 t7 fun t8 =>
 af .lss t6 t8 fun t9 =>
 ah t9 false (fun k=>aA t2 1 fun bV =>
 k bV M_2) (fun k=>k .undef M_2) fun QT M_4 =>
 ah t9 false (fun k_5=>ai M_4 QT fun t12 =>
 k_5 t12 M_4) (fun k=>k .undef M_4) fun PD M_7 =>
 ah t9 false (fun k_8=>aA t3 1 fun bf =>
 k_8 bf M_7) (fun k=>k .undef M_7) fun IB dm =>
 ah t9 false (fun jG=>ai dm IB fun t14 =>
 jG t14 dm) (fun k=>k .undef dm) fun Kh eu =>
 ah t9 false (fun iJ=>af .eql PD Kh fun t15 =>
 iJ t15 eu) (fun k=>k .undef eu) fun KO dh =>
 ah t9 false (fun jV=>jV KO dh) (fun k=>k .undef dh) fun t16 bZ =>
 ah t16 true (fun vT=>aA t2 0 fun t17 =>
 vT t17 bZ) (fun k=>k .undef bZ) fun Ju dN =>
 ah t16 true (fun oK=>ai dN Ju fun t18 =>
 oK t18 dN) (fun k=>k .undef dN) fun Lc fO =>
 ah t16 true (fun nz=>aA t3 0 fun t19 =>
 nz t19 fO) (fun k=>k .undef fO) fun KI gp =>
 ah t16 true (fun lh=>ai gp KI fun t20 =>
 lh t20 gp) (fun k=>k .undef gp) fun JD eU =>
 ah t16 true (fun kX=>af .lss Lc JD fun t21 =>
 kX t21 eU) (fun k=>k .undef eU) fun BZ gF =>
 ah t9 false (fun rM=>aJ t16 BZ (Bo false) fun t22 =>
 rM t22 gF) (fun k=>k .undef gF) fun CG jh =>
 aJ t9 (Bo true) CG fun t23 =>
 Q t23 jh
def Xz (p1:au) (p2:Nat) (a0:AV) (M0:RM) (Q:ak) : Prop :=
 p1 [a0] M0 fun t4 M =>
 lX [(.sc (.slice none 0 0)),(Bo false)] [(0,1,t4)] fun t5 =>
 iW p2 t5 fun r f =>
 df r f M fun t6 M_0 =>
 Q t6 M_0
def CL (p1:au) (a0 a1:AV) (M0:RM) (Q:ak) : Prop :=
 p1 [a0] M0 fun bH M =>
 fI bH 0 fun bV =>
 fI bH 1 fun t12 =>
 fI bH 2 fun bf =>
 aZ a0 fun t16 =>
 aA t16 1 fun t17 =>
 ai M t17 fun t18 =>
 ah t18 false (fun k=>k bf M) (fun k=>k .undef M) fun t20 M_0 =>
 ah t18 false (fun k_1=>eG t20 fun t21 =>
 k_1 t21 M_0) (fun k=>k .undef M_0) fun Rq M_3 =>
 aJ t18 (Bo true) Rq fun t22 =>
 ah t22 false (fun k_4=>k_4 a1 M_3) (fun k=>k .undef M_3) fun t24 M_5 =>
 ah t22 false (fun k_6=>af .lss t24 (N .i64 0) fun t25 =>
 k_6 t25 M_5) (fun k=>k .undef M_5) fun Qt M_8 =>
 aJ t22 (Bo true) Qt fun t26 =>
 ah t26 false (fun k_9=>k_9 bV M_8) (fun k=>k .undef M_8) fun t28 dm =>
 ah t26 false (fun jG=>jG a1 dm) (fun k=>k .undef dm) fun t29 eO =>
 ah t26 false (fun nH=>iE .u64 t29 fun t30 =>
 nH t30 eO) (fun k=>k .undef eO) fun ara fP =>
 ah t26 false (fun qR=>af .gtr t28 ara fun t31 =>
 qR t31 fP) (fun k=>k .undef fP) fun Jv bZ =>
 aJ t26 (Bo true) Jv fun t32 =>
 aZ a0 fun t33 =>
 aA t33 1 fun t34 =>
 aL bZ t34 t32 1 fun dE =>
 aZ a0 fun t36 =>
 aA t36 1 fun t37 =>
 ai dE t37 fun t38 =>
 ay t38 (
 Q (N .i64 0) dE) (
 aZ a0 fun t41 =>
 aA t41 0 fun t42 =>
 ai dE t42 fun t43 =>
 eT (bB 1 t43 (some t12) none none) fun t45 =>
 aZ a0 fun t46 =>
 aA t46 0 fun t47 =>
 aL dE t47 t45 1 fun j6 =>
 iE .i64 bV fun t49 =>
 Q t49 j6)
def Ai (p1:au) (a0:AV) (M0:RM) (Q:ak) : Prop :=
 p1 [a0] M0 fun t8 M =>
 fI t8 0 fun t9 =>
 fI t8 1 fun bH =>
 fI t8 2 fun bV =>
 aZ a0 fun t14 =>
 aA t14 1 fun t15 =>
 ai M t15 fun t16 =>
 ah t16 false (fun k=>k bV M) (fun k=>k .undef M) fun t18 M_0 =>
 ah t16 false (fun k_1=>eG t18 fun t19 =>
 k_1 t19 M_0) (fun k=>k .undef M_0) fun avN M_3 =>
 aJ t16 (Bo true) avN fun t20 =>
 aZ a0 fun t21 =>
 aA t21 1 fun t22 =>
 aL M_3 t22 t20 1 fun M_4 =>
 aZ a0 fun t24 =>
 aA t24 1 fun t25 =>
 ai M_4 t25 fun t26 =>
 ay t26 (
 Q (N .u64 0) M_4) (
 aZ a0 fun t29 =>
 aA t29 0 fun t30 =>
 ai M_4 t30 fun t31 =>
 eT (bB 1 t31 (some bH) none none) fun t33 =>
 aZ a0 fun t34 =>
 aA t34 0 fun t35 =>
 aL M_4 t35 t33 1 fun M_5 =>
 Q t9 M_5)
def BS (a0:AV) (M0:RM) (Q:ak) : Prop :=
 aZ a0 fun t4 =>
 aA t4 1 fun t5 =>
 ai M0 t5 fun t6 =>
 ay t6 (
 Q (N .i64 14) M0) (
 Q (N .i64 0) M0)
def Cs (a0:AV) (M0:RM) (Q:ak) : Prop :=
 aZ a0 fun t4 =>
 aA t4 1 fun t5 =>
 ai M0 t5 fun t6 =>
 ah t6 false (fun k=>k a0 M0) (fun k=>k .undef M0) fun t8 M =>
 ah t6 false (fun k_0=>aZ t8 fun t9 =>
 k_0 t9 M) (fun k=>k .undef M) fun agF M_2 =>
 ah t6 false (fun k_3=>aA agF 0 fun bH =>
 k_3 bH M_2) (fun k=>k .undef M_2) fun ab1 M_5 =>
 ah t6 false (fun k_6=>ai M_5 ab1 fun bV =>
 k_6 bV M_5) (fun k=>k .undef M_5) fun abX M_8 =>
 ah t6 false (fun k_9=>bD abX fun t12 =>
 k_9 t12 M_8) (fun k=>k .undef M_8) fun apP dD =>
 ah t6 false (fun mq=>af .gtr apP (N .i64 0) fun bf =>
 mq bf dD) (fun k=>k .undef dD) fun ar6 eP =>
 aJ t6 (Bo true) ar6 fun t14 =>
 ay t14 (
 Q (N .i64 14) eP) (
 Q (N .i64 0) eP)
def CU (p1:Nat) (a0:AV) (M0:RM) (Q:ak) : Prop :=
 aZ a0 fun t8 =>
 aA t8 0 fun t9 =>
 aI M0 t9 32 fun bH =>
 aV (fun next xs M =>
 af .lss (aa xs 0) (N .i64 16) fun t12 =>
 ay t12 (
 Lv bH (aa xs 0) 16 2 fun bf =>
 df (.row [(N .u64 0),(.sc (.slice none 0 0))] false p1 0) (fun b=>.ptr b 0) M fun t4 M_0 =>
 aL M_0 t4 bf 2 fun M_1 =>
 aA t4 1 fun t14 =>
 ai M_1 t14 fun t15 =>
 bD t15 fun t16 =>
 aV (fun xh dU M_4 =>
 af .lss (aa dU 0) t16 fun t18 =>
 ay t18 (
 ax t15 (aa dU 0) 1 fun t20 =>
 ai M_4 t20 fun t21 =>
 af .eql (aa dU 0) (N .i64 0) fun t23 =>
 ah t23 true (fun k=>k t21 M_4) (fun k=>k .undef M_4) fun t25 M_5 =>
 ah t23 true (fun k_6=>aA t4 0 fun t26 =>
 k_6 t26 M_5) (fun k=>k .undef M_5) fun awo M_8 =>
 ah t23 true (fun k_9=>ai M_8 awo fun t27 =>
 k_9 t27 M_8) (fun k=>k .undef M_8) fun asT dD =>
 ah t23 true (fun mq=>af .add asT (N .u64 1) fun t28 =>
 mq t28 dD) (fun k=>k .undef dD) fun YC eP =>
 ah t23 true (fun sD=>af .leq t25 YC fun t29 =>
 sD t29 eP) (fun k=>k .undef eP) fun aq1 kG =>
 aJ t23 aq1 (Bo false) fun t30 =>
 ah t30 false (fun mh=>mh (aa dU 0) kG) (fun k=>k .undef kG) fun t32 dE =>
 ah t30 false (fun iU=>af .gtr t32 (N .i64 0) fun t33 =>
 iU t33 dE) (fun k=>k .undef dE) fun aoB fJ =>
 ah t30 false (fun kY=>kY aoB fJ) (fun k=>k .undef fJ) fun t34 fO =>
 ah t34 true (fun nz=>nz t21 fO) (fun k=>k .undef fO) fun t35 jo =>
 ah t34 true (fun rT=>aA t4 1 fun t36 =>
 rT t36 jo) (fun k=>k .undef jo) fun ap4 fV =>
 ah t34 true (fun vL=>ai fV ap4 fun t37 =>
 vL t37 fV) (fun k=>k .undef fV) fun anp iZ =>
 ah t34 true (fun CQ=>CQ (aa dU 0) iZ) (fun k=>k .undef iZ) fun t38 eY =>
 ah t34 true (fun kZ=>af .sub t38 (N .i64 1) fun t39 =>
 kZ t39 eY) (fun k=>k .undef eY) fun apy dZ =>
 ah t34 true (fun rY=>ax anp apy 1 fun t40 =>
 rY t40 dZ) (fun k=>k .undef dZ) fun am5 kD =>
 ah t34 true (fun yu=>ai kD am5 fun t41 =>
 yu t41 kD) (fun k=>k .undef kD) fun arD kK =>
 ah t34 true (fun xY=>af .leq t35 arD fun t42 =>
 xY t42 kK) (fun k=>k .undef kK) fun anC gN =>
 ah t30 false (fun yj=>aJ t34 anC (Bo false) fun t43 =>
 yj t43 gN) (fun k=>k .undef gN) fun aqB jT =>
 aJ t30 (Bo true) aqB fun t44 =>
 ay t44 (
 Q (Bo false) jT) (
 af .add (aa dU 0) (N .i64 1) fun t45 =>
 xh [t45] jT)) (
 af .add (aa xs 0) (N .i64 1) fun t46 =>
 next [t46] M_4)) [(N .i64 0)] M_1) (
 Q (Bo true) M)) [(N .i64 0)] M0
def zT (a0 a1:AV) (M0:RM) (Q:ak) : Prop :=
 jL M0 a0 fun t6 =>
 jL M0 a1 fun t8 =>
 iT .eql t6 t8 fun t9 =>
 Q t9 M0
def H6 (p1:au) (p2 p3:Nat) (p4 p5 p6:au) (a0 a1:AV) (M0:RM) (Q:ak) : Prop :=
 aZ a0 fun bH =>
 aA bH 1 fun bV =>
 ai M0 bV fun t12 =>
 p1 [t12,a1] M0 fun t14 M =>
 fI t14 0 fun t15 =>
 fI t14 1 fun t16 =>
 ah t16 false (fun k=>k a1 M) (fun k=>k .undef M) fun t19 M_0 =>
 ah t16 false (fun k_1=>k_1 a0 M_0) (fun k=>k .undef M_0) fun t20 M_2 =>
 ah t16 false (fun k_3=>aZ t20 fun t21 =>
 k_3 t21 M_2) (fun k=>k .undef M_2) fun acF M_5 =>
 ah t16 false (fun k_6=>aA acF 0 fun t22 =>
 k_6 t22 M_5) (fun k=>k .undef M_5) fun adm M_8 =>
 ah t16 false (fun k_9=>ai M_8 adm fun t23 =>
 k_9 t23 M_8) (fun k=>k .undef M_8) fun Wx dD =>
 ah t16 false (fun mq=>af .leq t19 Wx fun t24 =>
 mq t24 dD) (fun k=>k .undef dD) fun Zc eP =>
 aJ t16 (Bo true) Zc fun t25 =>
 ay t25 (
 Q (Bo true) eP) (
 aZ a0 fun t27 =>
 aA t27 0 fun t28 =>
 ai eP t28 fun t29 =>
 aZ a0 fun t31 =>
 aA t31 1 fun t32 =>
 ai eP t32 fun t33 =>
 dH p2 1 [(N .u64 0)] [(0,1,a1)] fun r f =>
 mI r f eP fun t37 fP b =>
 mI (.row [(N .u64 0),(.sc (.slice none 0 0))] false p3 0) (fun b=>.ptr b 0) fP fun t7 dh Bw =>
 p4 [t33] dh fun t34 bZ =>
 ai bZ t28 fun aun =>
 (aun=t29∧dH p2 1 [(N .u64 0)] [(0,1,a1)] fun azF ayK =>
 (uk b bZ azF ayK t37∧(uk Bw bZ (.row [(N .u64 0),(.sc (.slice none 0 0))] false p3 0) (fun b=>.ptr b 0) t7∧p5 [t34,t15,t37] bZ fun t38 dE =>
 ai dE t28 fun arC =>
 (arC=t29∧(uk Bw dE (.row [(N .u64 0),(.sc (.slice none 0 0))] false p3 0) (fun b=>.ptr b 0) t7∧lX [(N .u64 0),(.sc (.slice none 0 0))] [(0,1,t29),(1,1,t38)] fun t39 =>
 aL dE t7 t39 2 fun j6 =>
 p6 [t7] j6 fun t40 dN =>
 aA t7 1 fun t41 =>
 ai dN t41 fun t42 =>
 bD t42 fun t43 =>
 af .gtr t43 (N .i64 4096) fun t44 =>
 ay t44 (
 Q (Bo false) dN) (
 aI dN t7 2 fun t46 =>
 aZ a0 fun t47 =>
 aL dN t47 t46 2 fun fJ =>
 Q (Bo true) fJ)))))))
def Tn (p1:Nat) (a0:AV) (M0:RM) (Q:ak) : Prop :=
 lJ false 2 a0 (.sc (.slice none 0 0)) fun t4 =>
 ay t4 (
 Q (.sc (.slice none 0 0)) M0) (
 dH p1 0 [(N .u64 0)] [] fun r f =>
 df r f M0 fun t5 M =>
 appW p1 1 8 [(N .u64 0)] false t5 a0 M fun t7 M_0 =>
 Q t7 M_0)
def Tt (p1:Nat) (a0 a1:AV) (M0:RM) (Q:ak) : Prop :=
 iW p1 a0 fun r f =>
 df r f M0 fun t2 M =>
 iW p1 a1 fun r_0 f_1 =>
 df r_0 f_1 M fun t3 M_2 =>
 aA t2 0 fun t5 =>
 ai M_2 t5 fun t6 =>
 aA t3 0 fun t7 =>
 ai M_2 t7 fun t8 =>
 af .lss t6 t8 fun t9 =>
 ah t9 false (fun k=>aA t2 0 fun bV =>
 k bV M_2) (fun k=>k .undef M_2) fun QT M_4 =>
 ah t9 false (fun k_5=>ai M_4 QT fun t12 =>
 k_5 t12 M_4) (fun k=>k .undef M_4) fun PD M_7 =>
 ah t9 false (fun k_8=>aA t3 0 fun bf =>
 k_8 bf M_7) (fun k=>k .undef M_7) fun IB dm =>
 ah t9 false (fun jG=>ai dm IB fun t14 =>
 jG t14 dm) (fun k=>k .undef dm) fun Kh eu =>
 ah t9 false (fun iJ=>af .eql PD Kh fun t15 =>
 iJ t15 eu) (fun k=>k .undef eu) fun KO dh =>
 ah t9 false (fun jV=>jV KO dh) (fun k=>k .undef dh) fun t16 bZ =>
 ah t16 true (fun vT=>aA t2 1 fun t17 =>
 vT t17 bZ) (fun k=>k .undef bZ) fun Ju dN =>
 ah t16 true (fun oK=>ai dN Ju fun t18 =>
 oK t18 dN) (fun k=>k .undef dN) fun Lc fO =>
 ah t16 true (fun nz=>aA t3 1 fun t19 =>
 nz t19 fO) (fun k=>k .undef fO) fun KI gp =>
 ah t16 true (fun lh=>ai gp KI fun t20 =>
 lh t20 gp) (fun k=>k .undef gp) fun JD eU =>
 ah t16 true (fun kX=>af .lss Lc JD fun t21 =>
 kX t21 eU) (fun k=>k .undef eU) fun BZ gF =>
 ah t9 false (fun rM=>aJ t16 BZ (Bo false) fun t22 =>
 rM t22 gF) (fun k=>k .undef gF) fun CG jh =>
 aJ t9 (Bo true) CG fun t23 =>
 Q t23 jh
def YS (p1:au) (p2:Nat) (a0 a1:AV) (M0:RM) (Q:ak) : Prop :=
 p1 [a0] M0 fun t6 M =>
 aV (fun next xs M_0 =>
 af .geq (aa xs 1) (N .u64 128) fun t8 =>
 ay t8 (
 iE .u8 (aa xs 1) fun bf =>
 af .or bf (N .u8 128) fun t14 =>
 dH p2 1 [(N .u8 0)] [(0,1,t14)] fun r f =>
 df r f M_0 fun t15 M_1 =>
 appW p2 1 1 [(N .u8 0)] false (aa xs 0) t15 M_1 fun t16 M_2 =>
 BH .shr (aa xs 1) (N .u64 7) fun bH =>
 next [t16,bH] M_2) (
 iE .u8 (aa xs 1) fun t19 =>
 dH p2 1 [(N .u8 0)] [(0,1,t19)] fun r_3 f_4 =>
 df r_3 f_4 M_0 fun t20 M_5 =>
 appW p2 1 1 [(N .u8 0)] false (aa xs 0) t20 M_5 fun t21 M_6 =>
 Q t21 M_6)) [t6,a1] M
def SX (p1 p2:Nat) (a0:AV) (M0:RM) (Q:ak) : Prop :=
 LW p1 40 [(N .i64 0),(N .u64 0),(.sc (.slice none 0 0))] (N .i64 0) (N .i64 0) fun r f =>
 df r f M0 fun t6 M =>
 aV (fun next xs M_0 =>
 bD a0 fun t9 =>
 af .lss (aa xs 1) t9 fun bH =>
 ay bH (
 ed (fun J =>
 ed (fun J_1 =>
 af .eql (aa xs 1) (N .i64 0) fun t14 =>
 ae t14 false (fun k=>k a0 M_0 none) (fun k=>k .undef M_0 none) fun t16 M_2 b =>
 ae t14 false (fun k_3=>k_3 (aa xs 1) M_2 none) (fun k=>k .undef M_2 none) fun t17 M_4 b_5 =>
 ae t14 false (fun k_6=>ax t16 t17 2 fun t18 =>
 k_6 t18 M_4 none) (fun k=>k .undef M_4 none) fun awD M_8 b_9 =>
 ae t14 false (fun pz=>aA awD 0 fun t19 =>
 pz t19 M_8 none) (fun k=>k .undef M_8 none) fun apg eO NF =>
 ae t14 false (fun iJ=>ai eO apg fun t20 =>
 iJ t20 eO none) (fun k=>k .undef eO none) fun as8 dh Bw =>
 ae t14 false (fun mh=>mh a0 dh none) (fun k=>k .undef dh none) fun t21 dE Xb =>
 ae t14 false (fun yl=>yl (aa xs 1) dE none) (fun k=>k .undef dE none) fun t22 fJ TK =>
 ae t14 false (fun sW=>af .sub t22 (N .i64 1) fun t23 =>
 sW t23 fJ none) (fun k=>k .undef fJ none) fun aor jo Nn =>
 ae t14 false (fun lh=>ax t21 aor 2 fun t24 =>
 lh t24 jo none) (fun k=>k .undef jo none) fun ap0 eU adl =>
 ae t14 false (fun rP=>aA ap0 0 fun t25 =>
 rP t25 eU none) (fun k=>k .undef eU none) fun aqZ eY acp =>
 ae t14 false (fun BU=>ai eY aqZ fun t26 =>
 BU t26 eY none) (fun k=>k .undef eY none) fun atD nZ agk =>
 ae t14 false (fun BF=>af .neq as8 atD fun t27 =>
 BF t27 nZ none) (fun k=>k .undef nZ none) fun auv nS ahg =>
 aJ t14 (Bo true) auv fun t28 =>
 ay t28 (
 ax a0 (aa xs 1) 2 fun t32 =>
 aA t32 0 fun t33 =>
 ai nS t33 fun t34 =>
 lX [(N .i64 0),(N .u64 0),(.sc (.slice none 0 0))] [(0,1,t34)] fun t35 =>
 dH p1 1 [(N .i64 0),(N .u64 0),(.sc (.slice none 0 0))] [(0,3,t35)] fun ahR af9 =>
 df ahR af9 nS fun t36 gN =>
 appW p1 3 40 [(N .i64 0),(N .u64 0),(.sc (.slice none 0 0))] false (aa xs 0) t36 gN fun t37 jU =>
 J_1 [t37] jU) (
 J_1 [(aa xs 0)] nS)) (fun AX jT =>
 bD (aa AX 0) fun t40 =>
 af .sub t40 (N .i64 1) fun t41 =>
 ax (aa AX 0) t41 3 fun t42 =>
 aZ t42 fun t44 =>
 aA t44 2 fun t45 =>
 ai jT t45 fun t46 =>
 bD t46 fun t47 =>
 af .eql t47 (N .i64 0) fun t48 =>
 ae t48 true (fun yL=>yL a0 jT none) (fun k=>k .undef jT none) fun t50 Nz b_52 =>
 ae t48 true (fun Wv=>Wv (aa xs 1) Nz none) (fun k=>k .undef Nz none) fun t51 j5 acy =>
 ae t48 true (fun yg=>ax t50 t51 2 fun t52 =>
 yg t52 j5 none) (fun k=>k .undef j5 none) fun atu pX auk =>
 ae t48 true (fun Zx=>aA atu 1 fun t53 =>
 Zx t53 pX none) (fun k=>k .undef pX none) fun anK oO ahj =>
 ae t48 true (fun Ii=>ai oO anK fun t54 =>
 Ii t54 oO none) (fun k=>k .undef oO none) fun aqG uF azC =>
 ae t48 true (fun NR=>NR t42 uF none) (fun k=>k .undef uF none) fun t55 pq aiV =>
 ae t48 true (fun Gm=>aZ t55 fun t56 =>
 Gm t56 pq none) (fun k=>k .undef pq none) fun ao8 pY aye =>
 ae t48 true (fun aje=>aA ao8 1 fun t57 =>
 aje t57 pY none) (fun k=>k .undef pY none) fun asb Fq b_78 =>
 ae t48 true (fun aif=>ai Fq asb fun t58 =>
 aif t58 Fq none) (fun k=>k .undef Fq none) fun atx NL azG =>
 ae t48 true (fun YK=>af .add atx (N .u64 1) fun t59 =>
 YK t59 NL none) (fun k=>k .undef NL none) fun aqd xH arp =>
 ae t48 true (fun O9=>af .eql aqG aqd fun t60 =>
 O9 t60 xH none) (fun k=>k .undef xH none) fun amD q9 aiw =>
 aJ t48 amD (Bo false) fun t61 =>
 ay t61 (
 aZ t42 fun t63 =>
 aA t63 1 fun t64 =>
 ai q9 t64 fun t65 =>
 af .add t65 (N .u64 1) fun t66 =>
 aZ t42 fun t67 =>
 aA t67 1 fun t68 =>
 aL q9 t68 t66 1 fun uD =>
 J [(aa AX 0)] uD) (
 aZ t42 fun t71 =>
 aA t71 2 fun t72 =>
 ai q9 t72 fun t73 =>
 ax a0 (aa xs 1) 2 fun t76 =>
 aA t76 1 fun t77 =>
 ai q9 t77 fun t78 =>
 dH p2 1 [(N .u64 0)] [(0,1,t78)] fun ai8 ahi =>
 mI ai8 ahi q9 fun t79 qM aq0 =>
 appW p2 1 8 [(N .u64 0)] false t73 t79 qM fun t80 rf =>
 aZ t42 fun t81 =>
 aA t81 2 fun t82 =>
 aL rf t82 t80 1 fun vR =>
 J [(aa AX 0)] vR))) (fun avS Fs =>
 af .add (aa xs 1) (N .i64 1) fun t12 =>
 next [(aa avS 0),t12] Fs)) (
 Q (aa xs 0) M_0)) [t6,(N .i64 0)] M
def N8 (p1 p2:au) (p3:Nat) (a0:AV) (M0:RM) (Q:ak) : Prop :=
 p1 [a0] M0 fun t9 M =>
 bD t9 fun bV =>
 iE .u64 bV fun t12 =>
 p2 [t12] M fun bf M_0 =>
 aV (fun next xs M_1 =>
 bD t9 fun t16 =>
 af .lss (aa xs 1) t16 fun t17 =>
 ay t17 (
 ax t9 (aa xs 1) 3 fun t23 =>
 aA t23 0 fun t24 =>
 ai M_1 t24 fun t25 =>
 iE .u64 t25 fun t26 =>
 p2 [t26] M_1 fun t27 M_2 =>
 appW p3 1 1 [(N .u8 0)] false (aa xs 0) t27 M_2 fun t28 M_3 =>
 ax t9 (aa xs 1) 3 fun t32 =>
 aA t32 1 fun t33 =>
 ai M_3 t33 fun t34 =>
 p2 [t34] M_3 fun t35 M_4 =>
 appW p3 1 1 [(N .u8 0)] false t28 t35 M_4 fun t36 M_5 =>
 ax t9 (aa xs 1) 3 fun t40 =>
 aA t40 2 fun t41 =>
 ai M_5 t41 fun t42 =>
 bD t42 fun t43 =>
 iE .u64 t43 fun t44 =>
 p2 [t44] M_5 fun t45 M_6 =>
 appW p3 1 1 [(N .u8 0)] false t36 t45 M_6 fun t46 M_7 =>
 ax t9 (aa xs 1) 3 fun t49 =>
 aA t49 1 fun t50 =>
 ai M_7 t50 fun t51 =>
 aV (fun aqb H5 dm =>
 ax t9 (aa xs 1) 3 fun t55 =>
 aA t55 2 fun t56 =>
 ai dm t56 fun t57 =>
 bD t57 fun t58 =>
 af .lss (aa H5 2) t58 fun t59 =>
 ay t59 (
 ax t9 (aa xs 1) 3 fun t65 =>
 aA t65 2 fun t66 =>
 ai dm t66 fun t67 =>
 ax t67 (aa H5 2) 1 fun t69 =>
 ai dm t69 fun t70 =>
 af .sub t70 (aa H5 1) fun t72 =>
 p2 [t72] dm fun t73 dD =>
 appW p3 1 1 [(N .u8 0)] false (aa H5 0) t73 dD fun t74 eO =>
 ax t9 (aa xs 1) 3 fun t77 =>
 aA t77 2 fun t78 =>
 ai eO t78 fun t79 =>
 ax t79 (aa H5 2) 1 fun t81 =>
 ai eO t81 fun t82 =>
 af .add (aa H5 2) (N .i64 1) fun t61 =>
 aqb [t74,t82,t61] eO) (
 af .add (aa xs 1) (N .i64 1) fun t19 =>
 next [(aa H5 0),t19] dm)) [t46,t51,(N .i64 0)] M_7) (
 Q (aa xs 0) M_1)) [bf,(N .i64 0)] M_0
def Hd (p1:au) (a0 a1:AV) (M0:RM) (Q:ak) : Prop :=
 aZ a0 fun t9 =>
 aA t9 1 fun bH =>
 ai M0 bH fun bV =>
 p1 [bV,a1] M0 fun bf M =>
 fI bf 0 fun t14 =>
 fI bf 1 fun t15 =>
 af .geq a1 (N .u64 1) fun t17 =>
 ah t17 true (fun k=>k a1 M) (fun k=>k .undef M) fun t19 M_0 =>
 ah t17 true (fun k_1=>k_1 a0 M_0) (fun k=>k .undef M_0) fun t20 M_2 =>
 ah t17 true (fun k_3=>aZ t20 fun t21 =>
 k_3 t21 M_2) (fun k=>k .undef M_2) fun acF M_5 =>
 ah t17 true (fun k_6=>aA acF 0 fun t22 =>
 k_6 t22 M_5) (fun k=>k .undef M_5) fun adm M_8 =>
 ah t17 true (fun k_9=>ai M_8 adm fun t23 =>
 k_9 t23 M_8) (fun k=>k .undef M_8) fun Wx dD =>
 ah t17 true (fun mq=>af .leq t19 Wx fun t24 =>
 mq t24 dD) (fun k=>k .undef dD) fun Zc eP =>
 aJ t17 Zc (Bo false) fun t25 =>
 ah t25 false (fun sD=>sD t15 eP) (fun k=>k .undef eP) fun t27 dh =>
 aJ t25 (Bo true) t27 fun t28 =>
 Q t28 dh
def xD (p1:Nat) (p2:au) (p3:Nat) (a0:AV) (M0:RM) (Q:ak) : Prop :=
 bD a0 fun bH =>
 aV (fun next xs M =>
 af .lss (aa xs 1) bH fun t12 =>
 ay t12 (
 ed (fun J =>
 ax a0 (aa xs 1) 1 fun bf =>
 ai M bf fun t14 =>
 bD t14 fun t17 =>
 af .add (aa xs 0) t17 fun t18 =>
 af .lss t18 (N .i64 0) fun t20 =>
 ay t20 (
 False) (
 J [t18] M)) (fun az7 M_1 =>
 af .add (aa xs 1) (N .i64 1) fun t22 =>
 next [(aa az7 0),t22] M_1)) (
 p2 [(.sc (.slice none 0 0)),(aa xs 0)] M fun t24 M_2 =>
 bD a0 fun t26 =>
 aV (fun apn Ag M_5 =>
 af .lss (aa Ag 1) t26 fun t28 =>
 ay t28 (
 ax a0 (aa Ag 1) 1 fun t29 =>
 ai M_5 t29 fun t30 =>
 appW p3 1 8 [(N .u64 0)] false (aa Ag 0) t30 M_5 fun t33 M_6 =>
 af .add (aa Ag 1) (N .i64 1) fun t34 =>
 apn [t33,t34] M_6) (
 Q (aa Ag 0) M_5)) [t24,(N .i64 0)] M_2)) [(N .i64 0),(N .i64 0)] M0
def Aa (p1 p2:au) (a0:AV) (M0:RM) (Q:ak) : Prop :=
 bD a0 fun t4 =>
 iE .u64 t4 fun t8 =>
 p1 [t8] M0 fun t9 M =>
 p2 [a0,(N .i64 0),t4,t9] M fun bH M_0 =>
 Q (.tup []) M_0
def vN (a0:AV) (M0:RM) (Q:ak) : Prop :=
 bD a0 fun t7 =>
 af .lss t7 (N .i64 2) fun t8 =>
 ay t8 (
 Q a0 M0) (
 aV (fun next xs M =>
 bD a0 fun t12 =>
 af .lss (aa xs 0) t12 fun bf =>
 ay bf (
 ax a0 (aa xs 0) 1 fun t18 =>
 ai M t18 fun t19 =>
 af .sub (aa xs 0) (N .i64 1) fun t22 =>
 ax a0 t22 1 fun t23 =>
 ai M t23 fun t24 =>
 af .eql t19 t24 fun t25 =>
 ay t25 (
 eT (bB 1 a0 (some (aa xs 0)) none none) fun t28 =>
 aV (fun xk dz M_2 =>
 bD t28 fun t31 =>
 af .lss (aa dz 1) t31 fun t32 =>
 ay t32 (
 ed (fun J =>
 ax t28 (aa dz 1) 1 fun t37 =>
 ai M_2 t37 fun t38 =>
 af .sub (aa dz 1) (N .i64 1) fun t41 =>
 ax t28 t41 1 fun t42 =>
 ai M_2 t42 fun t43 =>
 af .neq t38 t43 fun t44 =>
 ay t44 (
 ax t28 (aa dz 1) 1 fun t49 =>
 ai M_2 t49 fun t50 =>
 ax a0 (aa dz 0) 1 fun t51 =>
 aL M_2 t51 t50 1 fun M_3 =>
 af .add (aa dz 0) (N .i64 1) fun t53 =>
 J [t53] M_3) (
 J [(aa dz 0)] M_2)) (fun Ag M_5 =>
 af .add (aa dz 1) (N .i64 1) fun t34 =>
 xk [(aa Ag 0),t34] M_5)) (
 eT (bB 1 a0 (some (aa dz 0)) none none) fun t56 =>
 Qu [(N .u64 0)] t56 M_2 fun u M_6 =>
 eT (bB 1 a0 none (some (aa dz 0)) none) fun t59 =>
 Q t59 M_6)) [(aa xs 0),(N .i64 1)] M) (
 af .add (aa xs 0) (N .i64 1) fun t15 =>
 next [t15] M)) (
 Q a0 M)) [(N .i64 1)] M0)
def yn (a0:AV) (M0:RM) (Q:ak) : Prop :=
 aV (fun next xs M =>
 aZ a0 fun t5 =>
 aA t5 1 fun t6 =>
 ai M t6 fun t7 =>
 bD t7 fun t8 =>
 af .lss (aa xs 0) t8 fun t9 =>
 ae t9 true (fun k=>k a0 M none) (fun k=>k .undef M none) fun bV M_0 b =>
 ae t9 true (fun k_1=>aZ bV fun t12 =>
 k_1 t12 M_0 none) (fun k=>k .undef M_0 none) fun avw M_3 b_4 =>
 ae t9 true (fun k_5=>aA avw 1 fun bf =>
 k_5 bf M_3 none) (fun k=>k .undef M_3 none) fun acj M_7 b_8 =>
 ae t9 true (fun k_9=>ai M_7 acj fun t14 =>
 k_9 t14 M_7 none) (fun k=>k .undef M_7 none) fun WL dD Nb =>
 ae t9 true (fun nH=>nH (aa xs 0) dD none) (fun k=>k .undef dD none) fun t15 eP adk =>
 ae t9 true (fun qR=>ax WL t15 1 fun t16 =>
 qR t16 eP none) (fun k=>k .undef eP none) fun aqm bZ Lb =>
 ae t9 true (fun iU=>ai bZ aqm fun t17 =>
 iU t17 bZ none) (fun k=>k .undef bZ none) fun apL fJ TK =>
 ae t9 true (fun sW=>sW a0 fJ none) (fun k=>k .undef fJ none) fun t18 iI Uh =>
 ae t9 true (fun rT=>aZ t18 fun t19 =>
 rT t19 iI none) (fun k=>k .undef iI none) fun aui fV Nq =>
 ae t9 true (fun kX=>aA aui 0 fun t20 =>
 kX t20 fV none) (fun k=>k .undef fV none) fun aoD gF ac9 =>
 ae t9 true (fun kZ=>ai gF aoD fun t21 =>
 kZ t21 gF none) (fun k=>k .undef gF none) fun arN dZ Pf =>
 ae t9 true (fun yH=>af .add arN (N .u64 1) fun t22 =>
 yH t22 dZ none) (fun k=>k .undef dZ none) fun atA gG K6 =>
 ae t9 true (fun BC=>af .leq apL atA fun t23 =>
 BC t23 gG none) (fun k=>k .undef gG none) fun apC kE aju =>
 aJ t9 apC (Bo false) fun t24 =>
 ay t24 (
 aZ a0 fun t27 =>
 aA t27 0 fun t28 =>
 ai kE t28 fun t29 =>
 aZ a0 fun t31 =>
 aA t31 1 fun t32 =>
 ai kE t32 fun t33 =>
 ax t33 (aa xs 0) 1 fun t35 =>
 ai kE t35 fun t36 =>
 NA true t29 t36 fun t37 =>
 aZ a0 fun t38 =>
 aA t38 0 fun t39 =>
 aL kE t39 t37 1 fun jU =>
 af .add (aa xs 0) (N .i64 1) fun t41 =>
 next [t41] jU) (
 aZ a0 fun t44 =>
 aA t44 1 fun t45 =>
 ai kE t45 fun t46 =>
 eT (bB 1 t46 (some (aa xs 0)) none none) fun t48 =>
 aZ a0 fun t49 =>
 aA t49 1 fun t50 =>
 aL kE t50 t48 1 fun kL =>
 Q (.tup []) kL)) [(N .i64 0)] M0
def WM (p1:Nat) (a0:AV) (M0:RM) (Q:ak) : Prop :=
 lJ false 2 a0 (.sc (.slice none 0 0)) fun t4 =>
 ay t4 (
 Q (.sc (.slice none 0 0)) M0) (
 dH p1 0 [(N .u8 0)] [] fun r f =>
 df r f M0 fun t5 M =>
 appW p1 1 1 [(N .u8 0)] false t5 a0 M fun t7 M_0 =>
 Q t7 M_0)
def xR (a0:AV) (M0:RM) (Q:ak) : Prop :=
 ed (fun J =>
 aZ a0 fun t8 =>
 aA t8 0 fun t9 =>
 ai M0 t9 fun bH =>
 aZ a0 fun t12 =>
 aA t12 0 fun bf =>
 ai M0 bf fun t14 =>
 bD t14 fun t15 =>
 NA false t15 (N .i64 10) fun t16 =>
 eT (bB 1 bH none (some t16) none) fun t17 =>
 bD t17 fun t18 =>
 aV (fun next xs M =>
 af .lss (aa xs 1) t18 fun t20 =>
 ay t20 (
 ax t17 (aa xs 1) 1 fun t22 =>
 ai M t22 fun t23 =>
 af .and t23 (N .u8 127) fun t26 =>
 iE .u64 t26 fun t27 =>
 af .mul (N .i64 7) (aa xs 1) fun t29 =>
 BH .shl t27 t29 fun t30 =>
 af .or (aa xs 0) t30 fun t31 =>
 af .geq t23 (N .u8 128) fun t33 =>
 ay t33 (
 af .add (aa xs 1) (N .i64 1) fun t51 =>
 next [t31,t51] M) (
 af .eql t23 (N .u8 0) fun t35 =>
 ah t35 true (fun k=>k (aa xs 1) M) (fun k=>k .undef M) fun t37 M_0 =>
 ah t35 true (fun k_1=>af .gtr t37 (N .i64 0) fun t38 =>
 k_1 t38 M_0) (fun k=>k .undef M_0) fun awK M_3 =>
 aJ t35 awK (Bo false) fun t39 =>
 ah t39 false (fun k_4=>k_4 (aa xs 1) M_3) (fun k=>k .undef M_3) fun t41 M_5 =>
 ah t39 false (fun k_6=>af .eql t41 (N .i64 9) fun t42 =>
 k_6 t42 M_5) (fun k=>k .undef M_5) fun awO M_8 =>
 ah t39 false (fun k_9=>k_9 awO M_8) (fun k=>k .undef M_8) fun t43 dm =>
 ah t43 true (fun jG=>jG t23 dm) (fun k=>k .undef dm) fun t44 eO =>
 ah t43 true (fun nH=>af .gtr t44 (N .u8 1) fun t45 =>
 nH t45 eO) (fun k=>k .undef eO) fun WQ fP =>
 ah t39 false (fun qR=>aJ t43 WQ (Bo false) fun t46 =>
 qR t46 fP) (fun k=>k .undef fP) fun YL bZ =>
 aJ t39 (Bo true) YL fun t47 =>
 ay t47 (
 J [] bZ) (
 af .add (aa xs 1) (N .i64 1) fun t50 =>
 Q (.tup [t31,t50,(Bo true)]) bZ))) (
 J [] M)) [(N .u64 0),(N .i64 0)] M0) (fun xs_19 j6 =>
 Q (.tup [(N .u64 0),(N .i64 0),(Bo false)]) j6)
def pV (p1 p2:au) (a0 a1:AV) (M0:RM) (Q:ak) : Prop :=
 bD a0 fun bV =>
 aV (fun next xs M =>
 af .lss (aa xs 0) (aa xs 1) fun t15 =>
 ay t15 (
 af .add (aa xs 0) (aa xs 1) fun t18 =>
 iE .u64 t18 fun t19 =>
 BH .shr t19 (N .u64 1) fun t20 =>
 iE .i64 t20 fun t21 =>
 ax a0 t21 1 fun t24 =>
 ai M t24 fun t25 =>
 p1 [t25,a1] M fun t27 M_0 =>
 ay t27 (
 af .add t21 (N .i64 1) fun t29 =>
 next [t29,(aa xs 1)] M_0) (
 next [(aa xs 0),t21] M_0)) (
 af .lss (aa xs 0) bV fun t34 =>
 ah t34 true (fun k=>k a0 M) (fun k=>k .undef M) fun t36 M_1 =>
 ah t34 true (fun k_2=>k_2 (aa xs 0) M_1) (fun k=>k .undef M_1) fun t37 M_3 =>
 ah t34 true (fun k_4=>ax t36 t37 1 fun t38 =>
 k_4 t38 M_3) (fun k=>k .undef M_3) fun aw5 M_6 =>
 ah t34 true (fun k_7=>ai M_6 aw5 fun t39 =>
 k_7 t39 M_6) (fun k=>k .undef M_6) fun awY M_9 =>
 ah t34 true (fun pz=>pz a1 M_9) (fun k=>k .undef M_9) fun t40 dD =>
 ah t34 true (fun mq=>af .eql awY t40 fun t41 =>
 mq t41 dD) (fun k=>k .undef dD) fun ard eP =>
 ah t34 true (fun sD=>sD ard eP) (fun k=>k .undef eP) fun t42 dh =>
 ah t42 false (fun jV=>jV a0 dh) (fun k=>k .undef dh) fun t43 bZ =>
 ah t42 false (fun vT=>vT (aa xs 0) bZ) (fun k=>k .undef bZ) fun t44 j6 =>
 ah t42 false (fun yl=>ax t43 t44 1 fun t45 =>
 yl t45 j6) (fun k=>k .undef j6) fun anN lL =>
 ah t42 false (fun sW=>ai lL anN fun t46 =>
 sW t46 lL) (fun k=>k .undef lL) fun aqA jo =>
 ah t42 false (fun rT=>p2 [aqA] jo fun t47 lK =>
 rT t47 lK) (fun k=>k .undef jo) fun anP eU =>
 ah t42 false (fun kX=>kX anP eU) (fun k=>k .undef eU) fun t48 iZ =>
 ah t48 true (fun CQ=>CQ a1 iZ) (fun k=>k .undef iZ) fun t49 eY =>
 ah t48 true (fun kZ=>p2 [t49] eY fun t50 jh =>
 kZ t50 jh) (fun k=>k .undef eY) fun ao9 nZ =>
 ah t42 false (fun yH=>aJ t48 ao9 (Bo false) fun t51 =>
 yH t51 nZ) (fun k=>k .undef nZ) fun auo gG =>
 ah t34 true (fun yR=>aJ t42 (Bo true) auo fun t52 =>
 yR t52 gG) (fun k=>k .undef gG) fun aph nJ =>
 aJ t34 aph (Bo false) fun t53 =>
 Q (.tup [(aa xs 0),t53]) nJ)) [(N .i64 0),bV] M0
def oD (p1:Nat) (p2 p3:au) (a0 a1 a2:AV) (M0:RM) (Q:ak) : Prop :=
 eT (bB 1 a0 (some a1) none none) fun t12 =>
 bD a2 fun t14 =>
 af .eql t14 (N .i64 0) fun t16 =>
 ay t16 (
 Q a0 M0) (
 bD a0 fun t19 =>
 af .eql a1 t19 fun t22 =>
 ay t22 (
 appW p1 1 8 [(N .u64 0)] false a0 a2 M0 fun t25 M =>
 Q t25 M) (
 af .add t19 t14 fun t28 =>
 EU a0 fun t30 =>
 af .gtr t28 t30 fun t31 =>
 ay t31 (
 eT (bB 1 a0 none (some a1) none) fun t34 =>
 af .add t19 t14 fun t37 =>
 af .sub t37 a1 fun t39 =>
 appW p1 1 8 [(N .u64 0)] true t34 t39 M0 fun t40 M_0 =>
 eT (bB 1 t40 (some a1) none none) fun t43 =>
 Dw 1 t43 a2 M_0 fun t45 M_1 =>
 af .add a1 t14 fun t49 =>
 eT (bB 1 t40 (some t49) none none) fun t50 =>
 eT (bB 1 a0 (some a1) none none) fun t53 =>
 Dw 1 t50 t53 M_1 fun t54 M_2 =>
 Q t40 M_2) (
 af .add t19 t14 fun t59 =>
 eT (bB 1 a0 none (some t59) none) fun t60 =>
 af .add a1 t14 fun t65 =>
 eT (bB 1 t60 (some t65) none none) fun t66 =>
 p2 [a2,t66] M0 fun t67 M_3 =>
 eG t67 fun t68 =>
 ay t68 (
 af .add a1 t14 fun t72 =>
 eT (bB 1 t60 (some t72) none none) fun t73 =>
 eT (bB 1 t60 (some a1) none none) fun t76 =>
 Dw 1 t73 t76 M_3 fun t77 M_4 =>
 eT (bB 1 t60 (some a1) none none) fun t80 =>
 Dw 1 t80 a2 M_4 fun t82 M_5 =>
 Q t60 M_5) (
 eT (bB 1 t60 (some t19) none none) fun t86 =>
 Dw 1 t86 a2 M_3 fun t88 M_6 =>
 eT (bB 1 t60 (some a1) none none) fun t91 =>
 p3 [t91,t14] M_6 fun t93 M_7 =>
 Q t60 M_7))))
def Fp (p1:Nat) (p2:au) (a0:AV) (M0:RM) (Q:ak) : Prop :=
 af .lss a0 (N .u64 128) fun t4 =>
 ay t4 (
 iE .u8 a0 fun t6 =>
 dH p1 1 [(N .u8 0)] [(0,1,t6)] fun r f =>
 df r f M0 fun t7 M =>
 Q t7 M) (
 af .rem a0 (N .u64 128) fun t9 =>
 iE .u8 t9 fun bH =>
 af .add bH (N .u8 128) fun bV =>
 dH p1 1 [(N .u8 0)] [(0,1,bV)] fun r_0 f_1 =>
 df r_0 f_1 M0 fun t12 M_2 =>
 af .quo a0 (N .u64 128) fun t14 =>
 p2 [t14] M_2 fun t15 M_3 =>
 appW p1 1 1 [(N .u8 0)] false t12 t15 M_3 fun t16 M_4 =>
 Q t16 M_4)
def zX (p1 p2:Nat) (a0 a1:AV) (M0:RM) (Q:ak) : Prop :=
 ed (fun J =>
 af .lss a1 (N .i64 0) fun t6 =>
 ay t6 (
 False) (
 J [] M0)) (fun xs M =>
 ed (fun J_0 =>
 EU a0 fun bH =>
 bD a0 fun t12 =>
 af .sub bH t12 fun bf =>
 af .sub a1 bf fun t14 =>
 af .gtr t14 (N .i64 0) fun t16 =>
 ay t16 (
 EU a0 fun t19 =>
 eT (bB 1 a0 none (some t19) none) fun t20 =>
 appW p2 1 8 [(N .u64 0)] true t20 t14 M fun t22 M_1 =>
 bD a0 fun t24 =>
 eT (bB 1 t22 none (some t24) none) fun t25 =>
 J_0 [t25] M_1) (
 J_0 [a0] M)) (fun gJ M_3 =>
 Q (aa gJ 0) M_3))
def je (p1 p2 p3 p4 p5 p6 p7 p8 p9 p10:au) (a0 a1 a2 a3:AV) (M0:RM) (Q:ak) : Prop :=
 aV (fun next xs M =>
 af .sub (aa xs 1) (aa xs 0) fun t21 =>
 af .leq t21 (N .i64 12) fun t23 =>
 ay t23 (
 p1 [a0,(aa xs 0),(aa xs 1)] M fun t27 M_0 =>
 Q (.tup []) M_0) (
 af .eql (aa xs 2) (N .i64 0) fun t29 =>
 ay t29 (
 p2 [a0,(aa xs 0),(aa xs 1)] M fun t33 M_1 =>
 Q (.tup []) M_1) (
 ed (fun J =>
 eG (aa xs 3) fun t35 =>
 ay t35 (
 p3 [a0,(aa xs 0),(aa xs 1)] M fun t39 M_2 =>
 af .sub (aa xs 2) (N .i64 1) fun t41 =>
 J [t41] M_2) (
 J [(aa xs 2)] M)) (fun dU M_4 =>
 p4 [a0,(aa xs 0),(aa xs 1)] M_4 fun t46 M_5 =>
 fI t46 0 fun t47 =>
 fI t46 1 fun t48 =>
 ed (fun J_6 =>
 af .eql t48 (N .i64 2) fun t50 =>
 ay t50 (
 p5 [a0,(aa xs 0),(aa xs 1)] M_5 fun t54 M_7 =>
 af .sub (aa xs 1) (N .i64 1) fun t56 =>
 af .sub t47 (aa xs 0) fun t59 =>
 af .sub t56 t59 fun t60 =>
 J_6 [t60,(N .i64 1)] M_7) (
 J_6 [t47,t48] M_5)) (fun og M_9 =>
 ed (fun Zk =>
 ah (aa xs 3) true (fun k=>k (aa xs 4) M_9) (fun k=>k .undef M_9) fun t63 dD =>
 aJ (aa xs 3) t63 (Bo false) fun t64 =>
 ah t64 true (fun mq=>mq (aa og 1) dD) (fun k=>k .undef dD) fun t66 eu =>
 ah t64 true (fun iJ=>af .eql t66 (N .i64 1) fun t67 =>
 iJ t67 eu) (fun k=>k .undef eu) fun amx dh =>
 aJ t64 amx (Bo false) fun t68 =>
 ay t68 (
 p6 [a0,(aa xs 0),(aa xs 1)] dh fun t72 kG =>
 ay t72 (
 Q (.tup []) kG) (
 Zk [] kG)) (
 Zk [] dh)) (fun awc dE =>
 af .gtr (aa xs 0) (N .i64 0) fun t74 =>
 ae t74 true (fun iU=>iU a0 dE none) (fun k=>k .undef dE none) fun t76 dN b =>
 ae t74 true (fun oK=>oK (aa xs 0) dN none) (fun k=>k .undef dN none) fun t77 lL Sq =>
 ae t74 true (fun nz=>af .sub t77 (N .i64 1) fun t78 =>
 nz t78 lL none) (fun k=>k .undef lL none) fun aqF gp acR =>
 ae t74 true (fun Pj=>ax t76 aqF 1 fun t79 =>
 Pj t79 gp none) (fun k=>k .undef gp none) fun ao4 iy anl =>
 ae t74 true (fun CQ=>ai iy ao4 fun t80 =>
 CQ t80 iy none) (fun k=>k .undef iy none) fun auB Ib b_36 =>
 ae t74 true (fun ai1=>ai1 a0 Ib none) (fun k=>k .undef Ib none) fun t81 nZ agk =>
 ae t74 true (fun BF=>BF (aa og 0) nZ none) (fun k=>k .undef nZ none) fun t82 gG K6 =>
 ae t74 true (fun BC=>ax t81 t82 1 fun t83 =>
 BC t83 gG none) (fun k=>k .undef gG none) fun aty kE aju =>
 ae t74 true (fun yj=>ai kE aty fun t84 =>
 yj t84 kE none) (fun k=>k .undef kE none) fun aup jT ays =>
 ah t74 true (fun NJ=>p7 [auB,aup] jT fun t85 mY =>
 NJ t85 mY) (fun k=>k .undef jT) fun aou j5 =>
 ae t74 true (fun OV=>eG aou fun t86 =>
 OV t86 j5 none) (fun k=>k .undef j5 none) fun Wo iY OE =>
 aJ t74 Wo (Bo false) fun t87 =>
 ay t87 (
 p8 [a0,(aa xs 0),(aa xs 1),(aa og 0)] iY fun t92 EP =>
 next [t92,(aa xs 1),(aa dU 0),(aa xs 3),(aa xs 4)] EP) (
 p9 [a0,(aa xs 0),(aa xs 1),(aa og 0)] iY fun t99 lg =>
 fI t99 0 fun mg =>
 fI t99 1 fun mi =>
 af .sub mg (aa xs 0) fun t105 =>
 af .sub (aa xs 1) mg fun yA =>
 af .quo t21 (N .i64 8) fun BB =>
 af .lss t105 yA fun xq =>
 ay xq (
 af .geq t105 BB fun t116 =>
 p10 [a0,(aa xs 0),mg,(aa dU 0)] lg fun Ak oV =>
 af .add mg (N .i64 1) fun Gp =>
 next [Gp,(aa xs 1),(aa dU 0),t116,mi] oV) (
 af .geq yA BB fun zZ =>
 af .add mg (N .i64 1) fun yE =>
 p10 [a0,yE,(aa xs 1),(aa dU 0)] lg fun Ou oO =>
 next [(aa xs 0),mg,(aa dU 0),zZ,mi] oO)))))))) [a1,a2,a3,(Bo true),(Bo true)] M0
def xA (p1 p2:au) (a0:AV) (M0:RM) (Q:ak) : Prop :=
 ay (Bo false) (
 iE .u32 a0 fun t4 =>
 p1 [t4] M0 fun t5 M =>
 Q t5 M) (
 p2 [a0] M0 fun t7 M_0 =>
 Q t7 M_0)
def zY (p1:au) (a0 a1:AV) (M0:RM) (Q:ak) : Prop :=
 p1 [a0] M0 fun t6 M =>
 ah t6 true (fun k=>k a1 M) (fun k=>k .undef M) fun t8 M_0 =>
 ah t6 true (fun k_1=>p1 [t8] M_0 fun t9 M_2 =>
 k_1 t9 M_2) (fun k=>k .undef M_0) fun ahz M_4 =>
 ah t6 true (fun k_5=>eG ahz fun bH =>
 k_5 bH M_4) (fun k=>k .undef M_4) fun awH M_7 =>
 aJ t6 awH (Bo false) fun bV =>
 ah bV false (fun k_8=>k_8 a0 M_7) (fun k=>k .undef M_7) fun bf M_9 =>
 ah bV false (fun pz=>pz a1 M_9) (fun k=>k .undef M_9) fun t14 dD =>
 ah bV false (fun mq=>af .lss bf t14 fun t15 =>
 mq t15 dD) (fun k=>k .undef dD) fun apF eP =>
 aJ bV (Bo true) apF fun t16 =>
 Q t16 eP
def vZ (a0:AV) (M0:RM) (Q:ak) : Prop :=
 af .neq a0 a0 fun t5 =>
 Q t5 M0
def gq (p1:au) (a0 a1 a2:AV) (M0:RM) (Q:ak) : Prop :=
 af .add a1 (N .i64 1) fun t9 =>
 aV (fun next xs M =>
 af .lss (aa xs 0) a2 fun t12 =>
 ay t12 (
 aV (fun xk dz M_2 =>
 af .gtr (aa dz 0) a1 fun t18 =>
 ae t18 true (fun k=>k a0 M_2 none) (fun k=>k .undef M_2 none) fun t20 M_3 b =>
 ae t18 true (fun k_4=>k_4 (aa dz 0) M_3 none) (fun k=>k .undef M_3 none) fun t21 M_5 b_6 =>
 ae t18 true (fun k_7=>ax t20 t21 1 fun t22 =>
 k_7 t22 M_5 none) (fun k=>k .undef M_5 none) fun avb M_9 ap7 =>
 ae t18 true (fun jG=>ai M_9 avb fun t23 =>
 jG t23 M_9 none) (fun k=>k .undef M_9 none) fun arn eu ah2 =>
 ae t18 true (fun sD=>sD a0 eu none) (fun k=>k .undef eu none) fun t24 dh Bw =>
 ae t18 true (fun mh=>mh (aa dz 0) dh none) (fun k=>k .undef dh none) fun t25 dE Xb =>
 ae t18 true (fun yl=>af .sub t25 (N .i64 1) fun t26 =>
 yl t26 dE none) (fun k=>k .undef dE none) fun ap2 lL Sq =>
 ae t18 true (fun nz=>ax t24 ap2 1 fun t27 =>
 nz t27 lL none) (fun k=>k .undef lL none) fun anG gp acR =>
 ae t18 true (fun Pj=>ai gp anG fun t28 =>
 Pj t28 gp none) (fun k=>k .undef gp none) fun as3 iy anl =>
 ah t18 true (fun CQ=>p1 [arn,as3] iy fun t29 eY =>
 CQ t29 eY) (fun k=>k .undef iy) fun anS jh =>
 aJ t18 anS (Bo false) fun t30 =>
 ay t30 (
 af .sub (aa dz 0) (N .i64 1) fun t37 =>
 af .sub (aa dz 0) (N .i64 1) fun t40 =>
 ax a0 t40 1 fun t41 =>
 ai jh t41 fun t42 =>
 ax a0 (aa dz 0) 1 fun t45 =>
 ai jh t45 fun t46 =>
 ax a0 (aa dz 0) 1 fun t47 =>
 aL jh t47 t42 1 fun dZ =>
 ax a0 t37 1 fun t48 =>
 aL dZ t48 t46 1 fun nZ =>
 af .sub (aa dz 0) (N .i64 1) fun t32 =>
 xk [t32] nZ) (
 af .add (aa xs 0) (N .i64 1) fun t14 =>
 next [t14] jh)) [(aa xs 0)] M) (
 Q (.tup []) M)) [t9] M0
def nA (p1:au) (a0 a1 a2:AV) (M0:RM) (Q:ak) : Prop :=
 af .sub a2 a1 fun t14 =>
 af .sub t14 (N .i64 1) fun t16 =>
 af .quo t16 (N .i64 2) fun t17 =>
 aV (fun next xs M =>
 af .geq (aa xs 0) (N .i64 0) fun t19 =>
 ay t19 (
 p1 [a0,(aa xs 0),t14,a1] M fun t26 M_0 =>
 af .sub (aa xs 0) (N .i64 1) fun t21 =>
 next [t21] M_0) (
 af .sub t14 (N .i64 1) fun t28 =>
 aV (fun BP gJ M_3 =>
 af .geq (aa gJ 0) (N .i64 0) fun t30 =>
 ay t30 (
 af .add a1 (aa gJ 0) fun t38 =>
 af .add a1 (aa gJ 0) fun t42 =>
 ax a0 t42 1 fun t43 =>
 ai M_3 t43 fun t44 =>
 ax a0 a1 1 fun t47 =>
 ai M_3 t47 fun t48 =>
 ax a0 a1 1 fun t49 =>
 aL M_3 t49 t44 1 fun M_4 =>
 ax a0 t38 1 fun t50 =>
 aL M_4 t50 t48 1 fun M_5 =>
 p1 [a0,(N .i64 0),(aa gJ 0),a1] M_5 fun t55 M_6 =>
 af .sub (aa gJ 0) (N .i64 1) fun t32 =>
 BP [t32] M_6) (
 Q (.tup []) M_3)) [t28] M)) [t17] M0
def kH (p1:Nat) (p2 p3:au) (a0 a1 a2:AV) (M0:RM) (Q:ak) : Prop :=
 af .sub a2 a1 fun bf =>
 af .geq bf (N .i64 8) fun t15 =>
 ay t15 (
 iE .u64 bf fun t17 =>
 df (.row [(N .u64 0)] false p1 0) (fun b=>.ptr b 0) M0 fun t7 M =>
 aL M t7 t17 1 fun M_0 =>
 p2 [bf] M_0 fun t19 M_1 =>
 af .quo bf (N .i64 4) fun t22 =>
 af .mul t22 (N .i64 2) fun t23 =>
 af .add a1 t23 fun t24 =>
 af .sub t24 (N .i64 1) fun t25 =>
 aV (fun next xs M_2 =>
 af .quo bf (N .i64 4) fun t29 =>
 af .mul t29 (N .i64 2) fun t30 =>
 af .add a1 t30 fun t31 =>
 af .add t31 (N .i64 1) fun t32 =>
 af .leq (aa xs 0) t32 fun t33 =>
 ay t33 (
 ed (fun J =>
 p3 [t7] M_2 fun t36 M_3 =>
 af .sub t19 (N .u64 1) fun t38 =>
 af .and t36 t38 fun t39 =>
 iE .i64 t39 fun t40 =>
 ed (fun J_4 =>
 af .geq t40 bf fun t43 =>
 ay t43 (
 af .sub t40 bf fun t46 =>
 J_4 [t46] M_3) (
 J_4 [t40] M_3)) (fun JR M_6 =>
 af .add a1 (aa JR 0) fun t52 =>
 af .add a1 (aa JR 0) fun t56 =>
 ax a0 t56 1 fun t57 =>
 ai M_6 t57 fun t58 =>
 ax a0 (aa xs 0) 1 fun t61 =>
 ai M_6 t61 fun t62 =>
 ax a0 (aa xs 0) 1 fun t63 =>
 aL M_6 t63 t58 1 fun M_7 =>
 ax a0 t52 1 fun t64 =>
 aL M_7 t64 t62 1 fun M_8 =>
 J [] M_8)) (fun H5 dm =>
 af .add (aa xs 0) (N .i64 1) fun t35 =>
 next [t35] dm)) (
 Q (.tup []) M_2)) [t25] M_1) (
 Q (.tup []) M0)
def lV (p1:Nat) (p2 p3:au) (a0 a1 a2:AV) (M0:RM) (Q:ak) : Prop :=
 af .sub a2 a1 fun t15 =>
 df (.row [(N .i64 0)] false p1 0) (fun b=>.ptr b 0) M0 fun t9 M =>
 af .quo t15 (N .i64 4) fun t18 =>
 af .mul t18 (N .i64 1) fun t19 =>
 af .add a1 t19 fun t20 =>
 af .quo t15 (N .i64 4) fun t23 =>
 af .mul t23 (N .i64 2) fun t24 =>
 af .add a1 t24 fun t25 =>
 af .quo t15 (N .i64 4) fun t28 =>
 af .mul t28 (N .i64 3) fun t29 =>
 af .add a1 t29 fun t30 =>
 ed (fun J =>
 af .geq t15 (N .i64 8) fun t32 =>
 ay t32 (
 ed (fun J_0 =>
 af .geq t15 (N .i64 50) fun t34 =>
 ay t34 (
 p2 [a0,t20,t9] M fun t37 M_1 =>
 p2 [a0,t25,t9] M_1 fun t40 M_2 =>
 p2 [a0,t30,t9] M_2 fun t43 M_3 =>
 J_0 [t37,t40,t43] M_3) (
 J_0 [t20,t25,t30] M)) (fun xs M_4 =>
 p3 [a0,(aa xs 0),(aa xs 1),(aa xs 2),t9] M_4 fun t48 M_5 =>
 J [t48] M_5)) (
 J [t25] M)) (fun Ns M_7 =>
 ai M_7 t9 fun t49 =>
 af .eql t49 (N .i64 0) fun t52 =>
 ay t52 (
 Q (.tup [(aa Ns 0),(N .i64 1)]) M_7) (
 af .eql t49 (N .i64 12) fun t55 =>
 ay t55 (
 Q (.tup [(aa Ns 0),(N .i64 2)]) M_7) (
 Q (.tup [(aa Ns 0),(N .i64 0)]) M_7)))
def kV (a0 a1 a2:AV) (M0:RM) (Q:ak) : Prop :=
 af .sub a2 (N .i64 1) fun bH =>
 aV (fun next xs M =>
 af .lss (aa xs 0) (aa xs 1) fun bf =>
 ay bf (
 ax a0 (aa xs 1) 1 fun t20 =>
 ai M t20 fun t21 =>
 ax a0 (aa xs 0) 1 fun t24 =>
 ai M t24 fun t25 =>
 ax a0 (aa xs 0) 1 fun t26 =>
 aL M t26 t21 1 fun M_0 =>
 ax a0 (aa xs 1) 1 fun t27 =>
 aL M_0 t27 t25 1 fun M_1 =>
 af .add (aa xs 0) (N .i64 1) fun t29 =>
 af .sub (aa xs 1) (N .i64 1) fun t31 =>
 next [t29,t31] M_1) (
 Q (.tup []) M)) [a1,bH] M0
def iR (p1:au) (a0 a1 a2:AV) (M0:RM) (Q:ak) : Prop :=
 af .add a1 (N .i64 1) fun t12 =>
 aV (fun next xs M =>
 af .lss (aa xs 1) (N .i64 5) fun t14 =>
 ay t14 (
 ed (fun J =>
 aV (fun xk dz M_2 =>
 af .lss (aa dz 0) a2 fun t19 =>
 ae t19 true (fun k=>k a0 M_2 none) (fun k=>k .undef M_2 none) fun t21 M_3 b =>
 ae t19 true (fun k_4=>k_4 (aa dz 0) M_3 none) (fun k=>k .undef M_3 none) fun t22 M_5 b_6 =>
 ae t19 true (fun k_7=>ax t21 t22 1 fun t23 =>
 k_7 t23 M_5 none) (fun k=>k .undef M_5 none) fun av7 M_9 ap7 =>
 ae t19 true (fun jG=>ai M_9 av7 fun t24 =>
 jG t24 M_9 none) (fun k=>k .undef M_9 none) fun aqQ eu ah2 =>
 ae t19 true (fun sD=>sD a0 eu none) (fun k=>k .undef eu none) fun t25 dh Bw =>
 ae t19 true (fun mh=>mh (aa dz 0) dh none) (fun k=>k .undef dh none) fun t26 dE Xb =>
 ae t19 true (fun yl=>af .sub t26 (N .i64 1) fun t27 =>
 yl t27 dE none) (fun k=>k .undef dE none) fun amP lL Sq =>
 ae t19 true (fun nz=>ax t25 amP 1 fun t28 =>
 nz t28 lL none) (fun k=>k .undef lL none) fun aqv gp acR =>
 ae t19 true (fun Pj=>ai gp aqv fun t29 =>
 Pj t29 gp none) (fun k=>k .undef gp none) fun apT iy anl =>
 ah t19 true (fun CQ=>p1 [aqQ,apT] iy fun t30 eY =>
 CQ t30 eY) (fun k=>k .undef iy) fun anQ jh =>
 ae t19 true (fun ai1=>eG anQ fun t31 =>
 ai1 t31 jh none) (fun k=>k .undef jh none) fun aum nT ay3 =>
 aJ t19 aum (Bo false) fun t32 =>
 ay t32 (
 af .add (aa dz 0) (N .i64 1) fun t34 =>
 xk [t34] nT) (
 af .eql (aa dz 0) a2 fun t37 =>
 ay t37 (
 Q (Bo true) nT) (
 af .sub a2 a1 fun t40 =>
 af .lss t40 (N .i64 50) fun t41 =>
 ay t41 (
 Q (Bo false) nT) (
 af .sub (aa dz 0) (N .i64 1) fun t46 =>
 af .sub (aa dz 0) (N .i64 1) fun t49 =>
 ax a0 t49 1 fun t50 =>
 ai nT t50 fun t51 =>
 ax a0 (aa dz 0) 1 fun t54 =>
 ai nT t54 fun t55 =>
 ax a0 (aa dz 0) 1 fun t56 =>
 aL nT t56 t51 1 fun gG =>
 ax a0 t46 1 fun t57 =>
 aL gG t57 t55 1 fun nS =>
 ed (fun ai6 =>
 af .sub (aa dz 0) a1 fun t60 =>
 af .geq t60 (N .i64 2) fun t61 =>
 ay t61 (
 af .sub (aa dz 0) (N .i64 1) fun t63 =>
 aV (fun alN Dn gN =>
 af .geq (aa Dn 0) (N .i64 1) fun t65 =>
 ay t65 (
 ax a0 (aa Dn 0) 1 fun t70 =>
 ai gN t70 fun t71 =>
 af .sub (aa Dn 0) (N .i64 1) fun t74 =>
 ax a0 t74 1 fun t75 =>
 ai gN t75 fun t76 =>
 p1 [t71,t76] gN fun t77 jU =>
 eG t77 fun t78 =>
 ay t78 (
 ai6 [] jU) (
 af .sub (aa Dn 0) (N .i64 1) fun t83 =>
 af .sub (aa Dn 0) (N .i64 1) fun t86 =>
 ax a0 t86 1 fun t87 =>
 ai jU t87 fun t88 =>
 ax a0 (aa Dn 0) 1 fun t91 =>
 ai jU t91 fun t92 =>
 ax a0 (aa Dn 0) 1 fun t93 =>
 aL jU t93 t88 1 fun kL =>
 ax a0 t83 1 fun t94 =>
 aL kL t94 t92 1 fun jT =>
 af .sub (aa Dn 0) (N .i64 1) fun t67 =>
 alN [t67] jT)) (
 ai6 [] gN)) [t63] nS) (
 ai6 [] nS)) (fun xs_50 Nz =>
 af .sub a2 (aa dz 0) fun t97 =>
 af .geq t97 (N .i64 2) fun t98 =>
 ay t98 (
 af .add (aa dz 0) (N .i64 1) fun mg =>
 aV (fun alA Dl j5 =>
 af .lss (aa Dl 0) a2 fun vH =>
 ay vH (
 ax a0 (aa Dl 0) 1 fun yA =>
 ai j5 yA fun t109 =>
 af .sub (aa Dl 0) (N .i64 1) fun rZ =>
 ax a0 rZ 1 fun xq =>
 ai j5 xq fun Ir =>
 p1 [t109,Ir] j5 fun Xf nR =>
 eG Xf fun t116 =>
 ay t116 (
 J [(aa dz 0)] nR) (
 af .sub (aa Dl 0) (N .i64 1) fun Ak =>
 af .sub (aa Dl 0) (N .i64 1) fun t124 =>
 ax a0 t124 1 fun oU =>
 ai nR oU fun zZ =>
 ax a0 (aa Dl 0) 1 fun yE =>
 ai nR yE fun t130 =>
 ax a0 (aa Dl 0) 1 fun t131 =>
 aL nR t131 zZ 1 fun qb =>
 ax a0 Ak 1 fun Ou =>
 aL qb Ou t130 1 fun iY =>
 af .add (aa Dl 0) (N .i64 1) fun t105 =>
 alA [t105] iY)) (
 J [(aa dz 0)] j5)) [mg] Nz) (
 J [(aa dz 0)] Nz)))))) [(aa xs 0)] M) (fun axh EP =>
 af .add (aa xs 1) (N .i64 1) fun t16 =>
 next [(aa axh 0),t16] EP)) (
 Q (Bo false) M)) [t12,(N .i64 0)] M0
def jZ (p1:au) (a0 a1 a2 a3:AV) (M0:RM) (Q:ak) : Prop :=
 ax a0 a3 1 fun t17 =>
 ai M0 t17 fun t18 =>
 ax a0 a1 1 fun t21 =>
 ai M0 t21 fun t22 =>
 ax a0 a1 1 fun t23 =>
 aL M0 t23 t18 1 fun M =>
 ax a0 a3 1 fun t24 =>
 aL M t24 t22 1 fun M_0 =>
 af .add a1 (N .i64 1) fun t26 =>
 af .sub a2 (N .i64 1) fun t28 =>
 aV (fun next xs M_1 =>
 aV (fun xh dU M_4 =>
 af .leq (aa dU 0) (aa xs 1) fun t31 =>
 ae t31 true (fun k=>k a0 M_4 none) (fun k=>k .undef M_4 none) fun t33 M_5 b =>
 ae t31 true (fun k_6=>k_6 a1 M_5 none) (fun k=>k .undef M_5 none) fun t34 M_7 b_8 =>
 ae t31 true (fun k_9=>ax t33 t34 1 fun t35 =>
 k_9 t35 M_7 none) (fun k=>k .undef M_7 none) fun asZ dD Nb =>
 ae t31 true (fun nH=>ai dD asZ fun t36 =>
 nH t36 dD none) (fun k=>k .undef dD none) fun aqV fP WV =>
 ae t31 true (fun jV=>jV a0 fP none) (fun k=>k .undef fP none) fun t37 bZ Lb =>
 ae t31 true (fun iU=>iU (aa dU 0) bZ none) (fun k=>k .undef bZ none) fun t38 dN MX =>
 ae t31 true (fun kY=>ax t37 t38 1 fun t39 =>
 kY t39 dN none) (fun k=>k .undef dN none) fun asN iI Uh =>
 ae t31 true (fun rT=>ai iI asN fun t40 =>
 rT t40 iI none) (fun k=>k .undef iI none) fun aoS fV Nq =>
 ah t31 true (fun kX=>p1 [aqV,aoS] fV fun t41 iZ =>
 kX t41 iZ) (fun k=>k .undef fV) fun asH eY =>
 ae t31 true (fun kZ=>eG asH fun t42 =>
 kZ t42 eY none) (fun k=>k .undef eY none) fun anD dZ Pf =>
 aJ t31 anD (Bo false) fun t43 =>
 ay t43 (
 af .add (aa dU 0) (N .i64 1) fun t45 =>
 xh [t45] dZ) (
 aV (fun Uo nO gG =>
 af .leq (aa dU 0) (aa nO 0) fun t48 =>
 ae t48 true (fun yR=>yR a0 gG none) (fun k=>k .undef gG none) fun t50 kK anf =>
 ae t48 true (fun Nk=>Nk a1 kK none) (fun k=>k .undef kK none) fun t51 gN ahm =>
 ae t48 true (fun NH=>ax t50 t51 1 fun t52 =>
 NH t52 gN none) (fun k=>k .undef gN none) fun ang jW Wp =>
 ae t48 true (fun BX=>ai jW ang fun t53 =>
 BX t53 jW none) (fun k=>k .undef jW none) fun asf j5 acy =>
 ae t48 true (fun yg=>yg a0 j5 none) (fun k=>k .undef j5 none) fun t54 iY OE =>
 ae t48 true (fun vQ=>vQ (aa nO 0) iY none) (fun k=>k .undef iY none) fun t55 lg YH =>
 ae t48 true (fun yG=>ax t54 t55 1 fun t56 =>
 yG t56 lg none) (fun k=>k .undef lg none) fun as1 qG af2 =>
 ae t48 true (fun Y6=>ai qG as1 fun t57 =>
 Y6 t57 qG none) (fun k=>k .undef qG none) fun anc Fb ayz =>
 ah t48 true (fun NW=>p1 [asf,anc] Fb fun t58 Ah =>
 NW t58 Ah) (fun k=>k .undef Fb) fun asF pY =>
 aJ t48 asF (Bo false) fun t59 =>
 ay t59 (
 af .sub (aa nO 0) (N .i64 1) fun t61 =>
 Uo [t61] pY) (
 af .gtr (aa dU 0) (aa nO 0) fun t64 =>
 ay t64 (
 Q (aa dU 0) pY) (
 ax a0 (aa nO 0) 1 fun t71 =>
 ai pY t71 fun t72 =>
 ax a0 (aa dU 0) 1 fun t75 =>
 ai pY t75 fun t76 =>
 ax a0 (aa dU 0) 1 fun t77 =>
 aL pY t77 t72 1 fun GA =>
 ax a0 (aa nO 0) 1 fun t78 =>
 aL GA t78 t76 1 fun Hg =>
 af .add (aa dU 0) (N .i64 1) fun t80 =>
 af .sub (aa nO 0) (N .i64 1) fun t82 =>
 next [t80,t82] Hg))) [(aa xs 1)] dZ)) [(aa xs 0)] M_1) [t26,t28] M_0
def mJ (p1:au) (a0 a1 a2 a3:AV) (M0:RM) (Q:ak) : Prop :=
 ax a0 a3 1 fun t18 =>
 ai M0 t18 fun t19 =>
 ax a0 a1 1 fun t22 =>
 ai M0 t22 fun t23 =>
 ax a0 a1 1 fun t24 =>
 aL M0 t24 t19 1 fun M =>
 ax a0 a3 1 fun t25 =>
 aL M t25 t23 1 fun M_0 =>
 af .add a1 (N .i64 1) fun t27 =>
 af .sub a2 (N .i64 1) fun t29 =>
 aV (fun next xs M_1 =>
 af .leq (aa xs 0) t29 fun t32 =>
 ae t32 true (fun k=>k a0 M_1 none) (fun k=>k .undef M_1 none) fun t34 M_2 b =>
 ae t32 true (fun k_3=>k_3 (aa xs 0) M_2 none) (fun k=>k .undef M_2 none) fun t35 M_4 b_5 =>
 ae t32 true (fun k_6=>ax t34 t35 1 fun t36 =>
 k_6 t36 M_4 none) (fun k=>k .undef M_4 none) fun aw6 M_8 b_9 =>
 ae t32 true (fun pz=>ai M_8 aw6 fun t37 =>
 pz t37 M_8 none) (fun k=>k .undef M_8 none) fun aqh eO NF =>
 ae t32 true (fun iJ=>iJ a0 eO none) (fun k=>k .undef eO none) fun t38 fP WV =>
 ae t32 true (fun jV=>jV a1 fP none) (fun k=>k .undef fP none) fun t39 bZ Lb =>
 ae t32 true (fun iU=>ax t38 t39 1 fun t40 =>
 iU t40 bZ none) (fun k=>k .undef bZ none) fun arY fJ TK =>
 ae t32 true (fun sW=>ai fJ arY fun t41 =>
 sW t41 fJ none) (fun k=>k .undef fJ none) fun ash jo Nn =>
 ah t32 true (fun lh=>p1 [aqh,ash] jo fun t42 fV =>
 lh t42 fV) (fun k=>k .undef jo) fun ao3 iy =>
 aJ t32 ao3 (Bo false) fun t43 =>
 ay t43 (
 af .add (aa xs 0) (N .i64 1) fun t45 =>
 next [t45] iy) (
 aV (fun amc y9 eY =>
 af .leq (aa xs 0) (aa y9 0) fun t48 =>
 ae t48 true (fun kZ=>kZ a0 eY none) (fun k=>k .undef eY none) fun t50 jh aiG =>
 ae t48 true (fun rY=>rY (aa y9 0) jh none) (fun k=>k .undef jh none) fun t51 nT ay3 =>
 ae t48 true (fun yu=>ax t50 t51 1 fun t52 =>
 yu t52 nT none) (fun k=>k .undef nT none) fun amN kK anf =>
 ae t48 true (fun Nk=>ai kK amN fun t53 =>
 Nk t53 kK none) (fun k=>k .undef kK none) fun arP jU auf =>
 ae t48 true (fun Oi=>Oi a0 jU none) (fun k=>k .undef jU none) fun t54 jW Wp =>
 ae t48 true (fun BX=>BX a1 jW none) (fun k=>k .undef jW none) fun t55 nU af1 =>
 ae t48 true (fun OV=>ax t54 t55 1 fun t56 =>
 OV t56 nU none) (fun k=>k .undef nU none) fun apo iY OE =>
 ae t48 true (fun vQ=>ai iY apo fun t57 =>
 vQ t57 iY none) (fun k=>k .undef iY none) fun asi oV ar4 =>
 ah t48 true (fun XE=>p1 [arP,asi] oV fun t58 qG =>
 XE t58 qG) (fun k=>k .undef oV) fun aoV uF =>
 ae t48 true (fun OW=>eG aoV fun t59 =>
 OW t59 uF none) (fun k=>k .undef uF none) fun atC pq aiV =>
 aJ t48 atC (Bo false) fun t60 =>
 ay t60 (
 af .sub (aa y9 0) (N .i64 1) fun t62 =>
 amc [t62] pq) (
 af .gtr (aa xs 0) (aa y9 0) fun t65 =>
 ay t65 (
 ax a0 a1 1 fun t72 =>
 ai pq t72 fun t73 =>
 ax a0 (aa y9 0) 1 fun t76 =>
 ai pq t76 fun t77 =>
 ax a0 (aa y9 0) 1 fun t78 =>
 aL pq t78 t73 1 fun Ah =>
 ax a0 a1 1 fun t79 =>
 aL Ah t79 t77 1 fun yB =>
 Q (.tup [(aa y9 0),(Bo true)]) yB) (
 ax a0 (aa y9 0) 1 fun t87 =>
 ai pq t87 fun t88 =>
 ax a0 (aa xs 0) 1 fun t91 =>
 ai pq t91 fun t92 =>
 ax a0 (aa xs 0) 1 fun t93 =>
 aL pq t93 t88 1 fun pY =>
 ax a0 (aa y9 0) 1 fun t94 =>
 aL pY t94 t92 1 fun GA =>
 af .add (aa xs 0) (N .i64 1) fun t96 =>
 af .sub (aa y9 0) (N .i64 1) fun t98 =>
 aV (fun akZ acJ Fq =>
 aV (fun akE Di yc =>
 af .leq (aa Di 0) (aa acJ 1) fun mi =>
 ae mi true (fun OM=>OM a0 yc none) (fun k=>k .undef yc none) fun vH Hm b_83 =>
 ae mi true (fun ahD=>ahD (aa Di 0) Hm none) (fun k=>k .undef Hm none) fun Gj xH arp =>
 ae mi true (fun O9=>ax vH Gj 1 fun t105 =>
 O9 t105 xH none) (fun k=>k .undef xH none) fun alQ q9 aiw =>
 ae mi true (fun Xo=>ai q9 alQ fun Hw =>
 Xo Hw q9 none) (fun k=>k .undef q9 none) fun ak6 Cy apu =>
 ae mi true (fun NG=>NG a0 Cy none) (fun k=>k .undef Cy none) fun t107 rf aqH =>
 ae mi true (fun Nu=>Nu a1 rf none) (fun k=>k .undef rf none) fun yA Fs ajR =>
 ae mi true (fun GL=>ax t107 yA 1 fun t109 =>
 GL t109 Fs none) (fun k=>k .undef Fs none) fun af7 xz akz =>
 ae mi true (fun Gu=>ai xz af7 fun BB =>
 Gu BB xz none) (fun k=>k .undef xz none) fun agO uY axp =>
 ah mi true (fun Il=>p1 [ak6,agO] uY fun Al pM =>
 Il Al pM) (fun k=>k .undef uY) fun ahQ Gh =>
 aJ mi ahQ (Bo false) fun rZ =>
 ay rZ (
 af .add (aa Di 0) (N .i64 1) fun Ir =>
 akE [Ir] Gh) (
 aV (fun aij uU DL =>
 af .leq (aa Di 0) (aa uU 0) fun t117 =>
 ae t117 true (fun acw=>acw a0 DL none) (fun k=>k .undef DL none) fun t119 QD avC =>
 ae t117 true (fun QR=>QR (aa uU 0) QD none) (fun k=>k .undef QD none) fun EL qC ajX =>
 ae t117 true (fun P5=>ax t119 EL 1 fun Ak =>
 P5 Ak qC none) (fun k=>k .undef qC none) fun ajo qO aj8 =>
 ae t117 true (fun Qy=>ai qO ajo fun Kr =>
 Qy Kr qO none) (fun k=>k .undef qO none) fun agH Eh av1 =>
 ae t117 true (fun P8=>P8 a0 Eh none) (fun k=>k .undef Eh none) fun Gp VL b_132 =>
 ae t117 true (fun avG=>avG a1 VL none) (fun k=>k .undef VL none) fun t124 Qz b_135 =>
 ae t117 true (fun ada=>ax Gp t124 1 fun oU =>
 ada oU Qz none) (fun k=>k .undef Qz none) fun aiT AO aw4 =>
 ae t117 true (fun Rz=>ai AO aiT fun zZ =>
 Rz zZ AO none) (fun k=>k .undef AO none) fun agw Ru b_143 =>
 ah t117 true (fun ade=>p1 [agH,agw] Ru fun t127 VU =>
 ade t127 VU) (fun k=>k .undef Ru) fun ait akh =>
 ae t117 true (fun axl=>eG ait fun OU =>
 axl OU akh none) (fun k=>k .undef akh none) fun aik zg b_151 =>
 aJ t117 aik (Bo false) fun yE =>
 ay yE (
 af .sub (aa uU 0) (N .i64 1) fun t131 =>
 aij [t131] zg) (
 af .gtr (aa Di 0) (aa uU 0) fun KM =>
 ay KM (
 ax a0 a1 1 fun t159 =>
 ai zg t159 fun t160 =>
 ax a0 (aa uU 0) 1 fun azB =>
 ai zg azB fun t164 =>
 ax a0 (aa uU 0) 1 fun azh =>
 aL zg azh t160 1 fun vg =>
 ax a0 a1 1 fun ayi =>
 aL vg ayi t164 1 fun avI =>
 Q (.tup [(aa uU 0),(Bo false)]) avI) (
 ax a0 (aa uU 0) 1 fun t141 =>
 ai zg t141 fun ahn =>
 ax a0 (aa Di 0) 1 fun t145 =>
 ai zg t145 fun t146 =>
 ax a0 (aa Di 0) 1 fun aAw =>
 aL zg aAw ahn 1 fun adv =>
 ax a0 (aa uU 0) 1 fun t148 =>
 aL adv t148 t146 1 fun Gt =>
 af .add (aa Di 0) (N .i64 1) fun ahO =>
 af .sub (aa uU 0) (N .i64 1) fun t152 =>
 akZ [ahO,t152] Gt))) [(aa acJ 1)] Gh)) [(aa acJ 0)] Fq) [t96,t98] GA))) [t29] iy)) [t27] M_0
def uC (a0:AV) (M0:RM) (Q:ak) : Prop :=
 ed (fun J =>
 af .geq a0 (N .u64 4294967296) fun t4 =>
 ay t4 (
 BH .shr a0 (N .u64 32) fun t6 =>
 J [t6,(N .i64 32)] M0) (
 J [a0,(N .i64 0)] M0)) (fun xs M =>
 ed (fun J_0 =>
 af .geq (aa xs 0) (N .u64 65536) fun t8 =>
 ay t8 (
 BH .shr (aa xs 0) (N .u64 16) fun bH =>
 af .add (aa xs 1) (N .i64 16) fun t12 =>
 J_0 [bH,t12] M) (
 J_0 [(aa xs 0),(aa xs 1)] M)) (fun dz M_2 =>
 ed (fun J_3 =>
 af .geq (aa dz 0) (N .u64 256) fun t14 =>
 ay t14 (
 BH .shr (aa dz 0) (N .u64 8) fun t16 =>
 af .add (aa dz 1) (N .i64 8) fun t18 =>
 J_3 [t16,t18] M_2) (
 J_3 [(aa dz 0),(aa dz 1)] M_2)) (fun Ag M_5 =>
 iE .u8 (aa Ag 0) fun t21 =>
 Yh (St [0,1,2,2,3,3,3,3,4,4,4,4,4,4,4,4,5,5,5,5,5,5,5,5,5,5,5,5,5,5,5,5,6,6,6,6,6,6,6,6,6,6,6,6,6,6,6,6,6,6,6,6,6,6,6,6,6,6,6,6,6,6,6,6,7,7,7,7,7,7,7,7,7,7,7,7,7,7,7,7,7,7,7,7,7,7,7,7,7,7,7,7,7,7,7,7,7,7,7,7,7,7,7,7,7,7,7,7,7,7,7,7,7,7,7,7,7,7,7,7,7,7,7,7,7,7,7,7,8,8,8,8,8,8,8,8,8,8,8,8,8,8,8,8,8,8,8,8,8,8,8,8,8,8,8,8,8,8,8,8,8,8,8,8,8,8,8,8,8,8,8,8,8,8,8,8,8,8,8,8,8,8,8,8,8,8,8,8,8,8,8,8,8,8,8,8,8,8,8,8,8,8,8,8,8,8,8,8,8,8,8,8,8,8,8,8,8,8,8,8,8,8,8,8,8,8,8,8,8,8,8,8,8,8,8,8,8,8,8,8,8,8,8,8,8,8,8,8,8,8,8,8,8,8,8,8]) t21 fun t22 =>
 iE .i64 t22 fun t23 =>
 af .add (aa Ag 1) t23 fun t24 =>
 Q t24 M_5)))
def tK (a0:AV) (M0:RM) (Q:ak) : Prop :=
 af .neq a0 a0 fun t5 =>
 Q t5 M0
def ni (p1:au) (a0 a1 a2 a3:AV) (M0:RM) (Q:ak) : Prop :=
 aV (fun next xs M =>
 af .mul (N .i64 2) (aa xs 0) fun t12 =>
 af .add t12 (N .i64 1) fun bf =>
 af .geq bf a2 fun t16 =>
 ay t16 (
 Q (.tup []) M) (
 ed (fun J =>
 af .add bf (N .i64 1) fun t18 =>
 af .lss t18 a2 fun t20 =>
 ae t20 true (fun k=>k a0 M none) (fun k=>k .undef M none) fun t22 M_0 b =>
 ae t20 true (fun k_1=>k_1 a3 M_0 none) (fun k=>k .undef M_0 none) fun t23 M_2 b_3 =>
 ae t20 true (fun k_4=>k_4 bf M_2 none) (fun k=>k .undef M_2 none) fun t24 M_5 b_6 =>
 ae t20 true (fun k_7=>af .add t23 t24 fun t25 =>
 k_7 t25 M_5 none) (fun k=>k .undef M_5 none) fun aww M_9 ap7 =>
 ae t20 true (fun jG=>ax t22 aww 1 fun t26 =>
 jG t26 M_9 none) (fun k=>k .undef M_9 none) fun atq eu ah2 =>
 ae t20 true (fun sD=>ai eu atq fun t27 =>
 sD t27 eu none) (fun k=>k .undef eu none) fun aoO kG azr =>
 ae t20 true (fun vT=>vT a0 kG none) (fun k=>k .undef kG none) fun t28 j6 aho =>
 ae t20 true (fun oK=>oK a3 j6 none) (fun k=>k .undef j6 none) fun t29 lL Sq =>
 ae t20 true (fun nz=>nz bf lL none) (fun k=>k .undef lL none) fun t30 jo Nn =>
 ae t20 true (fun lh=>af .add t29 t30 fun t31 =>
 lh t31 jo none) (fun k=>k .undef jo none) fun Yn eU adl =>
 ae t20 true (fun rP=>af .add Yn (N .i64 1) fun t32 =>
 rP t32 eU none) (fun k=>k .undef eU none) fun Wq eY acp =>
 ae t20 true (fun BU=>ax t28 Wq 1 fun t33 =>
 BU t33 eY none) (fun k=>k .undef eY none) fun aoL nZ agk =>
 ae t20 true (fun BF=>ai nZ aoL fun t34 =>
 BF t34 nZ none) (fun k=>k .undef nZ none) fun Xi nS ahg =>
 ah t20 true (fun xY=>p1 [aoO,Xi] nS fun t35 kE =>
 xY t35 kE) (fun k=>k .undef nS) fun aqD jU =>
 aJ t20 aqD (Bo false) fun t36 =>
 ay t36 (
 af .add bf (N .i64 1) fun t38 =>
 J [t38] jU) (
 J [bf] jU)) (fun AX jT =>
 af .add a3 (aa xs 0) fun t42 =>
 ax a0 t42 1 fun t43 =>
 ai jT t43 fun t44 =>
 af .add a3 (aa AX 0) fun t48 =>
 ax a0 t48 1 fun t49 =>
 ai jT t49 fun t50 =>
 p1 [t44,t50] jT fun t51 jW =>
 eG t51 fun t52 =>
 ay t52 (
 Q (.tup []) jW) (
 af .add a3 (aa xs 0) fun t56 =>
 af .add a3 (aa AX 0) fun t60 =>
 af .add a3 (aa AX 0) fun t64 =>
 ax a0 t64 1 fun t65 =>
 ai jW t65 fun t66 =>
 af .add a3 (aa xs 0) fun t70 =>
 ax a0 t70 1 fun t71 =>
 ai jW t71 fun t72 =>
 ax a0 t56 1 fun t73 =>
 aL jW t73 t66 1 fun Nz =>
 ax a0 t60 1 fun t74 =>
 aL Nz t74 t72 1 fun mY =>
 next [(aa AX 0)] mY)))) [a1] M0
def vP (p1:au) (a0:AV) (M0:RM) (Q:ak) : Prop :=
 iE .u64 a0 fun t4 =>
 p1 [t4] M0 fun t5 M =>
 BH .shl (N .u64 1) t5 fun t6 =>
 Q t6 M
def oo (a0:AV) (M0:RM) (Q:ak) : Prop :=
 aZ a0 fun t4 =>
 ai M0 t4 fun t5 =>
 aZ a0 fun t7 =>
 ai M0 t7 fun t8 =>
 BH .shl t8 (N .u64 13) fun t9 =>
 af .xor t5 t9 fun bH =>
 aZ a0 fun bV =>
 aL M0 bV bH 1 fun M =>
 aZ a0 fun bf =>
 ai M bf fun t14 =>
 aZ a0 fun t16 =>
 ai M t16 fun t17 =>
 BH .shr t17 (N .u64 7) fun t18 =>
 af .xor t14 t18 fun t19 =>
 aZ a0 fun t20 =>
 aL M t20 t19 1 fun M_0 =>
 aZ a0 fun t22 =>
 ai M_0 t22 fun t23 =>
 aZ a0 fun t25 =>
 ai M_0 t25 fun t26 =>
 BH .shl t26 (N .u64 17) fun t27 =>
 af .xor t23 t27 fun t28 =>
 aZ a0 fun t29 =>
 aL M_0 t29 t28 1 fun M_1 =>
 aZ a0 fun t31 =>
 ai M_1 t31 fun t32 =>
 Q t32 M_1
def j4 (p1:au) (a0 a1 a2:AV) (M0:RM) (Q:ak) : Prop :=
 af .sub a1 (N .i64 1) fun t9 =>
 af .add a1 (N .i64 1) fun t12 =>
 p1 [a0,t9,a1,t12,a2] M0 fun t14 M =>
 Q t14 M
def oQ (p1:au) (a0 a1 a2 a3 a4:AV) (M0:RM) (Q:ak) : Prop :=
 p1 [a0,a1,a2,a4] M0 fun t16 M =>
 fI t16 0 fun t17 =>
 fI t16 1 fun t18 =>
 p1 [a0,t18,a3,a4] M fun t24 M_0 =>
 fI t24 0 fun t25 =>
 fI t24 1 fun t26 =>
 p1 [a0,t17,t25,a4] M_0 fun t32 M_1 =>
 fI t32 0 fun t33 =>
 fI t32 1 fun t34 =>
 Q t34 M_1
def oZ (p1:au) (a0 a1 a2 a3:AV) (M0:RM) (Q:ak) : Prop :=
 ax a0 a2 1 fun t12 =>
 ai M0 t12 fun bf =>
 ax a0 a1 1 fun t16 =>
 ai M0 t16 fun t17 =>
 p1 [bf,t17] M0 fun t18 M =>
 ay t18 (
 aZ a3 fun t20 =>
 ai M t20 fun t21 =>
 af .add t21 (N .i64 1) fun t22 =>
 aZ a3 fun t23 =>
 aL M t23 t22 1 fun M_0 =>
 Q (.tup [a2,a1]) M_0) (
 Q (.tup [a1,a2]) M)
end Go.Ab.aC
