/- Part 6 of the ground of the proofs of this seat (texts D5 to Y5). By an AI agent. -/
import Derived.Test.YtcoihknokhdbkaaGreatDoorTev5
import Derived.Sort.AssemblyPlain
import Derived.KernelRfl
import Derived.Lib.Bytealg
set_option maxRecDepth 10000
set_option linter.unusedVariables false
set_option linter.unusedSimpArgs false
namespace Go.Ab.aS
open Go Go.Ab
section
variable {α:Type} {E:Enc α}
theorem Hz{M:RM}{v:AV}{xs:List α}{k:Nat}(hE:E.size=1)(h:Sl E M v xs)(hc:tF v)(hk:k≤xs.length) :
  ∃ v',bI 1 v (some (N .i64 (k:Int))) none none=some v'∧Sl E M v' (xs.drop k)∧tF v'∧∀ b∈aJ v',b∈aJ v:=by
 generalize hcs:E.row xs=cs at *
 have h' : aW M 1 v cs xs.length:=by rw[← hcs,← hE];exact h
 have hl:cs.length=xs.length:=by rw[← hcs,Enc.ig,hE,Nat.mul_one]
 have hd:E.row (xs.drop k)=cs.drop k:=by rw[← hcs,← E.vZ,hE,Nat.mul_one]
 have goal:∀ v',Sl E M v' (xs.drop k)↔aW M 1 v' (cs.drop k) (xs.length-k):=fun v'=>by simp only[Sl];rw[hd,List.length_drop,hE]
 generalize hn:xs.length=n at *
 cases h' with
 |nil =>
  have:k=0:=by omega
  subst this
  exact⟨bC,by simp[bI,bnd],(goal _).2 (by simp;exact .nil),trivial,by simp⟩
 |emp b =>
  have:k=0:=by omega
  subst this
  exact⟨.emp b,by simp[bI,bnd],(goal _).2 (by simp;exact .emp b),trivial,by simp⟩
 |slc b o n cap cs hb hload =>
  rw[Nat.mul_one]at hload
  have LP:M.loads b (o+k) (n-k)=some (cs.drop k):=by
   have:=lh hload k (n-k) (by omega)
   rw[List.take_of_length_le (by simp;omega)]at this
   exact this
  cases cap with
  |ex c =>
   have hcn:n≤c:=hc
   by_cases hck:c=k
   ·have hkn:k=n:=by omega
    refine⟨.slc b o 0 (.ex 0),by simp only[bI,bnd];simp[hk,hcn,hck];omega, ?_,Nat.le_refl _,by simp[aJ]⟩
    rw[goal,hkn,Nat.sub_self,List.drop_of_length_le (by omega)]
    refine .slc b o 0 _ _ hb ?_
    have:=lh hload 0 0 (by omega)
    simpa using this
   ·refine⟨.slc b (o+k*1) (n-k) (.ex (c-k)),by simp only[bI,bnd];simp[hk,hcn,hck], ?_,by simp only[tF];omega,by simp[aJ]⟩
    rw[goal]
    refine .slc _ _ _ _ _ hb ?_
    show M.loads b (o+k*1) ((n-k)*1)=_
    rw[Nat.mul_one,Nat.mul_one];exact LP
  |op e =>
   have he:e=1:=hc
   subst he
   by_cases hkn:n≤k
   ·refine⟨.emp b,by simp only[bI,bnd];simp[hk,hkn], ?_,trivial,by simp[aJ]⟩
    rw[goal,show n-k=0 by omega,List.drop_of_length_le (by omega)]
    exact .emp b
   ·refine⟨.slc b (o+k*1) (n-k) (.op 1),by simp only[bI,bnd];simp[hk,hkn], ?_,rfl,by simp[aJ]⟩
    rw[goal]
    refine .slc _ _ _ _ _ hb ?_
    show M.loads b (o+k*1) ((n-k)*1)=_
    rw[Nat.mul_one,Nat.mul_one];exact LP
theorem afI{M:RM}{v:AV}{xs:List α}{k:Nat}(hE:E.size=1)(h:Sl E M v xs)(hc:tF v)(hk:k≤xs.length) :
  ∃ v',bI 1 v none (some (N .i64 (k:Int))) none=some v'∧Sl E M v' (xs.take k):=by
 generalize hcs:E.row xs=cs at *
 have h' : aW M 1 v cs xs.length:=by rw[← hcs,← hE];exact h
 have hl:cs.length=xs.length:=by rw[← hcs,Enc.ig,hE,Nat.mul_one]
 have hd:E.row (xs.take k)=cs.take k:=by rw[← hcs,← E.A9,hE,Nat.mul_one]
 have goal:∀ v',Sl E M v' (xs.take k)↔aW M 1 v' (cs.take k) k:=fun v'=>by simp only[Sl];rw[hd,List.length_take,hE,Nat.min_eq_left hk]
 generalize hn:xs.length=n at *
 cases h' with
 |nil =>
  have:k=0:=by omega
  subst this
  exact⟨bC,by simp[bI,bnd],(goal _).2 (by simp;exact .nil)⟩
 |emp b =>
  have:k=0:=by omega
  subst this
  exact⟨.emp b,by simp[bI,bnd],(goal _).2 (by simp;exact .emp b)⟩
 |slc b o n cap cs hb hload =>
  rw[Nat.mul_one]at hload
  have LP:M.loads b o k=some (cs.take k):=by
   have:=lh hload 0 k (by omega)
   simpa using this
  cases cap with
  |ex c =>
   have hcn:n≤c:=hc
   by_cases hc0:c=0
   ·have hk0:k=0:=by omega
    subst hk0
    refine⟨.slc b o 0 (.ex 0),by simp only[bI,bnd];simp[hc0], ?_⟩
    rw[goal]
    refine .slc b o 0 _ _ hb ?_
    simpa using LP
   ·refine⟨.slc b o k (.ex c),by simp only[bI,bnd];simp[hc0];omega, ?_⟩
    rw[goal]
    refine .slc _ _ _ _ _ hb ?_
    rw[Nat.mul_one];exact LP
  |op e =>
   have he:e=1:=hc
   subst he
   by_cases hn0:n=0
   ·have hk0:k=0:=by omega
    subst hk0
    refine⟨.emp b,by simp only[bI,bnd];simp[hn0], ?_⟩
    rw[goal];simp;exact .emp b
   ·refine⟨.slc b o k (.op 1),by simp only[bI,bnd];simp[hk,hn0], ?_⟩
    rw[goal]
    refine .slc _ _ _ _ _ hb ?_
    rw[Nat.mul_one];exact LP
end
def zB:Nat→Nat→List UInt8→Option (Nat×Nat)
 |_,_,[]=>none
 |i,v,x::xs =>
  if x.toNat≥128 then zB (i+1) ((v ||| (x.toNat%128*2^(7*i)%2^64))%2^64) xs
  else if x.toNat=0∧i>0∨i=9∧x.toNat>1 then none else some ((v ||| (x.toNat%128*2^(7*i)%2^64))%2^64,i+1)
def GY(bs:List UInt8):Option (Nat×Nat):=zB 0 0 (bs.take 10)
theorem ZC:∀ (bs:List UInt8)(i v:Nat){w n:Nat},zB i v bs=some (w,n)→w<2^64∧i<n∧n≤i+bs.length
 |[],_,_,_,_,h=>by simp[zB]at h
 |x::xs,i,v,w,n,h=>by
  rw[zB]at h
  split at h
  ·have:=ZC xs _ _ h
   simp only[List.length_cons];omega
  ·split at h
   ·cases h
   ·simp only[Option.some.injEq,Prod.mk.injEq]at h
    obtain⟨rfl,rfl⟩:=h
    refine⟨Nat.mod_lt _ (by decide),by omega,by simp⟩
theorem Qz{bs:List UInt8}{w n:Nat}(h:GY bs=some (w,n)):w<2^64∧0<n∧n≤bs.length∧n≤10:=by
 have:=ZC _ _ _ h
 rw[List.length_take]at this
 omega
structure zI(T:Nat)(S:Nat→Prop)(M:RM)(r:Nat)(bs:List UInt8)(f:Bool):Prop where
 lt:r<M.next
 row:∃ v,M.heap r=some (.row [v,Bo f] false T 0)∧Sl BY M v bs∧tF v∧∀ d∈aJ v,S d
 nb:¬ S r
def acI(bs:List UInt8):List AV:=match GY bs with
 |some (v,n)=>[N .u64 (v:Int),N .i64 (n:Int),Bo true]
 |none=>[N .u64 0,N .i64 0,Bo false]
def abU(T:Nat)(c:aB):Prop:=∀ {M:RM}{r:Nat}{S:Nat→Prop}{bs:List UInt8}{f:Bool}{Q:aj},zI T S M r bs f→Q (.tup (acI bs)) M→c [.ptr r 0] M Q
theorem amS(x:UInt8):N .u8 (Ei .u8 (x.toNat:Int) 127)=N .u8 ((x.toNat%128:Nat):Int):=by
 rw[show(127:Int)=((127:Nat):Int)from rfl,aiY rfl]
 have:x.toNat &&& 127=x.toNat%128:=Nat.and_two_pow_sub_one_eq_mod x.toNat 7
 rw[this]
 simp only[Ag]
 congr 2
 have:=qX x
 omega
theorem alv(a b:Nat):(if ((b:Nat):Int)<(a:Int)then(b:Int)else(a:Int))=((min a b:Nat):Int):=by
 split<;>omega
theorem agW{T:Nat}:abU T fun args M Q=>∃ a0,args=[a0]∧tY a0 M Q:=by
 intro M r S bs f Q h hQ
 refine⟨_,rfl, ?_⟩
 obtain⟨v,hr,hs,hc,hS⟩:=h.row
 unfold tY
 rw[lS,bg,fD,aT hr rfl,bg,fD,aT hr rfl,aW.len hs,afH,if_neg (by decide),show(10:Int)=((10:Nat):Int)from rfl,alv]
 obtain⟨c,e1,e2⟩:=afI (k:=min bs.length 10) rfl hs hc (Nat.min_le_left _ _)
 rw[e1,jV,aW.len e2]
 have hlen:(bs.take (min bs.length 10)).length=min bs.length 10:=by rw[List.length_take];omega
 have htk:bs.take (min bs.length 10)=bs.take 10:=by
  rcases Nat.le_total bs.length 10 with hh|hh
  ·rw[Nat.min_eq_left hh,List.take_length,List.take_of_length_le hh]
  ·rw[Nat.min_eq_right hh]
 rw[htk]at e2 hlen ⊢
 have hll:(bs.take 10).length≤10:=by omega
 unfold acI GY at hQ
 generalize bs.take 10=ls at *
 refine bU (fun m ys M3=>∃ (i u:Nat),m=ls.length-i∧ys=[N .u64 (u:Int),N .i64 (i:Int)]∧i≤ls.length∧M3=M∧zB 0 0 ls=zB i u (ls.drop i)) _
  ⟨0,0,rfl,rfl,Nat.zero_le _,rfl,rfl⟩ ?_
 rintro next m ys M3 hnext ⟨i,u,rfl,rfl,hi,rfl,hset⟩
 dsimp only[aD]
 rw[j5]
 refine cK (fun hlt=>?_) (fun hge=>?_)
 ·have hlt:i<ls.length:=by simpa using hlt
  obtain⟨b1,o1,_,_,hidx,hcell⟩:=Sl.at1 (E:=BY) e2 (i:Int) hlt
  rw[List.drop_eq_getElem_cons hlt,zB]at hset
  rw[hidx,fu]
  refine⟨_,hcell _ rfl, ?_⟩
  generalize hx:ls[i]=x at *
  have hx256:=qX x
  rw[lL,amS,iW,wrap_u64,Nat.mod_eq_of_lt (by omega:x.toNat%128<18446744073709551616),oW,show(7:Int)*(i:Int)=((7*i:Nat):Int) by omega,bM (by omega) (by omega),uU]
  refine⟨by omega, ?_⟩
  rw[ahe rfl _ _ (by show 7*i≤64;omega),jD,Zx rfl,fe]
  simp only[Ag]
  generalize hw:(u ||| (x.toNat%128*2^(7*i)%2^64))%2^64=w at *
  refine cK (fun hbig=>?_) (fun hsm=>?_)
  ·have hbig:x.toNat≥128:=by
    have:(x.toNat:Int)≥128:=of_decide_eq_true hbig
    omega
   rw[if_pos hbig]at hset
   rw[fC,rQ (by omega)]
   exact hnext _ _ _ (by omega) ⟨i+1,w,rfl,rfl,by omega,rfl,hset⟩
  ·have hsm:¬ x.toNat≥128:=by
    have:¬ (x.toNat:Int)≥128:=of_decide_eq_false hsm
    omega
   rw[if_neg hsm]at hset
   have bad:(x.toNat=0∧i>0∨i=9∧x.toNat>1)→Q (.tup [N .u64 0,N .i64 0,Bo false]) M3:=fun h=>by
    rw[if_pos h]at hset
    rw[hset]at hQ
    exact hQ
   have okk:¬ (x.toNat=0∧i>0∨i=9∧x.toNat>1)→Q (.tup [N .u64 (w:Int),N .i64 ((i+1:Nat):Int),Bo true]) M3:=fun h=>by
    rw[if_neg h]at hset
    rw[hset]at hQ
    exact hQ
   have apd:¬ (x.toNat=0∧i>0∨i=9∧x.toNat>1)→ag .add (N .i64 (i:Int)) (N .i64 1) fun t50=>Q (.tup [N .u64 (w:Int),t50,Bo true]) M3:=fun h=>by
    rw[fC,rQ (by omega)]
    exact okk h
   rw[fZ]
   -- the second half of the question
   have second:¬ (x.toNat=0∧i>0)→ag .eql (N .i64 (i:Int)) (N .i64 9) fun t42 =>
     af t42 true (fun auX=>auX (N .u8 (x.toNat:Int)) M3) (fun k=>k .undef M3) fun t44 anj =>
     af t42 true (fun aCF=>ag .gtr t44 (N .u8 1) fun t45=>aCF t45 anj) (fun k=>k .undef anj) fun ank aoF =>
     af (Bo false) false (fun ax1=>aM t42 ank (Bo false) fun t46=>ax1 t46 aoF) (fun k=>k .undef aoF) fun ams QO =>
     aM (Bo false) (Bo true) ams fun t47=>aF t47 (Q (.tup [N .u64 0,N .i64 0,Bo false]) QO) (ag .add (N .i64 (i:Int)) (N .i64 1) fun t50=>Q (.tup [N .u64 (w:Int),t50,Bo true]) QO):=fun hn=>by
    rw[fZ]
    by_cases h9:i=9
    ·rw[show((i:Int)==9)=true by simp;omega,iM]
     dsimp only
     rw[iM,fJ]
     dsimp only
     rw[bN]
     dsimp only
     rw[gq,eQ]
     refine cK (fun hg=>bad (.inr ⟨h9, ?_⟩)) (fun hg=>apd ?_)
     ·have:(x.toNat:Int)>1:=of_decide_eq_true hg
      omega
     ·have:¬ (x.toNat:Int)>1:=of_decide_eq_false hg
      rintro(h|h)
      ·exact hn h
      ·omega
    ·rw[show((i:Int)==9)=false by simp;omega,iN]
     dsimp only
     rw[iN]
     dsimp only
     rw[bN]
     dsimp only
     rw[eQ,eQ,di]
     refine apd ?_
     rintro(h|h)
     ·exact hn h
     ·omega
   by_cases h0:x.toNat=0
   ·rw[show((x.toNat:Int)==0)=true by simp[h0],iM]
    dsimp only
    rw[iM,fJ]
    dsimp only
    rw[gq]
    by_cases hi0:i>0
    ·rw[show decide ((i:Int)>0)=true by simpa using hi0,dY]
     dsimp only
     rw[dY]
     dsimp only
     rw[dY]
     dsimp only
     rw[YG]
     dsimp only
     rw[YG]
     dsimp only
     rw[dY]
     dsimp only
     rw[gq,dE]
     exact bad (.inl ⟨h0,hi0⟩)
    ·rw[show decide ((i:Int)>0)=false by simp;omega,bN]
     have:=second (fun h=>hi0 h.2)
     dsimp only
     rw[bN]
     dsimp only at this ⊢
     rw[fZ]at this ⊢
     rw[bN]
     dsimp only
     exact this
   ·rw[show((x.toNat:Int)==0)=false by simp;omega,iN]
    dsimp only
    rw[iN]
    dsimp only
    rw[eQ,bN]
    have:=second (fun h=>h0 h.1)
    dsimp only
    rw[bN]
    dsimp only at this ⊢
    rw[fZ]at this ⊢
    rw[bN]
    dsimp only
    exact this
 ·have he:i=ls.length:=by simp at hge;omega
  rw[he,List.drop_length,zB]at hset
  rw[hset]at hQ
  exact hQ
def dX(most:Nat)(bs:List UInt8)(f:Bool):Nat×List UInt8×Bool :=
 match GY bs with
 |none=>(0,bs,true)
 |some (v,n)=>if f||decide (most<v)then(0,bs,true)else(v,bs.drop n,false)
theorem abf{most:Nat}{bs:List UInt8}{f:Bool}:(dX most bs f).1≤most∧(dX most bs f).2.1.length≤bs.length:=by
 unfold dX
 split
 ·simp
 ·split
  ·simp
  ·rename_i h
   simp at h ⊢
   omega
def Yu(T:Nat)(c:aB):Prop:=∀ {M:RM}{r most:Nat}{S:Nat→Prop}{bs:List UInt8}{f:Bool}{Q:aj},zI T S M r bs f→most<4294967296 →
 (∀ M',zI T S M' r (dX most bs f).2.1 (dX most bs f).2.2→ah [r] M M'→M'.next=M.next→Q (N .i64 (((dX most bs f).1:Nat):Int)) M')→c [.ptr r 0,N .i64 (most:Int)] M Q
def Oi(T:Nat)(c:aB):Prop:=∀ {M:RM}{r:Nat}{S:Nat→Prop}{bs:List UInt8}{f:Bool}{Q:aj},zI T S M r bs f →
 (∀ M',zI T S M' r (dX 18446744073709551615 bs f).2.1 (dX 18446744073709551615 bs f).2.2→ah [r] M M'→M'.next=M.next→Q (N .u64 (((dX 18446744073709551615 bs f).1:Nat):Int)) M')→c [.ptr r 0] M Q
theorem Wj{M:RM}{f ok:Bool}{v most:Nat}{K:aj}(hm:most<4294967296)(hQ:K (Bo (f||(!ok||decide (most<v)))) M) :
  af (Bo f) false (fun k'=>iF (Bo ok) fun t21=>k' t21 M) (fun k=>k .undef M) fun acU M_3 =>
  aM (Bo f) (Bo true) acU fun t22 =>
  af t22 false (fun k'=>ag .lss (N .i64 (most:Int)) (N .i64 0) fun t25=>k' t25 M_3) (fun k=>k .undef M_3) fun adi M_8 =>
  aM t22 (Bo true) adi fun t26 =>
  af t26 false (fun k'=>iR .u64 (N .i64 (most:Int)) fun t30=>ag .gtr (N .u64 (v:Int)) t30 fun t31=>k' t31 M_8) (fun k=>k .undef M_8) fun YC QO =>
  aM t26 (Bo true) YC fun t32=>K t32 QO:=by
 have tail:K (Bo true) M→af (Bo true) false (fun k'=>ag .lss (N .i64 (most:Int)) (N .i64 0) fun t25=>k' t25 M) (fun k=>k .undef M) fun adi M_8 =>
   aM (Bo true) (Bo true) adi fun t26 =>
   af t26 false (fun k'=>iR .u64 (N .i64 (most:Int)) fun t30=>ag .gtr (N .u64 (v:Int)) t30 fun t31=>k' t31 M_8) (fun k=>k .undef M_8) fun YC QO =>
   aM t26 (Bo true) YC fun t32=>K t32 QO:=fun hK=>by
  rw[dY]
  dsimp only
  rw[gq,dY]
  dsimp only
  rw[gq]
  exact hK
 cases f with
 |true =>
  rw[dY]
  dsimp only
  rw[gq]
  exact tail hQ
 |false =>
  rw[bN]
  dsimp only
  rw[fA]
  cases ok with
  |false =>
   rw[eQ]
   exact tail hQ
  |true =>
   rw[eQ]
   simp only[Bool.not_true]
   rw[bN]
   dsimp only
   rw[j5,show decide ((most:Int)<0)=false by simp]
   rw[eQ,bN]
   dsimp only
   rw[iW,wL (by omega) (by omega),fJ,eQ]
   have:decide ((v:Int)>(most:Int))=decide (most<v):=by simp
   rw[this]
   exact hQ
theorem Tg{M:RM}{f ok:Bool}{K:aj}(hQ:K (Bo (f || !ok)) M) :
  af (Bo f) false (fun k'=>iF (Bo ok) fun t21=>k' t21 M) (fun k=>k .undef M) fun acU M_3 =>
  aM (Bo f) (Bo true) acU fun t22=>K t22 M_3:=by
 cases f with
 |true =>
  rw[dY]
  dsimp only
  rw[gq]
  exact hQ
 |false =>
  rw[bN]
  dsimp only
  rw[fA,eQ]
  exact hQ
theorem Ck{T:Nat}{M:RM}{r:Nat}{S:Nat→Prop}{bs:List UInt8}{f g:Bool}{n:Nat}{x:AV}{Z:aj}{K:RM→Prop}(h:zI T S M r bs f)(hn:n≤bs.length)
  (h1:g=true→∀ M',zI T S M' r bs true→ah [r] M M'→M'.next=M.next→Z x M')
  (h2:g=false→∀ M',zI T S M' r (bs.drop n) false→ah [r] M M'→M'.next=M.next→K M') :
  dU (.ptr r 0) fun t33=>aZ t33 1 fun t34=>aR M t34 (Bo g) 1 fun adC=>dU (.ptr r 0) fun t36=>aZ t36 1 fun t37=>au adC t37 fun t38 =>
   aF t38 (Z x adC) (dU (.ptr r 0) fun t41=>aZ t41 0 fun t42=>au adC t42 fun t43=>dz (bI 1 t43 (some (N .i64 (n:Int))) none none) fun t45 =>
    dU (.ptr r 0) fun t46=>aZ t46 0 fun t47=>aR adC t47 t45 1 fun acZ=>K acZ):=by
 obtain⟨v,hr,hs,hc,hS⟩:=h.row
 have hrl:=h.lt
 rw[bg,fD,eU [v,Bo g] hr (by simp) rfl rfl rfl,bg,fD,aT (aO _) rfl]
 have kk:ah [r] M (M.put r (.row [v,Bo g] false T 0)):=(ah.refl _ _).put _ (.inr (by simp))
 have hh:(M.put r (.row [v,Bo g] false T 0)).heap r=some (.row [v,Bo g] false T 0):=aO _
 have nn:(M.put r (.row [v,Bo g] false T 0)).next=M.next:=rfl
 generalize M.put r (.row [v,Bo g] false T 0)=M1 at *
 have s1:Sl BY M1 v bs:=aW.keep hs kk (fun d hd hm=>by simp at hm;subst hm;exact h.nb (hS d hd))
 refine cK (fun hg=>?_) (fun hg=>?_)
 ·subst hg
  exact h1 rfl M1 ⟨by omega,⟨v,hh,s1,hc,hS⟩,h.nb⟩ kk nn
 ·subst hg
  rw[bg,fD,aT hh rfl]
  obtain⟨v',e1,e2,e3,e4⟩:=Hz rfl s1 hc hn
  rw[e1,jV,bg,fD,eU [v',Bo false] hh (by simp) (aW.cells e2) (aW.one e2) rfl]
  have k2:ah [r] M1 (M1.put r (.row [v',Bo false] false T 0)):=(ah.refl _ _).put _ (.inr (by simp))
  exact h2 rfl _ ⟨by rw[vI];omega,⟨v',aO _,aW.keep e2 k2 (fun d hd hm=>by simp at hm;subst hm;exact h.nb (hS d (e4 d hd))),e3,fun d hd=>hS d (e4 d hd)⟩,h.nb⟩ (kk.trans k2) (by rw[vI];exact nn)
theorem aip{T:Nat}{cn:aB}(hn:abU T cn):Yu T fun args M Q=>∃ a0 a1,args=[a0,a1]∧BH cn a0 a1 M Q:=by
 intro M r most S bs f Q h hm hQ
 refine⟨_,_,rfl, ?_⟩
 unfold BH
 simp only[dW]
 refine hn h ?_
 obtain⟨v,hr,hs,hc,hS⟩:=h.row
 unfold dX at hQ
 unfold acI
 cases hnb:GY bs with
 |none =>
  simp only[hnb]at hQ
  dsimp only
  rw[dQ,dV,ik,bg,fD,aT hr rfl]
  refine Wj (v:=0) (ok:=false) hm ?_
  refine Ck (n:=0) (Z:=Q) h (Nat.zero_le _) (fun _ M' q1 q2 q3=>hQ M' q1 q2 q3) (fun hg=>by simp at hg)
 |some p =>
  obtain⟨w,n⟩:=p
  simp only[hnb]at hQ
  dsimp only
  rw[dQ,dV,ik,bg,fD,aT hr rfl]
  refine Wj (v:=w) (ok:=true) hm ?_
  refine Ck (n:=n) (Z:=Q) h (Qz hnb).2.2.1 (fun hg M' q1 q2 q3=>?_) (fun hg M' q1 q2 q3=>?_)
  ·have hg:(f||decide (most<w))=true:=by simpa using hg
   rw[if_pos hg]at hQ
   exact hQ M' q1 q2 q3
  ·have hg:(f||decide (most<w))=false:=by simpa using hg
   rw[if_neg (by simp[hg])]at hQ
   have hw:w≤most:=by simp at hg;omega
   rw[iW,bM (by omega) (by omega)]
   exact hQ M' q1 q2 q3
theorem adx{T:Nat}{cn:aB}(hn:abU T cn):Oi T fun args M Q=>∃ a0,args=[a0]∧zq cn a0 M Q:=by
 intro M r S bs f Q h hQ
 refine⟨_,rfl, ?_⟩
 unfold zq
 simp only[dW]
 refine hn h ?_
 obtain⟨v,hr,hs,hc,hS⟩:=h.row
 unfold dX at hQ
 unfold acI
 cases hnb:GY bs with
 |none =>
  simp only[hnb]at hQ
  dsimp only
  rw[dQ,dV,ik,bg,fD,aT hr rfl]
  refine Tg (ok:=false) ?_
  refine Ck (n:=0) (Z:=Q) h (Nat.zero_le _) (fun _ M' q1 q2 q3=>hQ M' q1 q2 q3) (fun hg=>by simp at hg)
 |some p =>
  obtain⟨w,n⟩:=p
  simp only[hnb]at hQ
  dsimp only
  rw[dQ,dV,ik,bg,fD,aT hr rfl]
  refine Tg (ok:=true) ?_
  have hw:decide (18446744073709551615<w)=false:=by
   have:=(Qz hnb).1
   simp;omega
  rw[hw,Bool.or_false]at hQ
  refine Ck (n:=n) (Z:=Q) h (Qz hnb).2.2.1 (fun hg M' q1 q2 q3=>?_) (fun hg M' q1 q2 q3=>?_)
  ·have hg:f=true:=by simpa using hg
   rw[if_pos hg]at hQ
   exact hQ M' q1 q2 q3
  ·have hg:f=false:=by simpa using hg
   rw[if_neg (by simp[hg])]at hQ
   exact hQ M' q1 q2 q3
abbrev TY:=(Nat×Nat)×List Nat
def ad5(ps:List Pt):Nat→List TY
 |0=>[]
 |i+1=>ad5 ps i++(if 0<(ps.getD i (0,[])).1∨0<(ps.getD i (0,[])).2.length then[((i,(ps.getD i (0,[])).1),(ps.getD i (0,[])).2)]else[])
def parts(ps:List Pt):List TY:=ad5 ps 16
@[irreducible] def aF0(x a:Nat):Nat:=(x+18446744073709551616-a)%18446744073709551616
theorem XW{v:Nat}(h:v<2^64):(gp v).length≤10:=J6 10 v (by omega) (by omega)
theorem IP(a b:List UInt8):o5 (a++b)=o5 a++o5 b:=List.map_append
@[irreducible] def aF1(bs:List UInt8)(f:Bool):Nat×List UInt8×Bool:=dX 18446744073709551615 bs f
def anv(a b:aS):Bool:=decide (a.1<b.1)||(decide (a.1=b.1)&&decide (a.2<b.2))
section
variable {α:Type} {E:Enc α}
end
def atL(d:aS)(l:List aS):Nat:=(l.takeWhile (fun x=>anv x d)).length
def oH(l:List aS)(d:aS):List aS:=if d∈l then l else l.take (atL d l)++d::l.drop (atL d l)
def Up(xs:List Nat):Prop:=∀ i j (hi:i<xs.length) (hj:j<xs.length),i≤j→xs[i]≤xs[j]
section
variable {ps:List Pt} {d:aS}
end
theorem afj{acc y k:Nat}(h:acc<2^k)(hs:acc+y*2^k<2^64):(acc ||| (y*2^k%2^64))%2^64=acc+y*2^k:=by
 have e:y*2^k%2^64=2^k*y:=by rw[Nat.mod_eq_of_lt (by omega),Nat.mul_comm]
 rw[e,Nat.or_comm,← Nat.two_pow_add_eq_or_of_lt h,Nat.mul_comm,Nat.add_comm,Nat.mod_eq_of_lt hs]
theorem aa4:∀ (w i acc:Nat)(r:List UInt8),acc<2^(7*i)→acc+w*2^(7*i)<2^64→(0<i→w≠0)→i≤9→zB i acc (gp w++r)=some (acc+w*2^(7*i),i+(gp w).length):=by
 intro w
 induction w using Nat.strongRecOn with
 |_ w ih =>
  intro i acc r ha hs h0 hi
  by_cases hw:w<128
  ·rw[pM hw,List.singleton_append,zB,xV,show w%256=w by omega,if_neg (by omega)]
   rw[if_neg]
   ·rw[show w%128=w by omega,afj ha hs];rfl
   ·rintro(⟨h1,h2⟩|⟨h1,h2⟩)
    ·exact h0 h2 h1
    ·subst h1
     have:2*2^(7*9)≤w*2^(7*9):=Nat.mul_le_mul_right _ h2
     have e:2*2^(7*9)=2^64:=by decide
     omega
  ·rw[pI hw,List.cons_append,zB,xV,show(w%128+128)%256=w%128+128 by omega,if_pos (by omega)]
   rw[show(w%128+128)%128=w%128 by omega]
   have hp:2^(7*(i+1))=128*2^(7*i):=by rw[show 7*(i+1)=7*i+7 by omega,Nat.pow_add,Nat.mul_comm]
   have hsplit:w*2^(7*i)=w%128*2^(7*i)+w / 128*2^(7*(i+1)):=by
    rw[hp,← Nat.mul_assoc,← Nat.add_mul]
    congr 1
    omega
   have hlow:w%128*2^(7*i)+2^(7*i)≤2^(7*(i+1)):=by
    rw[hp,← Nat.succ_mul]
    exact Nat.mul_le_mul_right _ (by omega)
   have hpos:0<2^(7*(i+1)):=Nat.pos_of_ne_zero (by simp)
   have h1:2^(7*(i+1))≤w / 128*2^(7*(i+1)):=Nat.le_mul_of_pos_left _ (by omega)
   have hi9:i+1≤9:=by
    rcases Nat.lt_or_ge i 9 with h|h
    ·omega
    ·have:i=9:=by omega
     subst this
     have e:(2:Nat)^(7*(9+1))=2^64*64:=by decide
     omega
   rw[afj ha (by omega),ih (w / 128) (by omega) (i+1) _ r (by omega) (by omega) (fun _=>by omega) hi9]
   congr 2
   ·omega
   ·simp only[List.length_cons];omega
theorem OX{v:Nat}(h:v<2^64)(r:List UInt8):GY (gp v++r)=some (v,(gp v).length):=by
 unfold GY
 have hl:=XW h
 rw[List.take_append,List.take_of_length_le hl]
 have:=aa4 v 0 0 (r.take (10-(gp v).length)) (by decide) (by simpa using h) (fun h=>by omega) (by omega)
 rw[this]
 simp
section
variable {M:RM} {b T n i j:Nat} {d:Array Nat} {K:AV→Prop}
end
section
variable {body:(List AV→RM→Prop)→List AV→RM→Prop} {p:Nat→Bool} {d:Array Nat} {M:RM}
end
end Go.Ab.aS
namespace Go.Ab.Crw
open Go Go.Ab Go.Ab.aS
section
variable {α:Type} [Inhabited α] {E:Enc α} {M M' : RM} {T b z n i j:Nat} {d:Array α}
structure At(E:Enc α)(T b:Nat)(d:Array α)(M:RM):Prop where
 heap:M.heap b=some (.row (E.row d.toList) true T 0)
 lt:b<M.next
abbrev sv(b n z:Nat):AV:=.slc b 0 n (.op z)
end
section
variable {α:Type} [Inhabited α] (lt:α→α→Bool)
end
section
variable {α:Type} [Inhabited α] {E:Enc α} {M M' : RM} {T b z n i j:Nat} {d:Array α} {ks:List Nat}
variable {body:(List AV→RM→Prop)→List AV→RM→Prop} {p:α→Bool} {P:RM→Prop}
end
abbrev Ent:=aS×(List UInt8×List UInt8×List UInt8)
def az9:Enc Ent:=⟨5,fun x=>anQ x.1++[St x.2.1,St x.2.2.1,St x.2.2.2],fun _=>rfl,fun _=>rfl⟩
abbrev EvT:=aS×(Int×(List UInt8×(List UInt8×List UInt8)))
theorem auH{M:RM}{c p:Bool}{f:aj→Prop}{G:AV→RM→Prop}(hf:c=false→∀ k:aj,k (Bo p) M→f k)(hG:G (Bo (c||p)) M) :
  af (Bo c) false f (fun k=>k .undef M) (fun t M'=>aM (Bo c) (Bo true) t fun u=>G u M'):=by
 cases c with
 |true=>rw[dY];dsimp only;rw[gq];exact hG
 |false=>rw[bN];exact hf rfl _ (by rw[eQ];exact hG)
def names(c f v:List UInt8):Bool:=decide (1≤c.length)&&decide (c.length≤64)&&decide (f.length≤64)&&decide (v.length≤512)
end Go.Ab.Crw
namespace Go.Ab.aS
open Go Go.Ab
section
variable {TP TU base:Nat} {M M' : RM} {v:AV} {out:List TY} {cs:List AV} {ws:Nat→AV}
end
section
variable {TP TU base:Nat} {M:RM} {v:AV} {out:List TY} {cs:List AV} {ws:Nat→AV}
end
end Go.Ab.aS
namespace Go.Ab.Crw
open Go Go.Ab Go.Ab.aS
section
variable {α:Type} {E:Enc α}
end
structure StH(TS T:Nat)(B:Nat→Prop)(M:RM)(t:Nat)(ps:List Pt)(es:List Ent):Prop where
 lt:t<M.next
 row:∃ s v,M.heap t=some (.row [.ptr s 0,v] false TS 0)∧(∃ S:Nat→Prop,aBG T S M s ps∧∀ d,S d→B d)∧Sl az9 M v es∧B s∧∀ d∈aJ v,B d
 nb:¬ B t
abbrev Ev:=EvT×List aS
abbrev St2:=List Pt×List Ent
section
variable {w:List Ev} {s:St2} {c f a b cc:List UInt8}
end
structure SH(TS T:Nat)(M:RM)(t:Nat)(B:Nat→Prop)(s:St2):Prop where
 st:StH TS T B M t s.1 s.2
 lo:∀ d,B d→d<M.next
section
variable {TS T:Nat}
end
def nm(es:List Ent)(i:Nat):List UInt8:=(es.getD i ((0,0),([],[],[]))).2.1
def CY(s:List UInt8):List UInt8:=gp s.length++s
theorem ahw{M:RM}{zs:List AV}(s:List UInt8):kP M 1 zs false (St s)=some (s.length,o5 s):=by
 simp only[kP,if_true]
def Gj(T:Nat)(c:aB):Prop:=∀ {M:RM}{v:AV}{L s:List UInt8}{Q:aj},Sl BY M v L→L.length+s.length≤1000000000 →
 (∀ r M',Own M' M.next T 1 r (o5 (L++CY s)) (L++CY s).length→ah [] M M'→Q r M')→c [v,St s] M Q
theorem Vz{T:Nat}{cu:aB}(hu:O9 T cu):Gj T fun args M Q=>∃ a0 a1,args=[a0,a1]∧Vi cu T a0 a1 M Q:=by
 intro M v L s Q hv hl hQ
 refine⟨_,_,rfl, ?_⟩
 unfold Vi
 have hv:aW M 1 v (BY.row L) L.length:=hv
 rw[fU]at hv
 rw[mX,iW,wL (by omega) (by omega)]
 refine hu (v:=s.length) hv (OU _) (by omega) (by omega) fun r M1 o1 k1=>?_
 have n1:=k1.next
 have u10:=XW (v:=s.length) (by omega)
 refine sZ o1 n1 (Nat.le_refl _) (ahw s) (by simp) (OU _) (by omega) (by omega) fun v' M' o2 k2 _ _=>?_
 refine hQ v' M' ?_ (k1.GL k2 fun d hd=>.inl (o1.blk d hd).1)
 rw[show o5 (L++CY s)=List.map By L++o5 (gp s.length)++o5 s by rw[CY,IP,IP,List.append_assoc],show(L++CY s).length=L.length+(gp s.length).length+s.length by simp[CY];omega]
 exact o2
def rf(most:Nat)(bs:List UInt8)(f:Bool):List UInt8×List UInt8×Bool :=
 if (dX most bs f).2.2||decide ((dX most bs f).2.1.length<(dX most bs f).1)then([],(dX most bs f).2.1,true)
 else((dX most bs f).2.1.take (dX most bs f).1,(dX most bs f).2.1.drop (dX most bs f).1,false)
def Uv(T:Nat)(c:aB):Prop:=∀ {M:RM}{r most:Nat}{S:Nat→Prop}{bs:List UInt8}{f:Bool}{Q:aj},zI T S M r bs f→most<4294967296 →
 (∀ M',zI T S M' r (rf most bs f).2.1 (rf most bs f).2.2→ah [r] M M'→M'.next=M.next→Q (St (rf most bs f).1) M')→c [.ptr r 0,N .i64 (most:Int)] M Q
theorem afC{T:Nat}{ci:aB}(hi:Yu T ci):Uv T fun args M Q=>∃ a0 a1,args=[a0,a1]∧zC ci a0 a1 M Q:=by
 intro M r most S bs f Q h hm hQ
 refine⟨_,_,rfl, ?_⟩
 unfold zC
 simp only[dW,akv,ae3,aeG]
 refine hi h hm fun M1 h1 k1 n1=>?_
 have hle:=abf (most:=most) (bs:=bs) (f:=f)
 unfold rf at hQ
 generalize (dX most bs f).1=n at *
 generalize (dX most bs f).2.1=bs1 at *
 generalize (dX most bs f).2.2=f1 at *
 obtain⟨v,hr,hs,hc,hS⟩:=h1.row
 have hrl:=h1.lt
 rw[bg,fD,aT (i:=0+1) hr rfl]
 refine auH (p:=decide (bs1.length<n)) (fun _ K hK=>?_) ?_
 ·rw[bg,jJ,aT (i:=0+0) hr rfl,aW.len hs,fJ,show decide ((n:Int)>(bs1.length:Int))=decide (bs1.length<n) by simp]
  exact hK
 generalize hg:(f1||decide (bs1.length<n))=g at *
 rw[bg,fD,eU [v,Bo g] hr (by simp) rfl rfl rfl,bg,fD,aT (aO _) rfl]
 have kk:ah [r] M1 (M1.put r (.row [v,Bo g] false T 0)):=(ah.refl _ _).put _ (.inr (by simp))
 have hh:(M1.put r (.row [v,Bo g] false T 0)).heap r=some (.row [v,Bo g] false T 0):=aO _
 have nn:(M1.put r (.row [v,Bo g] false T 0)).next=M1.next:=rfl
 generalize M1.put r (.row [v,Bo g] false T 0)=M2 at *
 have s2:Sl BY M2 v bs1:=aW.keep hs kk (fun d hd hm=>by simp at hm;subst hm;exact h1.nb (hS d hd))
 refine cK (fun hgt=>?_) (fun hgf=>?_)
 ·subst hgt
  rw[if_pos rfl]at hQ
  exact hQ M2 ⟨by omega,⟨v,hh,s2,hc,hS⟩,h1.nb⟩ (k1.trans kk) (by omega)
 ·subst hgf
  rw[if_neg (by simp)]at hQ
  have hn:n≤bs1.length:=by
   simp only[Bool.or_eq_false_iff,decide_eq_false_iff_not]at hg;omega
  rw[bg,fD,aT hh rfl]
  obtain⟨v1,e1,e2⟩:=afI rfl s2 hc hn
  rw[e1,jV,Sl.str e2,bg,fD,aT hh rfl]
  obtain⟨v',g1,g2,g3,g4⟩:=Hz rfl s2 hc hn
  rw[g1,jV,bg,fD,eU [v',Bo false] hh (by simp) (aW.cells g2) (aW.one g2) rfl]
  have k2:ah [r] M2 (M2.put r (.row [v',Bo false] false T 0)):=(ah.refl _ _).put _ (.inr (by simp))
  exact hQ _ ⟨by rw[vI];omega,⟨v',aO _,aW.keep g2 k2 (fun d hd hm=>by simp at hm;subst hm;exact h1.nb (hS d (g4 d hd))),g3,fun d hd=>hS d (g4 d hd)⟩,h1.nb⟩ ((k1.trans kk).trans k2) (by rw[vI];omega)
end Go.Ab.Crw
namespace Go.Ab.Sy
open Go Go.Ab Go.RowKit
open Go.Ab.aS (gp pM pI GY OX dX zI Yu Oi O9 tF)
open Go.Ab.Crw (CY Gj Uv rf)
section
variable {G:Gd}
theorem Vr:∀ (f n:Nat),n<128^f→1≤f→Te f n=gp n
 |0,_,_,h=>by omega
 |f+1,n,hn,_=>by
  unfold Te
  by_cases h:n<128
  ·rw[if_pos h,pM h]
  ·rw[if_neg h,pI h,Vr f (n / 128) (Nat.div_lt_of_lt_mul (by rw[Nat.pow_succ,Nat.mul_comm]at hn;exact hn)) ?_]
   rcases Nat.eq_zero_or_pos f with rfl|hf
   ·simp at hn;omega
   ·exact hf
theorem VA:∀ (f n:Nat),n<128^f→1≤f→bG G (uvN f n) (gp n)
 |0,_,_,h=>by omega
 |f+1,n,hn,_=>by
  unfold uvN
  split
  ·rename_i h
   have h:=eH h
   rw[pM h]
   exact Ay (.c n (by omega))
  ·rename_i h
   have h:=Qg h
   rw[pI (by omega)]
   have:=Nat.mod_lt n (show 0<128 by decide)
   refine .cons (.c (Nat.add (Nat.mod n 128) 128)) (uvN f (Nat.div n 128)) [_] _ (.c _ (show n%128+128<256 by omega)) (VA f (n / 128) (Nat.div_lt_of_lt_mul (by rw[Nat.pow_succ,Nat.mul_comm]at hn;exact hn)) ?_)
   rcases Nat.eq_zero_or_pos f with rfl|hf
   ·simp at hn;omega
   ·exact hf
theorem JU{i:It}{x:SB}{l:bQ}(h:bG G (i::x) l):∃ a m,l=a++m∧BM G i a∧bG G x m:=by
 cases h with|cons _ _ a m p q=>exact⟨a,m,rfl,p,q⟩
theorem VC:∀ (f:Nat){s s' : SB}{n:Nat}{l:bQ},rdN f s=some (n,s')→bG G s l→∃ l',l=gp n++l'∧bG G s' l'∧n<128^f
 |0,s,s',n,l,h,_=>by simp[rdN]at h
 |f+1,s,s',n,l,h,hd=>by
  unfold rdN at h
  split at h <;>try(cases h;done)
  rename_i x r heq
  cases heq
  obtain⟨a,m,rfl,ha,hm⟩:=JU hd
  cases ha with|c _ hx =>
  split at h
  ·rename_i hb
   cases h
   have hb:=eH hb
   refine⟨m,by rw[pM hb],hm, ?_⟩
   have:128^1≤128^(f+1):=Nat.pow_le_pow_right (by decide) (by omega)
   omega
  ·rename_i hb
   have hb:=Qg hb
   split at h <;>try(cases h;done)
   rename_i v r' hne hr
   cases h
   obtain⟨m',rfl,hm',hv⟩:=VC f hr hm
   have hv0:v≠0:=hne
   have e:Nat.add (Nat.sub x 128) (Nat.mul 128 v)=x-128+128*v:=rfl
   rw[e]
   refine⟨m', ?_,hm', ?_⟩
   ·rw[pI (v:=x-128+128*v) (by omega),show(x-128+128*v)%128+128=x by omega,show(x-128+128*v) / 128=v by omega]
    rfl
   ·rw[Nat.pow_succ]
    generalize 128^f=z at hv ⊢
    omega
end
section
variable {P:Program} {G:Gd} {B:Base} {E:En} {H:SH} {M:RM} {K:KS} {C:aI} {args:List SV} {avs:List AV} {c:aB} {el t:Nat}
theorem ahL{v:AV}(h:iZ v):tF v:=by
 unfold tF;unfold iZ at h
 split<;>simp_all
theorem ak4{v:AV}(h:tF v):iZ v:=by
 unfold iZ;unfold tF at h
 split<;>simp_all
theorem ahq(hc:O9 el c)(hH:HR E H M)(ha:aP E args avs)(h:abo el C args H K=true):c avs M (HK E K):=by
 unfold abo at h
 split at h <;>try(cases h;done)
 rename_i b n
 split at h <;>try(cases h;done)
 rename_i s hs hn
 split at h <;>try(cases h;done)
 rename_i hm
 have hm:=bP hm
 have hn:=eH hn
 cases ha with|cons _ vb _ _ p q =>
 cases q with|cons _ vn _ _ p2 q2 =>
 cases p2
 cases q2
 obtain⟨l,hd,hsl⟩:=qN hH hs p
 have hlen:=(bJ hd).2
 refine hc hsl (FK l) (by omega) (show n<2^64 by omega) fun r M' o k=>?_
 refine PT (l:=l++gp n) hH (pu hd (VA 10 n (by omega) (by decide))) ?_ k h
 rw[← Ff,List.length_append]
 exact o
theorem agQ(hc:Gj el c)(hH:HR E H M)(ha:aP E args avs)(h:aby el C args H K=true):c avs M (HK E K):=by
 unfold aby at h
 split at h <;>try(cases h;done)
 rename_i b x
 split at h <;>try(cases h;done)
 rename_i s hs
 split at h <;>try(cases h;done)
 rename_i h1 h2
 have h1:=eH h1
 have h2:=bP h2
 cases ha with|cons _ vb _ _ p q =>
 cases q with|cons _ vn _ _ p2 q2 =>
 cases p2 with|s _ lx dx =>
 cases q2
 obtain⟨l,hd,hsl⟩:=qN hH hs p
 have hlen:=(bJ hd).2
 have hlx:=(bJ dx).2
 have hsl:Sl BY M vb l:=by unfold Sl;rw[fU];exact hsl
 refine hc hsl (by omega) fun r M' o k=>?_
 refine PT (l:=l++CY lx) hH (pu hd (Ay ?_)) o k h
 have:=BM.t (G:=E.g) x lx dx (by omega)
 rw[Vr 10 _ (by omega) (by decide)]at this
 exact this
theorem UB{sv:SV}{v:AV}{m:Nat}(h:Uw sv=some m)(hx:SR E sv v):∃ n:Nat,v=N .i64 (n:Int)∧m≤n∧n<4294967296:=by
 unfold Uw at h
 split at h <;>try(cases h;done)
 rename_i lo hi hb
 split at h <;>try(cases h;done)
 rename_i hlt
 cases h
 obtain⟨n,e,h1,h2⟩:=sQ hb hx
 have:=eH hlt
 exact⟨n,e,h1,by omega⟩
theorem Pz{rb:Nat}{v:AV}{l:bQ}(hlt:rb<M.next)(hrow:M.heap rb=some (.row [v,Bo false] false t 0))(hs:aW M 1 v (fM l) l.length)(hc:iZ v)(hn:rb∉aJ v):zI t (fun d=>d∈aJ v) M rb l false :=
 ⟨hlt,⟨v,hrow,by unfold Sl;rw[fU];exact hs,ahL hc,fun d hd=>hd⟩,hn⟩
theorem K8(hH:HR E H M){sv:SV}{b cc:Ky}{s s' : SB}{rb:Nat}{v:AV}{o:Bool}{el:Nat}{M' : RM}{Kb:SH→Bool}{l' : bQ}(hbl:E.bl b=some rb)(hsl:E.sl cc=some v)(hb:hget H b=.row [.bs cc,.b false] false t)(hcc:hget H cc=.byt s o el)(hr:rb∉aJ v)(hlt:rb<M.next)
  (hk:ah [rb] M M') (hn:M'.next=M.next) (hR:zI t (fun d=>d∈aJ v) M' rb l' false) (hd:bG E.g s' l') (h:Bv H b cc s' Kb=true):∃ E' H',E.le E'∧HR E' H' M'∧Kb H'=true:=by
 obtain⟨v',h1,h2,h3,h4⟩:=hR.row
 have h2:aW M' 1 v' (fM l') l'.length:=by unfold Sl at h2;rw[fU]at h2;exact h2
 exact ak9 hH hbl hsl hb hcc hr hlt hk hn h1 h2 (ak4 h3) h4 hd h
theorem JA{n m:Nat}{l:bQ}(hn:n<2^64)(hm:n≤m):dX m (gp n++l) false=(n,l,false):=by
 unfold dX
 rw[OX hn]
 dsimp only
 rw[if_neg (by simp;omega)]
 simp
theorem agy(hc:Yu t c)(hH:HR E H M)(ha:aP E args avs)(h:aaV t C args H K=true):c avs M (HK E K):=by
 unfold aaV at h
 split at h <;>try(cases h;done)
 rename_i r m
 split at h <;>try(cases h;done)
 rename_i b cc s m' hr hm
 split at h <;>try(cases h;done)
 rename_i n s' hs
 split at h <;>try(cases h;done)
 rename_i hnm
 have hnm:=bP hnm
 cases ha with|cons _ vb _ _ p q =>
 cases q with|cons _ vn _ _ p2 q2 =>
 cases q2
 obtain⟨mm,rfl,hm1,hm2⟩:=UB hm p2
 obtain⟨rb,v,l,rfl,e1,e2,hd,hlt,hrow,hsl,hcap,hnb,o,el,g1,g2⟩:=Ov hH hr p
 obtain⟨l',rfl,hd',hn⟩:=VC 9 hs hd
 refine hc (Pz hlt hrow hsl hcap hnb) hm2 fun M' hR hk hnx=>?_
 rw[JA (by omega) (by omega)]at hR ⊢
 obtain⟨E',H',k1,k2,k3⟩:=K8 (sv:=r) hH e1 e2 g1 g2 hnb hlt hk hnx hR hd' h
 exact⟨E',_,H',k1,k2,.i _ _,k3⟩
theorem aez(hc:Oi t c)(hH:HR E H M)(ha:aP E args avs)(h:X4 t C args H K=true):c avs M (HK E K):=by
 unfold X4 at h
 split at h <;>try(cases h;done)
 rename_i r
 split at h <;>try(cases h;done)
 rename_i b cc s hr
 split at h <;>try(cases h;done)
 rename_i n s' hs
 cases ha with|cons _ vb _ _ p q =>
 cases q
 obtain⟨rb,v,l,rfl,e1,e2,hd,hlt,hrow,hsl,hcap,hnb,o,el,g1,g2⟩:=Ov hH hr p
 obtain⟨l',rfl,hd',hn⟩:=VC 9 hs hd
 refine hc (Pz hlt hrow hsl hcap hnb) fun M' hR hk hnx=>?_
 rw[JA (by omega) (by omega)]at hR ⊢
 obtain⟨E',H',k1,k2,k3⟩:=K8 (sv:=r) hH e1 e2 g1 g2 hnb hlt hk hnx hR hd' h
 exact⟨E',_,H',k1,k2,.i _ _,k3⟩
theorem ach{m:Nat}{x l:bQ}(hx:x.length≤m)(h2:x.length<2^64):rf m (gp x.length++x++l) false=(x,l,false):=by
 unfold rf
 rw[List.append_assoc,JA h2 hx]
 dsimp only
 rw[if_neg (by simp)]
 simp
theorem afW(hc:Uv t c)(hH:HR E H M)(ha:aP E args avs)(h:Wv t C args H K=true):c avs M (HK E K):=by
 unfold Wv at h
 split at h <;>try(cases h;done)
 rename_i r m
 split at h <;>try(cases h;done)
 rename_i b cc x s m' hr hm
 split at h <;>try(cases h;done)
 rename_i hnm
 have hnm:=bP hnm
 cases ha with|cons _ vb _ _ p q =>
 cases q with|cons _ vn _ _ p2 q2 =>
 cases q2
 obtain⟨mm,rfl,hm1,hm2⟩:=UB hm p2
 obtain⟨rb,v,l,rfl,e1,e2,hd,hlt,hrow,hsl,hcap,hnb,o,el,g1,g2⟩:=Ov hH hr p
 obtain⟨a,l',rfl,hda,hd'⟩:=JU hd
 cases hda with|t _ lx dx hlx =>
 have hl:=(bJ dx).2
 rw[Vr 10 _ (by omega) (by decide)]at hd hsl
 refine hc (Pz hlt hrow hsl hcap hnb) hm2 fun M' hR hk hnx=>?_
 rw[ach (by omega) (by omega)]at hR ⊢
 obtain⟨E',H',k1,k2,k3⟩:=K8 (sv:=r) hH e1 e2 g1 g2 hnb hlt hk hnx hR hd' h
 exact⟨E',_,H',k1,k2,.s _ _ (by rw[k1.g];exact dx),k3⟩
end
end Go.Ab.Sy
namespace Go.Ab.Hw
open Go Go.Ab
end Go.Ab.Hw
namespace Go.Ab.Hw
open Go Go.Ab Go.Ab.Sm
open Go.Ab.Vl (brk)
theorem PH{p:UInt8→Bool}(h:(List.range 256).all (fun n=>p (UInt8.ofNat n))=true)(x:UInt8):p x=true:=by
 have:=List.all_eq_true.1 h x.toNat (List.mem_range.2 x.toNat_lt)
 simpa using this
def ajL(x:UInt8):Bool:=!Co (bO x)||(x != 13&&x != 58&&x != 10&&x != 32)
def ama(x:UInt8):Bool:=!BB x||(x != 13&&x != 10)
def aeN(x:UInt8):Bool:=!xZ x||(x != 13&&x != 10&&x != 32)
def aqE(x:UInt8):Bool:=!J4 x||(x != 13&&x != 10&&x != 32)
theorem aeQ:∀ x,ajL x=true:=PH (by decide +kernel)
theorem aia:∀ x,ama x=true:=PH (by decide +kernel)
theorem acP:∀ x,aeN x=true:=PH (by decide +kernel)
theorem ajb:∀ x,aqE x=true:=PH (by decide +kernel)
theorem WX{s:Str}(h:fI s=true){x:UInt8}(hx:x∈s):x≠13∧x≠58∧x≠10∧x≠32:=by
 unfold fI at h
 rw[Bool.and_eq_true]at h
 have h1:=List.all_eq_true.1 h.2 (bO x) (List.mem_map.2 ⟨x,hx,rfl⟩)
 have h2:=aeQ x
 unfold ajL at h2
 rw[h1]at h2
 simpa [and_assoc]using h2
theorem al4{s:Str}(h:dZ s=true){x:UInt8}(hx:x∈s):x≠13∧x≠10:=by
 unfold dZ at h
 rw[Bool.and_eq_true]at h
 have h1:=List.all_eq_true.1 h.2 x hx
 have h2:=aia x
 unfold ama at h2
 rw[h1]at h2
 simpa using h2
theorem Ru{s:Str}(h:jh s=true){x:UInt8}(hx:x∈s):x≠13∧x≠10∧x≠32:=by
 unfold jh at h
 rw[Bool.and_eq_true]at h
 have h1:=List.all_eq_true.1 h.2 x hx
 have h2:=acP x
 unfold aeN at h2
 rw[h1]at h2
 simpa [and_assoc]using h2
theorem UC{s:Str}(h:j3 s=true){x:UInt8}(hx:x∈s):x≠13∧x≠10∧x≠32:=by
 unfold j3 at h
 rw[Bool.and_eq_true]at h
 have h1:=List.all_eq_true.1 h.2 x hx
 have h2:=ajb x
 unfold aqE at h2
 rw[h1]at h2
 simpa [and_assoc]using h2
theorem alG:∀ m:Fin 10,(fQ (qz m.val)&&((qz m.val).toNat-48==m.val)&&BB (qz m.val) && !([32,9]:Str).contains (qz m.val))=true:=by decide +kernel
theorem VO(s:Str)(x:UInt8):jR (s++[x])=jR s*10+(x.toNat-48):=by simp[jR]
theorem ZF{d:Nat}(h:d<10):fQ (qz d)=true∧(qz d).toNat-48=d∧BB (qz d)=true∧([32,9]:Str).contains (qz d)=false:=by
 have:=alG ⟨d,h⟩
 simp only[Bool.and_eq_true,beq_iff_eq,Bool.not_eq_true']at this
 exact⟨this.1.1.1,this.1.1.2,this.1.2,this.2⟩
structure ajy(n:Nat)(s:Str):Prop where
 val:jR s=n
 dig:s.all fQ=true
 vals:s.all BB=true
 bl:∀ x∈s,([32,9]:Str).contains x=false
 pos:1≤s.length
 len:∀ k,1≤k→n<10^k→s.length≤k
theorem aiT:∀ (f n:Nat),n<10^f→1≤f→ajy n (zm 10 f n):=by
 intro f
 induction f with
 |zero=>intro n _ h;omega
 |succ f ih =>
  intro n hn _
  by_cases h:n<10
  ·rw[OH h]
   obtain⟨h1,h2,h3,h4⟩:=ZF h
   refine⟨?_,by simp[h1],by simp[h3],fun x hx=>?_,by simp,fun k hk _=>by simpa using hk⟩
   ·rw[show[qz n]=[]++[qz n]from rfl,VO]
    simpa [jR]using h2
   ·have:x=qz n:=by simpa using hx
    rw[this];exact h4
  ·rw[Yi h]
   have hf:1≤f:=by
    rcases Nat.eq_zero_or_pos f with rfl|h'
    ·simp at hn;omega
    ·exact h'
   have i:=ih (n / 10) (by rw[Nat.pow_succ]at hn;exact Nat.div_lt_of_lt_mul (by rw[Nat.mul_comm];exact hn)) hf
   obtain⟨h1,h2,h3,h4⟩:=ZF (Nat.mod_lt n (show 0<10 by decide))
   refine⟨?_,by rw[List.all_append,i.dig];simp[h1],by rw[List.all_append,i.vals];simp[h3],fun x hx=>?_,by simp,fun k hk hk2=>?_⟩
   ·rw[VO,i.val,h2];omega
   ·rcases List.mem_append.1 hx with hx|hx
    ·exact i.bl x hx
    ·have:x=qz (n%10):=by simpa using hx
     rw[this];exact h4
   ·rcases Nat.lt_or_ge k 2 with h'|h'
    ·have:k=1:=by omega
     subst this
     simp at hk2;omega
    ·obtain⟨j,rfl⟩ : ∃ j,k=j+1:=⟨k-1,by omega⟩
     have:=i.len j (by omega) (by rw[Nat.pow_succ]at hk2;exact Nat.div_lt_of_lt_mul (by rw[Nat.mul_comm];exact hk2))
     simp;omega
theorem Lb{n:Nat}(h:n≤100000):ajy n (fT n):=aiT 20 n (Nat.lt_of_le_of_lt h (by decide)) (by decide)
theorem adw(s:Str):trimB (32::s)=trimB s:=by
 unfold trimB Lib.trimS Lib.trimRightS
 rw[List.reverse_cons,List.dropWhile_append]
 cases h:(s.reverse.dropWhile (([32,9]:Str).contains ·))with
 |nil =>
  rw[if_pos (by simp)]
  rfl
 |cons x t =>
  rw[if_neg (by simp)]
  rw[List.reverse_append]
  rfl
theorem agB{s:Str}(h:∀ x∈s,([32,9]:Str).contains x=false):trimB s=s:=by
 have dw:∀ l:Str,(∀ x∈l,([32,9]:Str).contains x=false)→l.dropWhile (([32,9]:Str).contains ·)=l:=fun l hl=>by
  cases l with
  |nil=>rfl
  |cons x t=>rw[List.dropWhile_cons,hl x (by simp),if_neg (by decide)]
 unfold trimB Lib.trimS Lib.trimRightS Lib.trimLeftS
 rw[dw s.reverse (fun x hx=>h x (List.mem_reverse.1 hx)),List.reverse_reverse,dw s h]
theorem Qk{x:UInt8}{r:Str}:∀ {s:Str},x∉s→brk x (s++x::r)=some (s,r)
 |[],_=>by simp[brk]
 |c::t,h=>by
  have hc:c≠x:=fun e=>h (by simp[e])
  have ht:x∉t:=fun e=>h (by simp[e])
  rw[List.cons_append,brk,if_neg hc,Qk ht]
  rfl
theorem Sa{R:Str}:∀ {s:Str},(13:UInt8)∉s→crlf (s++13::10::R)=some (s,R)
 |[],_=>rfl
 |[c],h=>by
  have hc:c≠13:=fun e=>h (by simp[e])
  have:(c==13&&(13:UInt8)==10)=false:=by simp
  rw[List.cons_append,List.nil_append,crlf,this]
  rfl
 |c::d::t,h=>by
  have hc:(c==13)=false:=beq_eq_false_iff_ne.2 fun e=>h (by simp[e])
  rw[List.cons_append,List.cons_append,crlf,hc,Bool.false_and]
  have:=Sa (R:=R) (s:=d::t) (fun e=>h (List.mem_cons_of_mem _ e))
  rw[List.cons_append]at this
  rw[this]
theorem Gu{P s R:Str}(h13:(13:UInt8)∉s)(hl:P.length+s.length+2≤2048):qY (P++(s++13::10::R)) P.length=.ok (s,P.length+s.length+2):=by
 unfold qY
 have:((P++(s++13::10::R)).take 2048).drop P.length=s++13::10::R.take (2048-P.length-s.length-2):=by
  rw[List.take_append,List.take_of_length_le (by omega),List.drop_left' rfl,List.take_append,List.take_of_length_le (by omega)]
  obtain⟨k,hk⟩ : ∃ k,2048-P.length-s.length=k+2:=⟨2048-P.length-s.length-2,by omega⟩
  rw[hk]
  rfl
 rw[this,Sa h13]
theorem X8{n v:Str}(hn:fI n=true)(hv:dZ v=true):gU (n++58::32::v)=some (n,v):=by
 unfold gU
 rw[Qk (fun h=>(WX hn h).2.1 rfl)]
 dsimp only
 have:trimB v=v:=by
  unfold dZ at hv
  rw[Bool.and_eq_true]at hv
  exact(eq_of_beq hv.1).symm
 rw[adw,this,hn,hv]
 rfl
theorem XL(h:Hd)(R:Str):dH h++R=(h.1++58::32::h.2)++13::10::R:=by simp[dH]
theorem PV:∀ (L:List Hd)(P R:Str)(acc:List Hd)(f:Nat),(∀ h∈L,fI h.1=true∧dZ h.2=true)→L.length≤f→P.length+(L.flatMap dH).length+2≤2048 →
  hloop (P++(L.flatMap dH++13::10::R)) f P.length acc=.ok (acc++L,P.length+(L.flatMap dH).length+2)
 |[],P,R,acc,f,_,_,hl=>by
  rw[nE,List.flatMap_nil]
  have:=Gu (P:=P) (s:=[]) (R:=R) (by simp) (by simpa using hl)
  rw[this]
  simp
 |h::L,P,R,acc,f,hg,hf,hl=>by
  obtain⟨hn,hv⟩:=hg h (by simp)
  have e:(h::L).flatMap dH++13::10::R=(h.1++58::32::h.2)++13::10::(L.flatMap dH++13::10::R):=by
   rw[List.flatMap_cons,List.append_assoc,XL]
  have ll:(dH h).length=(h.1++58::32::h.2).length+2:=by simp[dH];omega
  have l2:((h::L).flatMap dH).length=(dH h).length+(L.flatMap dH).length:=by simp
  have h13:(13:UInt8)∉h.1++58::32::h.2:=fun hm=>by
   rcases List.mem_append.1 hm with hm|hm
   ·exact(WX hn hm).1 rfl
   ·rcases List.mem_cons.1 hm with hm|hm
    ·exact absurd hm (by decide)
    ·rcases List.mem_cons.1 hm with hm|hm
     ·exact absurd hm (by decide)
     ·exact(al4 hv hm).1 rfl
  rw[nE,e,Gu h13 (by omega)]
  dsimp only
  obtain⟨f',rfl⟩ : ∃ f',f=f'+1:=⟨f-1,by simp at hf;omega⟩
  have hd:=X8 hn hv
  obtain⟨x,xs,hx⟩ : ∃ x xs,h.1++58::32::h.2=x::xs:=by
   cases h.1 with
   |nil=>exact⟨_,_,rfl⟩
   |cons a b=>exact⟨_,_,rfl⟩
  have ih:=PV L (P++dH h) R (acc++[h]) f' (fun y hy=>hg y (by simp[hy])) (by simp at hf;omega) (by simp only[List.length_append];omega)
  rw[List.append_assoc,XL]at ih
  rw[hx]at hd ll ih ⊢
  dsimp only
  rw[hd]
  dsimp only
  rw[List.length_append,ll]at ih
  rw[show P.length+(x::xs).length+2=P.length+((x::xs).length+2) by omega,ih,l2,ll]
  simp only[List.append_assoc,List.cons_append,List.nil_append,Nat.add_assoc]
theorem OG{p:Str→Bool}{first R:Str}{L:List Hd}(h13:(13:UInt8)∉first)(hp:p first=true)(hg:∀ h∈L,fI h.1=true∧dZ h.2=true)(hn:L.length≤32)
  (hl:first.length+2+(L.flatMap dH).length+2≤2048):headD p (first++13::10::(L.flatMap dH++13::10::R))=.ok (first,L,first.length+2+(L.flatMap dH).length+2):=by
 unfold headD
 have h1:=Gu (P:=[]) (s:=first) (R:=L.flatMap dH++13::10::R) h13 (by simp;omega)
 rw[List.nil_append,List.length_nil,Nat.zero_add]at h1
 rw[h1]
 dsimp only
 rw[hp]
 dsimp only
 have h2:=PV L (first++[13,10]) R [] 32 hg hn (by rw[List.length_append];exact hl)
 have e:first++[13,10]++(L.flatMap dH++13::10::R)=first++13::10::(L.flatMap dH++13::10::R):=by simp
 have e2:(first++[13,10]).length=first.length+2:=by simp
 rw[e,e2]at h2
 rw[h2,List.nil_append]
theorem ace{x:UInt8}:∀ {s:Str},x∉s→words x s=[s]:=fun {s} h=>by
 rw[yA]
 cases hb:brk x s with
 |none=>rfl
 |some p =>
  obtain⟨a,b⟩:=p
  have:=CU hb
  have h0:s.count x=0:=List.count_eq_zero.2 h
  omega
theorem SI{x:UInt8}{s r:Str}(h:x∉s):words x (s++x::r)=s::words x r:=by
 rw[yA,Qk h]
theorem I9{m p:Str}(h:zt m p=true):lN (nD m p)=some (m,p):=by
 unfold zt at h
 rw[Bool.and_eq_true]at h
 have e:nD m p=m++32::(p++32::WV):=by simp[nD]
 unfold lN
 rw[e,SI (fun hx=>(Ru h.1 hx).2.2 rfl),SI (fun hx=>(UC h.2 hx).2.2 rfl),ace (by decide)]
 dsimp only
 have:zQ m p WV=true:=by unfold zQ;rw[h.1,h.2];rfl
 rw[this]
theorem adg{m p:Str}(h:zt m p=true):(13:UInt8)∉nD m p:=by
 unfold zt at h
 rw[Bool.and_eq_true]at h
 intro hx
 have e:nD m p=m++32::(p++32::WV):=by simp[nD]
 rw[e]at hx
 rcases List.mem_append.1 hx with hx|hx
 ·exact(Ru h.1 hx).1 rfl
 ·rcases List.mem_cons.1 hx with hx|hx
  ·exact absurd hx (by decide)
  ·rcases List.mem_append.1 hx with hx|hx
   ·exact(UC h.2 hx).1 rfl
   ·revert hx;decide
theorem Yt{m p R:Str}{L:List Hd}(h:zt m p=true)(hg:∀ h∈L,fI h.1=true∧dZ h.2=true)(hn:L.length≤32)
  (hl:(nD m p).length+2+(L.flatMap dH).length+2≤2048) {out r:Str} (hb:z8 R L=.ok (out,r)):nT (nD m p++13::10::(L.flatMap dH++13::10::R))=.ok ((m,p,L,out),r):=by
 unfold nT
 have hp:A8 (nD m p)=true:=by unfold A8;rw[I9 h];rfl
 rw[OG (adg h) hp hg hn hl]
 dsimp only
 have e:nD m p++13::10::(L.flatMap dH++13::10::R)=(nD m p++[13,10]++L.flatMap dH++[13,10])++R:=by simp
 rw[e,List.drop_left' (by simp;omega),hb]
 dsimp only
 rw[I9 h]
theorem ac4(a b:List Hd)(n:Str):bD (a++b) n=bD a n++bD b n:=by simp[bD]
theorem ME{l:List Hd}{n:Str}(h:∀ x∈l,low x.1≠low n):bD l n=[]:=by
 unfold bD
 have:l.filter (isNamed n)=[]:=List.filter_eq_nil_iff.2 (fun x hx hh=>h x hx (eq_of_beq hh))
 rw[this]
 rfl
theorem ao6:low Fh=Fh:=by decide
theorem afx:low BN=BN:=by decide
theorem abr{x:Hd}{n:Str}(h:low x.1=low n):bD [x] n=[x.2]:=by
 unfold bD
 have:isNamed n x=true:=by unfold isNamed;rw[h];exact beq_self_eq_true _
 rw[List.filter_cons,if_pos this]
 rfl
theorem RQ{l:List Hd}{more:Hd}{body t:Str}(hl:∀ x∈l,low x.1≠Fh∧low x.1≠BN)(hm:low more.1=BN)(hv:more.2=fT body.length)(hb:body.length≤16384):z8 (body++t) (l++[more])=.ok (body,t):=by
 have d:=Lb (show body.length≤100000 by omega)
 have e1:bD (l++[more]) Fh=[]:=ME fun x hx=>by
  rw[ao6]
  rcases List.mem_append.1 hx with hx|hx
  ·exact(hl x hx).1
  ·have:x=more:=by simpa using hx
   rw[this,hm];decide
 have e2:bD (l++[more]) BN=[fT body.length]:=by
  rw[ac4,ME (fun x hx=>by rw[afx];exact(hl x hx).2),abr (by rw[hm,afx]),hv]
  rfl
 unfold z8
 rw[e1,e2]
 dsimp only
 have ok:Dt (fT body.length)=true:=by
  unfold Dt jX
  have h1:=d.pos
  have h2:=d.len 9 (by decide) (Nat.lt_of_le_of_lt hb (by decide))
  rw[d.dig]
  simp only[Bool.and_true,Bool.and_eq_true,decide_eq_true_eq]
  omega
 rw[ok,d.val]
 dsimp only
 rw[pW (by omega)]
 dsimp only
 rw[pW (by simp)]
 dsimp only
 rw[List.take_left' rfl,List.drop_left' rfl]
theorem NY{l:List Hd}(h:l.all rJ=true):∀ x∈l,fI x.1=true∧dZ x.2=true∧low x.1≠Fh∧low x.1≠BN:=fun x hx=>by
 have:=List.all_eq_true.1 h x hx
 unfold rJ at this
 simp only[Bool.not_eq_true',Bool.or_eq_false_iff,Bool.not_eq_false',beq_eq_false_iff_ne]at this
 exact⟨this.1.1.1,this.1.1.2,this.1.2,this.2⟩
theorem Qd(first:Str)(l:List Hd)(more:Hd)(R:Str):lM first l more++R=first++13::10::((l++[more]).flatMap dH++13::10::R):=by
 simp[lM,qZ]
theorem Kz{l:List Hd}{s:Str}{sz:Nat}(h:sw l s sz=false):l.length+1≤32∧s.length≤2048∧sz≤16384:=by
 unfold sw at h
 simp only[Bool.or_eq_false_iff,decide_eq_false_iff_not]at h
 omega
theorem Mo:fI vR=true:=by decide +kernel
theorem aaF:low vR=BN:=by decide
theorem Jc{n:Nat}(h:n≤100000):dZ (fT n)=true:=by
 have d:=Lb h
 unfold dZ
 rw[agB d.bl,beq_self_eq_true,d.vals]
 rfl
theorem Eh{first:Str}{l:List Hd}{more:Hd}{sz:Nat}{body s:Str}(h:iE first l more sz body=.ok s):l.all rJ=true∧sw l (lM first l more) sz=false∧s=lM first l more++body:=by
 unfold iE at h
 split at h
 ·cases h
 ·split at h
  ·cases h
  ·cases h;exact⟨by assumption,by assumption,rfl⟩
theorem WC(first:Str)(l:List Hd)(more:Hd):(lM first l more).length=first.length+2+((l++[more]).flatMap dH).length+2:=by
 have:=congrArg List.length (Qd first l more [])
 simp only[List.length_append,List.length_cons,List.length_nil]at this
 omega
theorem Tw{m p:Str}{l:List Hd}{body s:Str}(h:jG m p l body=.ok s)(t:Str):nT (s++t)=.ok ((m,p,l++[(vR,fT body.length)],body),t):=by
 unfold jG at h
 split at h
 ·cases h
 ·rename_i hok
  obtain⟨h1,h2,rfl⟩:=Eh h
  obtain⟨h3,h4,h5⟩:=Kz h2
  have ha:=NY h1
  rw[List.append_assoc,Qd]
  rw[WC]at h4
  refine Yt hok (fun x hx=>?_) (by simp;omega) h4 (RQ (fun x hx=>(ha x hx).2.2) aaF rfl h5)
  rcases List.mem_append.1 hx with hx|hx
  ·exact⟨(ha x hx).1,(ha x hx).2.1⟩
  ·have:x=(vR,fT body.length):=by simpa using hx
   subst this
   exact⟨Mo,Jc (by omega)⟩
end Go.Ab.Hw
namespace Go.Ab.Sy
open Go Go.Ab Go.RowKit
open Go.Ab.Hw
def eT(l:List Nat):bQ:=l.map UInt8.ofNat
def hB(h:List (List Nat×List Nat)):List Hd:=h.map fun x=>(eT x.1,eT x.2)
abbrev sV(n:Nat):Hd:=(vR,fT n)
def aa7(l:List Nat):Bool:=l.all fun n=>decide (n<256)
def ZT(h:List (List Nat×List Nat)):Bool:=h.all fun x=>aa7 x.1&&aa7 x.2&&decide (x.2.length≤1900)
def DI(e:List Nat×List Nat×List (List Nat×List Nat)):Bool :=
 zt (eT e.1) (eT e.2.1)&&(hB e.2.2).all rJ&&decide ((qZ (nD (eT e.1) (eT e.2.1)) (hB e.2.2)).length≤1900)&&decide (e.2.2.length≤30)&&aa7 e.1&&aa7 e.2.1&&ZT e.2.2
def wY(e:Nat×List (List Nat×List Nat)):Bool :=
 !LH (e.1:Int)&&(hB e.2).all rJ&&decide ((qZ (mh (e.1:Int)) (hB e.2)).length≤1900)&&decide (e.2.length≤30)&&ZT e.2&&uu (mh (e.1:Int))&&decide (codeOf (mh (e.1:Int))=e.1)&&(mh (e.1:Int)).all (fun x=>decide (x≠13))
theorem Ol(h:List (List Nat×List Nat)):(hB h).length=h.length:=by simp[hB]
theorem aft{n:Nat}(h:n≤16384):19≤(dH (sV n)).length∧(dH (sV n)).length≤23:=by
 have d:=Lb (show n≤100000 by omega)
 have h1:=d.pos
 have h2:=d.len 5 (by decide) (by omega)
 simp only[dH,sV,List.length_append,List.length_cons,List.length_nil]
 omega
theorem Si(first:Str)(l:List Hd)(more:Hd):(lM first l more).length=(qZ first l).length+(dH more).length+2:=by
 simp only[lM,List.length_append,List.length_cons,List.length_nil];omega
theorem OL{first:Str}{h:List (List Nat×List Nat)}{b:Str}(h1:(hB h).all rJ=true)(h2:(qZ first (hB h)).length≤1900)(h3:h.length≤30)(hb:b.length≤16384) :
  iE first (hB h) (sV b.length) b.length b=.ok (lM first (hB h) (sV b.length)++b):=by
 have hc:=aft hb
 unfold iE
 rw[h1]
 dsimp only
 have:sw (hB h) (lM first (hB h) (sV b.length)) b.length=false:=by
  unfold sw
  rw[Si,Ol]
  simp only[Bool.or_eq_false_iff,decide_eq_false_iff_not]
  omega
 rw[this]
theorem Mt{first:Str}{l:List Hd}{b s:Str}(hb:b.length≤16384)(h:iE first l (sV b.length) b.length b=.ok s):b.length+20≤s.length∧s.length≤b.length+3000:=by
 obtain⟨h1,h2,rfl⟩:=Eh h
 obtain⟨g1,g2,g3⟩:=Kz h2
 have hc:=aft hb
 rw[List.length_append]
 have:=Si first l (sV b.length)
 omega
theorem Tx{n:Nat}{R:Str}{L:List Hd}(hp:uu (mh (n:Int))=true)(hc:codeOf (mh (n:Int))=n)(h13:(13:UInt8)∉mh (n:Int))(hg:∀ h∈L,fI h.1=true∧dZ h.2=true)(hn:L.length≤32)
  (hl:(mh (n:Int)).length+2+(L.flatMap dH).length+2≤2048) {out r:Str} (hb:z8 R L=.ok (out,r)):nN (mh (n:Int)++13::10::(L.flatMap dH++13::10::R))=.ok ((n,L,out),r):=by
 unfold nN
 rw[OG h13 hp hg hn hl]
 dsimp only
 have e:mh (n:Int)++13::10::(L.flatMap dH++13::10::R)=(mh (n:Int)++[13,10]++L.flatMap dH++[13,10])++R:=by simp
 rw[e,List.drop_left' (by simp;omega),hb]
 dsimp only
 rw[hc]
theorem Sk{c:Nat}{h:List (List Nat×List Nat)}{b:Str}(ho:wY (c,h)=true)(hb:b.length≤16384):∃ s,jq (c:Int) (hB h) b=.ok s∧nN s=.ok ((c,hB h++[sV b.length],b),[]):=by
 unfold wY at ho
 simp only[Bool.and_eq_true,Bool.not_eq_true',decide_eq_true_eq]at ho
 obtain⟨⟨⟨⟨⟨⟨⟨h1,h2⟩,h3⟩,h4⟩,h5⟩,h6⟩,h7⟩,h8⟩:=ho
 have hpr:=OL h2 h3 h4 hb
 refine⟨_,by unfold jq;rw[h1];exact hpr, ?_⟩
 obtain⟨g1,g2,_⟩:=Eh hpr
 obtain⟨g3,g4,g5⟩:=Kz g2
 have ha:=NY g1
 rw[Qd]
 rw[WC]at g4
 have h13:(13:UInt8)∉mh (c:Int):=fun hx=>by
  have:=List.all_eq_true.1 h8 _ hx
  simp at this
 have hbd:=RQ (t:=[]) (more:=sV b.length) (fun x hx=>(ha x hx).2.2) aaF rfl g5
 rw[List.append_nil]at hbd
 refine Tx h6 h7 h13 (fun x hx=>?_) (by simp;omega) g4 hbd
 rcases List.mem_append.1 hx with hx|hx
 ·exact⟨(ha x hx).1,(ha x hx).2.1⟩
 ·have:x=sV b.length:=by simpa using hx
  subst this
  exact⟨Mo,Jc (by omega)⟩
theorem XT{m p:List Nat}{h:List (List Nat×List Nat)}{b:Str}(ho:DI (m,p,h)=true)(hb:b.length≤16384):∃ s,jG (eT m) (eT p) (hB h) b=.ok s∧nT s=.ok ((eT m,eT p,hB h++[sV b.length],b),[]):=by
 unfold DI at ho
 simp only[Bool.and_eq_true,decide_eq_true_eq]at ho
 obtain⟨⟨⟨⟨⟨⟨h1,h2⟩,h3⟩,h4⟩,h5⟩,h6⟩,h7⟩:=ho
 have hpr:=OL h2 h3 h4 hb
 have e:jG (eT m) (eT p) (hB h) b=.ok (lM (nD (eT m) (eT p)) (hB h) (sV b.length)++b):=by unfold jG;rw[h1];exact hpr
 refine⟨_,e, ?_⟩
 have:=Tw e []
 rw[List.append_nil]at this
 exact this
def lZ(at' : Nat→bQ):Gd where
 at':=at'
 rq m p h b s:=jG (eT m) (eT p) (hB h) b=.ok s∧b.length≤16384∧DI (m,p,h)=true
 rs c h b s:=jq (c:Int) (hB h) b=.ok s∧b.length≤16384∧wY (c,h)=true
 rqL:=fun⟨h1,h2,h3⟩=>by
  unfold jG at h1
  split at h1
  ·cases h1
  ·exact Mt h2 h1
 rsL:=fun⟨h1,h2,h3⟩=>by
  unfold jq at h1
  split at h1
  ·cases h1
  ·exact Mt h2 h1
 rqF:=fun⟨h1,_⟩ ⟨h2,_⟩=>by rw[h1]at h2;cases h2;rfl
 rsF:=fun⟨h1,_⟩ ⟨h2,_⟩=>by rw[h1]at h2;cases h2;rfl
section
variable {P:Program} {at' : Nat→bQ} {B:Base} {E:En} {H:SH} {M:RM} {K:KS} {C:aI} {args:List SV} {avs:List AV} {c:aB} {el eh:Nat}
theorem VD:∀ (n:Nat){cs:List SV}{us:List AV}{l:List (List Nat×List Nat)},cs.length≤n→aP E cs us→OC cs=some l→us=HD.row (hB l)
 |0,[],us,l,_,hs,h=>by cases hs;simp only[OC]at h;cases h;rfl
 |0,_::_,_,_,hn,_,_=>by simp at hn
 |n+1,cs,us,l,hn,hs,h=>by
  unfold OC at h
  split at h <;>try(cases h;done)
  ·cases h;cases hs;rfl
  ·rename_i a b r
   split at h <;>try(cases h;done)
   rename_i x y l' hx hy hl
   cases h
   cases hs with|cons _ _ _ _ p q =>
   cases q with|cons _ _ _ _ p2 q2 =>
   cases p with|s _ lx dx =>
   cases p2 with|s _ ly dy =>
   obtain⟨rfl,_⟩:=fG dx hx
   obtain⟨rfl,_⟩:=fG dy hy
   have ih:=VD n (by simp at hn;omega) q2 hl
   subst ih
   rfl
theorem Vs(hH:HR E H M){sv:SV}{v:AV}{size n:Nat}{vs:List SV}(hx:SR E sv v)(h:rowOf sv H size=some (n,vs)):∃ us,aP E vs us∧aW M size v us n:=by
 unfold rowOf at h
 split at h <;>try(cases h;done)
 ·split at h <;>try(cases h;done)
  rename_i cs hc
  cases h
  cases hx with|slc _ _ n b' _ e =>
  obtain⟨us,e1,e2,e3⟩:=lc hH hc e
  exact⟨us,e2,.slc _ _ _ _ _ e3 e1⟩
 ·cases h;cases hx;exact⟨[],.nil,.emp _⟩
 ·cases h;cases hx;exact⟨[],.nil,.nil⟩
theorem Zq{size n:Nat}{v:AV}{us:List AV}(h:aW M size v us n):us.length=n*size:=by
 cases h with
 |nil=>simp
 |emp=>simp
 |slc _ _ _ _ _ _ h=>exact lv h
theorem Xx(hH:HR E H M){sv:SV}{v:AV}{l:List (List Nat×List Nat)}(hx:SR E sv v)(h:T9 H sv=some l):Sl HD M v (hB l):=by
 unfold T9 at h
 split at h <;>try(cases h;done)
 rename_i n cs hr
 obtain⟨us,h1,h2⟩:=Vs hH hx hr
 have:=VD cs.length (Nat.le_refl _) h1 h
 have hl:=Zq h2
 subst this
 have e:(HD.row (hB l)).length=(hB l).length*2:=HD.ig _
 have hn:n=(hB l).length:=by omega
 subst hn
 exact h2
theorem Rx{m p:List Nat}{h:List (List Nat×List Nat)}:∀ {t:List (List Nat×List Nat×List (List Nat×List Nat))},Uz m p h t=true→(m,p,h)∈t
 |[],h'=>by cases h'
 |(a,b,c)::r,h'=>by
  simp only[Uz]at h'
  split at h'
  ·rename_i he
   simp only[Bool.and_eq_true]at he
   rw[jl he.1,jl he.2.1,rP he.2.2]
   exact List.mem_cons_self ..
  ·exact List.mem_cons_of_mem _ (Rx h')
theorem OM{n:Nat}{h:List (List Nat×List Nat)}:∀ {t:List (Nat×List (List Nat×List Nat))},PY n h t=true→(n,h)∈t
 |[],h'=>by cases h'
 |(a,c)::r,h'=>by
  simp only[PY]at h'
  split at h'
  ·rename_i he
   simp only[Bool.and_eq_true]at he
   rw[bB he.1,rP he.2]
   exact List.mem_cons_self ..
  ·exact List.mem_cons_of_mem _ (OM h')
theorem ZK{h:List (List Nat×List Nat)}(h1:(hB h).all rJ=true)(h2:ZT h=true):∀ x∈hB h,x.1.length≤1900∧x.2.length≤1900:=by
 intro x hx
 have ha:=NY h1 x hx
 have hn:x.1.length≤40:=by
  have:=ha.1
  unfold fI jX at this
  simp only[Bool.and_eq_true,decide_eq_true_eq]at this
  omega
 obtain⟨y,hy,rfl⟩:=List.mem_map.1 hx
 have:=List.all_eq_true.1 h2 y hy
 simp only[Bool.and_eq_true,decide_eq_true_eq]at this
 refine⟨by omega, ?_⟩
 simp only[eT,List.length_map]
 exact this.2
theorem adE{tab:List (List Nat×List Nat×List (List Nat×List Nat))}(ht:tab.all DI=true)(hc:JZ B el c)(hB0:M.base=B)(hg:E.g=lZ at')(hH:HR E H M)(ha:aP E args avs)(h:Xe el tab C args H K=true):c avs M (HK E K):=by
 unfold Xe at h
 split at h <;>try(cases h;done)
 rename_i m q hs bd
 split at h <;>try(cases h;done)
 rename_i m' q' l b hm hq hl hb
 split at h <;>try(cases h;done)
 rename_i hin hbl
 have hbl:=bP hbl
 cases ha with|cons _ _ _ _ p pn =>
 cases pn
 cases p with|agg _ _ p =>
 cases p with|cons _ _ _ _ p1 p =>
 cases p with|cons _ _ _ _ p2 p =>
 cases p with|cons _ vh _ _ p3 p =>
 cases p with|cons _ vb _ _ p4 p =>
 cases p
 cases p1 with|s _ lm dm =>
 cases p2 with|s _ lq dq =>
 obtain⟨rfl,hm256⟩:=fG dm hm
 obtain⟨rfl,hq256⟩:=fG dq hq
 obtain⟨lb,db,sb⟩:=qN hH hb p4
 have hlb:=(bJ db).2
 have ho:=List.all_eq_true.1 ht _ (Rx hin)
 obtain⟨s,e1,e2⟩:=XT ho (show lb.length≤16384 by omega)
 have ho2:=ho
 unfold DI at ho2
 simp only[Bool.and_eq_true,decide_eq_true_eq]at ho2
 obtain⟨⟨⟨⟨⟨⟨h1,h2⟩,h3⟩,h4⟩,h5⟩,h6⟩,h7⟩:=ho2
 have hlen:=ZK h2 h7
 have hmp:=YM h1
 have sb' : Sl BY M vb lb:=by unfold Sl;rw[fU];exact sb
 have fold:∀ x:List Nat,x.map UInt8.ofNat=eT x:=fun _=>rfl
 rw[fold,fold]
 refine hc hB0 (Xx hH p3 hl) (by rw[Ol];omega) (fun x hx=>by have:=hlen x hx;omega) (by omega) (by omega) sb' (by omega) (fun s' v' M' e3 _ k o=>?_) (fun e M' e3 _ _=>?_)
 ·rw[e1]at e3;cases e3
  have d:bG E.g [.q m' q' l b] s:=Ay (.q _ _ _ _ lb s db (by rw[hg];exact⟨e1,by omega,ho⟩))
  obtain⟨E',g1,g2,g3⟩:=Rf hH d (by unfold Ow at o;rw[fU]at o;exact o) k
  exact⟨E',_,_,g1,g2,.tup _ _ (.cons _ _ _ _ g3 (.cons _ _ _ _ (.i _ _) .nil)),h⟩
 ·rw[e1]at e3;cases e3
theorem abF{tab:List (Nat×List (List Nat×List Nat))}(ht:tab.all wY=true)(hc:GV B el c)(hB0:M.base=B)(hg:E.g=lZ at')(hH:HR E H M)(ha:aP E args avs)(h:QV el tab C args H K=true):c avs M (HK E K):=by
 unfold QV at h
 split at h <;>try(cases h;done)
 rename_i n hs bd
 split at h <;>try(cases h;done)
 rename_i l b hl hb
 split at h <;>try(cases h;done)
 rename_i hin hbl
 have hbl:=bP hbl
 cases ha with|cons _ _ _ _ p pn =>
 cases pn
 cases p with|agg _ _ p =>
 cases p with|cons _ _ _ _ p1 p =>
 cases p with|cons _ vh _ _ p3 p =>
 cases p with|cons _ vb _ _ p4 p =>
 cases p
 cases p1
 obtain⟨lb,db,sb⟩:=qN hH hb p4
 have hlb:=(bJ db).2
 have ho:=List.all_eq_true.1 ht _ (OM hin)
 obtain⟨s,e1,e2⟩:=Sk ho (show lb.length≤16384 by omega)
 have ho2:=ho
 unfold wY at ho2
 simp only[Bool.and_eq_true,Bool.not_eq_true',decide_eq_true_eq]at ho2
 obtain⟨⟨⟨⟨⟨⟨⟨h1,h2⟩,h3⟩,h4⟩,h5⟩,h6⟩,h7⟩,h8⟩:=ho2
 have hlen:=ZK h2 h5
 have sb' : Sl BY M vb lb:=by unfold Sl;rw[fU];exact sb
 refine hc hB0 (Xx hH p3 hl) (by rw[Ol];omega) (fun x hx=>by have:=hlen x hx;omega) sb' (by omega) (fun s' v' M' e3 _ k o=>?_) (fun e M' e3 _ _=>?_)
 ·have e3:jq (n:Int) (hB l) lb=.ok s':=e3
  rw[e1]at e3;cases e3
  have d:bG E.g [.r n l b] s:=Ay (.r _ _ _ lb s db (by rw[hg];exact⟨e1,by omega,ho⟩))
  obtain⟨E',g1,g2,g3⟩:=Rf hH d (by unfold Ow at o;rw[fU]at o;exact o) k
  exact⟨E',_,_,g1,g2,.tup _ _ (.cons _ _ _ _ g3 (.cons _ _ _ _ (.i _ _) .nil)),h⟩
 ·have e3:jq (n:Int) (hB l) lb=.error e:=e3
  rw[e1]at e3;cases e3
end
section
variable {P:Program} {at' : Nat→bQ} {B:Base} {E E' : En} {H:SH} {M:RM} {K:KS} {C:aI} {args:List SV} {avs:List AV} {c:aB} {el eh:Nat}
theorem HR.add{y:Bk}(h:HR E H M)(hle:E.le E')(hq:∀ q,q.nat≠H.nx.nat→E'.bl q=E.bl q∧E'.sl q=E.sl q)(hy:BR E' M H.nx y)(ho:∀ d∈bR E' H.nx y,d<M.next∧∀ q,d∉bR E q (hget H q)):HR E' (hpush H y) M:=by
 refine⟨fun q=>?_,fun q q' b hq hq'=>?_,fun q b hq=>?_,fun q hq'=>?_,h.base.trans hle.bs.symm⟩
 ·rw[fq]
  split
  ·rename_i e;rw[bF _ _ e];exact hy
  ·exact(h.blk q).keep hle rfl (Nat.le_refl _) fun b _ _=>rfl
 ·rw[fq]at hq hq'
  split at hq<;>split at hq'
  ·rename_i e e';exact bF _ _ (by omega)
  ·rename_i e e'
   rw[bF _ _ e]at hq
   rw[dJ (h.blk q') hle]at hq'
   exact absurd hq' ((ho b hq).2 q')
  ·rename_i e e'
   rw[bF _ _ e']at hq'
   rw[dJ (h.blk q) hle]at hq
   exact absurd hq ((ho b hq').2 q)
  ·rw[dJ (h.blk q) hle]at hq
   rw[dJ (h.blk q') hle]at hq'
   exact h.sep q q' b hq hq'
 ·rw[fq]at hq
  split at hq
  ·rename_i e
   rw[bF _ _ e]at hq
   exact(ho b hq).1
  ·rw[dJ (h.blk q) hle]at hq
   exact h.lt q b hq
 ·rw[uV]at hq'
  have:=h.new q (by omega)
  rw[(hq q (by omega)).1,(hq q (by omega)).2]
  exact this
theorem own_op{M:RM}{base el size n:Nat}{v:AV}{cs:List AV}(h:Own M base el size v cs n)(hn:n≠0):∃ b,v=.slc b 0 n (.op size)∧base≤b∧b<M.next∧M.heap b=some (.row cs true el 0)∧cs.length=n*size:=by
 cases h with
 |nil=>exact absurd rfl hn
 |ex0=>exact absurd rfl hn
 |op b n cs h1 h2 h3 h4=>exact⟨b,rfl,h1,h2,h3,h4⟩
theorem MZ:∀ (l:List (List Nat×List Nat)),MF l=l.length+1
 |[]=>rfl
 |(a,b)::r=>by simp only[MF,List.length_cons,MZ r]
theorem akU{n:Nat}(hn:n≤16384):bG E.g [.u 1 9] (fT n):=by
 have d:=Lb (show n≤100000 by omega)
 exact Ay (.u 1 9 _ d.pos (d.len 9 (by decide) (by omega)))
theorem Zp{n:Nat}(hn:n≤16384):∀ (l:List (List Nat×List Nat)),ZT l=true→aP E (Ku l) (HD.row (hB l++[sV n]))
 |[],_=>by
  have e:HD.row (hB []++[sV n])=[St vR,St (fT n)]:=rfl
  rw[e]
  refine .cons _ _ _ _ (.s _ _ ?_) (.cons _ _ _ _ (.s _ _ (akU hn)) .nil)
  have:=vD (G:=E.g) (ns:=[67,111,110,116,101,110,116,45,76,101,110,103,116,104]) (by decide)
  exact this
 |(a,b)::r,h=>by
  have h':=h
  unfold ZT at h'
  rw[List.all_cons,Bool.and_eq_true]at h'
  obtain⟨h1,h2⟩:=h'
  simp only[Bool.and_eq_true,decide_eq_true_eq]at h1
  have ba:∀ n∈a,n<256:=fun x hx=>by simpa using List.all_eq_true.1 h1.1.1 x hx
  have bb:∀ n∈b,n<256:=fun x hx=>by simpa using List.all_eq_true.1 h1.1.2 x hx
  have e:HD.row (hB ((a,b)::r)++[sV n])=St (eT a)::St (eT b)::HD.row (hB r++[sV n]):=rfl
  rw[e]
  exact .cons _ _ _ _ (.s _ _ (vD ba)) (.cons _ _ _ _ (.s _ _ (vD bb)) (Zp hn r h2))
theorem WZ{M' : RM}{hv ov:AV}{l:List (List Nat×List Nat)}{bd:SB}{body:bQ}(hH:HR E H M)(k:ah [] M M')(hb:body.length≤16384)(ho:ZT l=true)(d:bG E.g bd body)(o1:Ow HD M' M.next eh hv (hB l++[sV body.length]))(o2:Ow BY M' M.next el ov body)(hd:∀ x∈aJ hv,∀ y∈aJ ov,x<y) :
  ∃ E2,E.le E2∧HR E2 (hpush (hpush H (.row (Ku l) true eh)) (.byt bd true el)) M'∧SR E2 (.slc H.nx 0 (MF l) (.op 2)) hv∧SR E2 (.bs (GG H.nx)) ov:=by
 have hlen:(hB l++[sV body.length]).length=MF l:=by rw[List.length_append,Ol,MZ];rfl
 unfold Ow at o1
 rw[hlen]at o1
 obtain⟨b,rfl,h1,h2,h3,h4⟩:=own_op o1 (by rw[MZ];omega)
 have hle:E.le (E.kU H.nx b):=En.vG (hH.new _ (Nat.le_refl _)).1
 have hone:=HD.jC (hB l++[sV body.length])
 have hr:HR (E.kU H.nx b) (hpush H (.row (Ku l) true eh)) M':=by
  refine hH.move0 hle (fun q hq=>⟨by simp only[En.kU];rw[if_neg hq],rfl⟩) k.base k.next (fun x hx=>k.heap x hx (by simp)) ⟨b,_,dh _ _ _,h2,h3,Zp hb l ho,hone⟩ (fun x hx=>?_)
  simp only[bR,dh]at hx
  have:x=b:=by simpa using hx
  subst this
  exact⟨h2,h1⟩
 generalize hE1:E.kU H.nx b=E1 at hle hr
 have hb1:E1.bl H.nx=some b:=by rw[← hE1];exact dh _ _ _
 have hq1:∀ q,q.nat≠H.nx.nat→E1.bl q=E.bl q∧E1.sl q=E.sl q:=fun q hq=>by rw[← hE1];exact⟨by simp only[En.kU];rw[if_neg hq],rfl⟩
 have ho2:Own M' M.next el 1 ov (fM body) body.length:=by unfold Ow at o2;rw[fU]at o2;exact o2
 have ho0:=ho2.mono (Nat.zero_le _)
 have hle2:E1.le (E1.nW (hpush H (.row (Ku l) true eh)).nx ov (IM ho0)):=En.EK (hr.new _ (Nat.le_refl _))
 refine⟨_,hle.trans hle2,hr.add hle2 JF (PQ iX (by rw[hle2.g,hle.g];exact d) ho0 fun x hx=>by rw[LF];exact IG hx) (fun x hx=>?_),.slc _ _ _ _ _ (hle2.bl _ _ hb1), ?_⟩
 ·simp only[bR,iX]at hx
  refine⟨(ho2.blk x hx).2,fun q hq=>?_⟩
  rw[fq]at hq
  split at hq
  ·rename_i e
   rw[bF _ _ e]at hq
   simp only[bR,hb1]at hq
   have:x=b:=by simpa using hq
   subst this
   exact Nat.lt_irrefl _ (hd x (by simp[aJ]) x hx)
  ·rename_i e
   have he:=dJ (hH.blk q) hle
   rw[he]at hq
   have h5:=hH.lt q x hq
   have h6:=(ho2.blk x hx).1
   omega
 ·refine .bs _ _ ?_
  have:(hpush H (.row (Ku l) true eh)).nx=GG H.nx:=rfl
  rw[this]
  exact iX
theorem Ro{v:AV}(h:iZ v):Go.Ab.iZ v:=by
 unfold Go.Ab.iZ;unfold iZ at h
 split<;>simp_all
theorem at_end{b:bQ}{n:Nat}(h1:n≤b.length)(h2:b.drop n=[]):n=b.length:=by
 have:=congrArg List.length h2
 rw[List.length_drop]at this
 simp at this
 omega
theorem asz{m p:List Nat}{h:List (List Nat×List Nat)}{b:SB}{s:bQ}(hd:bG E.g [.q m p h b] s):∃ l,bG E.g b l∧E.g.rq m p h l s:=by
 cases hd with|cons _ _ a r p q =>
 cases q
 cases p with|q _ _ _ _ l _ hl hr =>
 rw[List.append_nil]
 exact⟨l,hl,hr⟩
theorem asT{n:Nat}{h:List (List Nat×List Nat)}{b:SB}{s:bQ}(hd:bG E.g [.r n h b] s):∃ l,bG E.g b l∧E.g.rs n h l s:=by
 cases hd with|cons _ _ a r p q =>
 cases q
 cases p with|r _ _ _ l _ hl hr =>
 rw[List.append_nil]
 exact⟨l,hl,hr⟩
theorem ad7(hc:Ns B eh el c)(hB0:M.base=B)(hg:E.g=lZ at')(hH:HR E H M)(ha:aP E args avs)(h:Xo el eh C args H K=true):c avs M (HK E K):=by
 unfold Xo at h
 split at h <;>try(cases h;done)
 rename_i k
 split at h <;>try(cases h;done)
 rename_i m q l bd o el2 hk
 cases ha with|cons _ _ _ _ p pn =>
 cases pn
 obtain⟨v,s,e1,d,sl,_,_,hcap⟩:=Wo hH hk
 cases p with|bs _ _ e =>
 have e:v=_:=Option.some.inj (e1.symm.trans e)
 subst e
 obtain⟨body,db,hr⟩:=asz d
 rw[hg]at hr
 obtain⟨r1,r2,r3⟩:=hr
 obtain⟨s',e2,e3⟩:=XT r3 r2
 rw[r1]at e2
 have e2:s=s':=by injection e2
 subst e2
 have hlen:s.length≤body.length+3000:=((lZ at').rqL (m:=m) (p:=q) (h:=l) ⟨r1,r2,r3⟩).2
 have r4:=r3
 unfold DI at r4
 simp only[Bool.and_eq_true,decide_eq_true_eq]at r4
 obtain⟨⟨⟨⟨⟨⟨h1,h2⟩,h3⟩,h4⟩,h5⟩,h6⟩,h7⟩:=r4
 have bm:∀ n∈m,n<256:=fun x hx=>by simpa using List.all_eq_true.1 h5 x hx
 have bq:∀ n∈q,n<256:=fun x hx=>by simpa using List.all_eq_true.1 h6 x hx
 have hbs:Bs M _ s:=⟨by unfold Sl;rw[fU];exact sl,Ro hcap⟩
 refine hc hB0 hbs (by omega) (fun m2 p2 l2 out r at2 hv ov M' f1 f2 f3 _ _ _ k o1 o2 f4=>?_) (fun e M' f1 _ _=>?_)
 ·rw[e3]at f1
  cases f1
  have hat:=at_end f2 f3
  subst hat
  obtain⟨E2,g1,g2,g3,g4⟩:=WZ hH k r2 h7 db o1 o2 f4
  refine⟨E2,_,_,g1,g2,.tup _ _ (.cons _ _ _ _ (.agg _ _ (.cons _ _ _ _ (.s _ _ (vD bm)) (.cons _ _ _ _ (.s _ _ (vD bq)) (.cons _ _ _ _ g3 (.cons _ _ _ _ g4 .nil))))) (.cons _ _ _ _ (.ln _ _ (by rw[g1.g];exact d)) (.cons _ _ _ _ (.i _ _) .nil))),h⟩
 ·rw[e3]at f1;cases f1
theorem adv(hc:Ki B eh el c)(hB0:M.base=B)(hg:E.g=lZ at')(hH:HR E H M)(ha:aP E args avs)(h:Qq el eh C args H K=true):c avs M (HK E K):=by
 unfold Qq at h
 split at h <;>try(cases h;done)
 rename_i k
 split at h <;>try(cases h;done)
 rename_i n l bd o el2 hk
 cases ha with|cons _ _ _ _ p pn =>
 cases pn
 obtain⟨v,s,e1,d,sl,_,_,hcap⟩:=Wo hH hk
 cases p with|bs _ _ e =>
 have e:v=_:=Option.some.inj (e1.symm.trans e)
 subst e
 obtain⟨body,db,hr⟩:=asT d
 rw[hg]at hr
 obtain⟨r1,r2,r3⟩:=hr
 obtain⟨s',e2,e3⟩:=Sk r3 r2
 rw[r1]at e2
 have e2:s=s':=by injection e2
 subst e2
 have hlen:s.length≤body.length+3000:=((lZ at').rsL (c:=n) (h:=l) ⟨r1,r2,r3⟩).2
 have r4:=r3
 unfold wY at r4
 simp only[Bool.and_eq_true,Bool.not_eq_true',decide_eq_true_eq]at r4
 obtain⟨⟨⟨⟨⟨⟨⟨h1,h2⟩,h3⟩,h4⟩,h5⟩,h6⟩,h7⟩,h8⟩:=r4
 have hbs:Bs M _ s:=⟨by unfold Sl;rw[fU];exact sl,Ro hcap⟩
 refine hc hB0 hbs (by omega) (fun n2 l2 out r at2 hv ov M' f1 f2 f3 _ _ _ k o1 o2 f4=>?_) (fun e M' f1 _ _=>?_)
 ·rw[e3]at f1
  cases f1
  have hat:=at_end f2 f3
  subst hat
  obtain⟨E2,g1,g2,g3,g4⟩:=WZ hH k r2 h5 db o1 o2 f4
  refine⟨E2,_,_,g1,g2,.tup _ _ (.cons _ _ _ _ (.agg _ _ (.cons _ _ _ _ (.i _ _) (.cons _ _ _ _ g3 (.cons _ _ _ _ g4 .nil)))) (.cons _ _ _ _ (.ln _ _ (by rw[g1.g];exact d)) (.cons _ _ _ _ (.i _ _) .nil))),h⟩
 ·rw[e3]at f1;cases f1
end
end Go.Ab.Sy
namespace Go.Ab.Sha
open Go Go.Ab
abbrev Str:=List UInt8
structure Bs(M:RM)(v:AV)(b:Str):Prop where
 sl:Sl BY M v b
 cap:iZ v
theorem Bs.keep{M M' : RM}{v:AV}{b:Str}{bs:List Nat}(h:Bs M v b)(k:ah bs M M')(hb:∀ x∈aJ v,x∉bs):Bs M' v b:=⟨aW.keep h.sl k hb,h.cap⟩
theorem Bs.len{M:RM}{v:AV}{b:Str}(h:Bs M v b){K:AV→Prop}:bS v K=K (N .i64 (b.length:Int)):=aW.len h.sl
theorem Rh{M:RM}{base T n:Nat}{v:AV}{cs:List AV}(h:Own M base T 1 v cs n):iZ v:=by
 cases h with
 |nil=>trivial
 |ex0 b o _ _ _=>exact Nat.le_refl _
 |op b n cs _ _ _ _=>rfl
theorem Bs.own{M:RM}{base T:Nat}{v:AV}{b:Str}(h:Ow BY M base T v b):Bs M v b:=⟨Own.E5 h,Rh h⟩
theorem tL{M:RM}{b o n:Nat}{x:Str}(h:M.loads b o (n*1)=some (BY.row x)){l u:Nat}(h1:l≤u)(h2:u≤n):M.loads b (o+l*1) ((u-l)*1)=some (BY.row ((x.drop l).take (u-l))):=by
 have:=lh h (l*1) ((u-l)*1) (by omega)
 rw[this]
 congr 1
 have e1:=BY.vZ x l
 have e2:=BY.A9 (x.drop l) (u-l)
 rw[show l*1=l*BY.size from rfl,e1,show(u-l)*1=(u-l)*BY.size from rfl,e2]
theorem Bs.sub{M:RM}{v:AV}{b:Str}(h:Bs M v b){lo hi:Option AV}{l u:Nat}(e1:bnd 0 lo=some l)(e2:bnd b.length hi=some u)(h1:l≤u)(h2:u≤b.length){K:AV→Prop}
  (hK:∀ v',Bs M v' ((b.drop l).take (u-l))→(∀ x∈aJ v',x∈aJ v)→K v'):dz (bI 1 v lo hi none) K:=by
 obtain⟨hs,hc⟩:=h
 have hlen:((b.drop l).take (u-l)).length=u-l:=by simp;omega
 have zero:u=l→∀ {w:AV},aW M 1 w [] 0→Sl BY M w ((b.drop l).take (u-l)):=by
  intro e w hw
  subst e
  rw[Nat.sub_self,List.take_zero]
  exact hw
 unfold Sl at hs
 generalize hn:b.length=n at *
 generalize hcs:BY.row b=cs at *
 cases hs with
 |nil =>
  have l0:l=0:=by omega
  have u0:u=0:=by omega
  subst l0 u0
  exact⟨bC,by simp only[bI,bC,e1,e2],hK _ ⟨zero rfl .nil,trivial⟩ (fun x hx=>hx)⟩
 |emp b0 =>
  have l0:l=0:=by omega
  have u0:u=0:=by omega
  subst l0 u0
  exact⟨.emp b0,by simp only[bI,e1,e2],hK _ ⟨zero rfl (.emp _),trivial⟩ (fun x hx=>hx)⟩
 |slc b0 o _ cap cs hb hl =>
  subst hcs
  have hl':=tL hl h1 h2
  have whole:∀ cap',iZ (.slc b0 (o+l*1) (u-l) cap')→(Bs M (.slc b0 (o+l*1) (u-l) cap') ((b.drop l).take (u-l))):=fun cap' hcap=>⟨by
   unfold Sl;rw[hlen];exact .slc _ _ _ _ _ hb hl',hcap⟩
  cases cap with
  |ex c =>
   have hcn:n≤c:=hc
   by_cases e:c=l
   ·subst e
    have hu:u=c:=by omega
    subst hu
    refine⟨.slc b0 o 0 (.ex 0),by simp only[bI,e1,e2];rw[if_pos ⟨Nat.le_refl _,Nat.le_refl _⟩];simp,hK _ ⟨zero rfl (.slc _ _ _ _ _ hb ?_),Nat.le_refl _⟩ (fun x hx=>hx)⟩
    have:=tL hl (Nat.le_refl 0) (Nat.zero_le n)
    simpa [BY,Enc.row]using this
   ·exact⟨_,by simp only[bI,e1,e2];rw[if_pos ⟨h1,by omega⟩,if_neg e],hK _ (whole _ (by show u-l≤c-l;omega)) (fun x hx=>hx)⟩
  |op esz =>
   have he:esz=1:=hc
   subst he
   by_cases e:n≤l
   ·have hu:u=l:=by omega
    exact⟨.emp b0,by simp only[bI,e1,e2];simp[h1,h2,e],hK _ ⟨zero hu (.emp _),trivial⟩ (fun x hx=>by simp[aJ]at hx)⟩
   ·exact⟨_,by simp only[bI,e1,e2];simp only[and_true];rw[if_pos ⟨h1,h2⟩,if_neg e],hK _ (whole (.op 1) rfl) (fun x hx=>hx)⟩
theorem nA(d n:Nat)(k:IntKind):bnd d (some (N k (n:Int)))=some n:=by simp[bnd]
theorem V6(d:Nat):bnd d none=some d:=rfl
theorem ah.own{bs:List Nat}{M M1 M2:RM}{v:AV}(k1:ah bs M M1)(k2:ah (aJ v) M1 M2)(hv:∀ b∈aJ v,M.next≤b):ah bs M M2 :=
 ⟨k2.base.trans k1.base,Nat.le_trans k1.next k2.next,fun x hx hb=>by
  rw[k2.heap x (Nat.lt_of_lt_of_le hx k1.next) (fun h=>by have:=hv x h;omega),k1.heap x hx hb]⟩
theorem jo{M:RM}{b n:Nat}{l cs:List AV}{p:Bool}{e:Nat}{K:RM→Prop}(h:M.heap b=some (.row l p e 0))(hn:cs.length=n)(hl:l.length=n)(h1:cs.all oneCell=true) :
  aR M (.ptr b 0) (.agg cs) n K=K (M.put b (.row cs p e 0)):=PM (x:=.agg cs) h hn hl h1
theorem Bs.lt{M:RM}{v:AV}{b:Str}(h:Bs M v b):∀ x∈aJ v,x<M.next:=aW.lt h.sl
theorem vS{br:Nat}{M M0 M1:RM}(k0:ah [] M M0)(h:ah [br] M0 M1)(hb:M.next≤br):ah [] M M1 :=
 ⟨h.base.trans k0.base,Nat.le_trans k0.next h.next,fun x hx _=>by rw[h.heap x (Nat.lt_of_lt_of_le hx k0.next) (fun e=>by simp at e;omega),k0.heap x hx (by simp)]⟩
theorem mr(s:Str):(BY.row s).length=s.length:=by rw[Enc.ig];simp[BY]
theorem Bs.read{M:RM}{v:AV}{b:Str}(h:Bs M v b){i:Nat}(hi:i<b.length){K:AV→Prop}:(ed v (N .i64 (i:Int)) 1 fun t=>au M t K)=K (By b[i]):=by
 obtain⟨c,o,_,_,hix,hld⟩:=h.sl.at1 (i:Int) hi
 rw[hix,fu,hld _ rfl]
 exact propext ⟨fun⟨v,e,k⟩=>by cases e;exact k,fun k=>⟨_,rfl,k⟩⟩
theorem ajD{T:Nat}{M:RM}{z cs:List AV}{K:AV→RM→Prop}(n:Nat)(hz:z.length=n)(hc:cs.length=n)(h1:cs.all oneCell=true)
  (hK:∀ M',ah [] M M'→M'.heap M.next=some (.row cs false T 0)→M.next<M'.next→K (.ptr M.next 0) M') :
  cz (.row z false T 0) (fun b=>.ptr b 0) M fun t M1=>aR M1 t (.agg cs) n fun M2=>K t M2:=by
 simp only[bL]
 have n1:(M.push (.row z false T 0)).heap M.next=some (.row z false T 0):=by simp[RM.push]
 rw[jo n1 hc hz h1]
 exact hK _ (((ah.refl _ _).push _).new _ (Nat.le_refl _)) (aO _) (by simp[RM.push,RM.put])
theorem pV{s:List UInt8}{i:Nat}(hi:i<s.length)(kd:IntKind)(K:AV→Prop):gP (St s) (N kd (i:Int)) K=K (By s[i]):=by
 rw[aam]
 apply propext
 constructor
 ·rintro⟨_,b,hb,hk⟩
  rw[Int.toNat_natCast,List.getElem?_eq_getElem hi]at hb
  cases hb;exact hk
 ·intro hk;exact⟨by omega,s[i],by rw[Int.toNat_natCast,List.getElem?_eq_getElem hi],hk⟩
theorem nO{k:IntKind}{a:Int}{K:AV→Prop}:uj (N k a) K=K (N k (Ec k (if k.signed then -1 else k.max) a)):=by
 apply propext;unfold uj
 constructor
 ·rintro⟨k',a',h1,hk⟩;cases h1;exact hk
 ·intro hk;exact⟨k,a,rfl,hk⟩
def fH:Enc Int:=⟨1,fun n=>[N .u32 n],fun _=>rfl,fun _=>rfl⟩
theorem vV(xs:List Int):fH.row xs=xs.map (N .u32):=by
 induction xs with
 |nil=>rfl
 |cons x xs ih=>rw[Enc.pE,ih];rfl
theorem kY(xs:List Int):(fH.row xs).length=xs.length:=by rw[vV,List.length_map]
def jb(a b:Int):Int:=IntKind.u32.wrap (a+b)
def rF(x n:Int):Int:=IV .u32 (rG .u32 x n) (JN .u32 x (32-n))
def Yx(a b c:Int):Int:=Ec .u32 (Ec .u32 a b) c
def aDB(x:Int):Int:=Yx (rF x 7) (rF x 18) (rG .u32 x 3)
def aAa(x:Int):Int:=Yx (rF x 17) (rF x 19) (rG .u32 x 10)
def aAf(x:Int):Int:=Ec .u32 4294967295 x
def chU(e f g:Int):Int:=Ec .u32 (Ei .u32 e f) (Ei .u32 (aAf e) g)
def aCT(a b c:Int):Int:=Ec .u32 (Ec .u32 (Ei .u32 a b) (Ei .u32 a c)) (Ei .u32 b c)
def ahA(b:Str)(i:Nat):Int:=IV .u32 (IV .u32 (IV .u32 (JN .u32 (IntKind.u32.wrap ((b.getD (4*i) 0).toNat:Int)) 24) (JN .u32 (IntKind.u32.wrap ((b.getD (4*i+1) 0).toNat:Int)) 16)) (JN .u32 (IntKind.u32.wrap ((b.getD (4*i+2) 0).toNat:Int)) 8)) (IntKind.u32.wrap ((b.getD (4*i+3) 0).toNat:Int))
def aaT(l:List Int)(i:Nat):Int:=jb (jb (jb (l.getD (i-16) 0) (aDB (l.getD (i-15) 0))) (l.getD (i-7) 0)) (aAa (l.getD (i-2) 0))
def sched(b:Str):Nat→List Int
 |0=>[]
 |i+1=>sched b i++[if i<16 then ahA b i else aaT (sched b i) i]
theorem sS(b:Str):∀ i,(sched b i).length=i
 |0=>rfl
 |i+1=>by rw[sched,List.length_append,sS b i];rfl
def rnd(v:List Int)(k w:Int):List Int:=match v with
 |[a,b,c,d,e,f,g,h] =>
  [jb (jb (jb (jb (jb h (Yx (rF e 6) (rF e 11) (rF e 25))) (chU e f g)) k) w) (jb (Yx (rF a 2) (rF a 13) (rF a 22)) (aCT a b c)),a,b,c,
   jb d (jb (jb (jb (jb h (Yx (rF e 6) (rF e 11) (rF e 25))) (chU e f g)) k) w),e,f,g]
 |_=>v
def Il(k w:List Int)(h:List Int):Nat→List Int
 |0=>h
 |i+1=>rnd (Il k w h i) (k.getD i 0) (w.getD i 0)
theorem eight{l:List Int}(h:l.length=8):∃ a b c d e f g i,l=[a,b,c,d,e,f,g,i]:=by
 rcases l with _|⟨a,_|⟨b,_|⟨c,_|⟨d,_|⟨e,_|⟨f,_|⟨g,_|⟨i,_|⟨j,l⟩⟩⟩⟩⟩⟩⟩⟩⟩<;>first|(simp at h;done)|exact⟨_,_,_,_,_,_,_,_,rfl⟩|(simp at h;omega)
theorem aky{v:List Int}(h:v.length=8)(k w:Int):(rnd v k w).length=8:=by
 obtain⟨a,b,c,d,e,f,g,i,rfl⟩:=eight h
 rfl
theorem Nz(k w:List Int){h:List Int}(hl:h.length=8):∀ i,(Il k w h i).length=8
 |0=>hl
 |i+1=>aky (Nz k w hl i) _ _
def yN(h k:List Int)(b:Str):List Int:=List.zipWith jb h (Il k (sched b 64) h 64)
theorem abl{h:List Int}(k:List Int)(b:Str)(hl:h.length=8):(yN h k b).length=8:=by
 unfold yN;rw[List.length_zipWith,Nz k _ hl,hl];rfl
section
variable {M:RM} {b T:Nat} {ws:List Int}
theorem BS(h:M.heap b=some (.row (fH.row ws) false T 0)){i:Nat}(hi:i<ws.length){K:AV→Prop}:au M (.ptr b i) K=K (N .u32 (ws.getD i 0)):=by
 refine aT h ?_
 rw[vV,List.getElem?_map,List.getElem?_eq_getElem hi]
 simp[List.getD,hi]
theorem Kt(h:M.heap b=some (.row (fH.row ws) false T 0)){i:Nat}(hi:i<ws.length)(x:Int){K:RM→Prop}:aR M (.ptr b i) (N .u32 x) 1 K=K (M.put b (.row (fH.row (ws.set i x)) false T 0)):=by
 refine eU _ h (by rw[kY];exact hi) rfl rfl ?_
 rw[vV,vV,List.map_set]
theorem jF{k:IntKind}{j:Int}{i len:Nat}(hj:j=(i:Int))(hi:i<len){K:AV→Prop}:eF (.ptr b 0) (N k j) len 1 K=K (.ptr b i):=by
 subst hj
 rw[ai1]
 simp only[Int.toNat_natCast,Nat.mul_one,Nat.zero_add]
 exact propext ⟨fun h=>h.2.2,fun h=>⟨by omega,by omega,h⟩⟩
end
theorem set_mid{l:List Int}{n:Nat}{x z:Int}(hn:0<n):(l++List.replicate n z).set l.length x=(l++[x])++List.replicate (n-1) z:=by
 obtain⟨m,rfl⟩ : ∃ m,n=m+1:=⟨n-1,by omega⟩
 rw[List.replicate_succ,List.set_append_right _ _ (Nat.le_refl _),Nat.sub_self]
 simp
theorem aeh{l r:List Int}{i:Nat}(h:i<l.length):(l++r).getD i 0=l.getD i 0:=by simp[List.getD,List.getElem?_append_left h]
theorem SL(b:Str){i:Nat}(hi:i<64):(sched b i++List.replicate (64-i) 0).set i (if i<16 then ahA b i else aaT (sched b i) i)=sched b (i+1)++List.replicate (64-(i+1)) 0:=by
 have:=set_mid (l:=sched b i) (n:=64-i) (x:=if i<16 then ahA b i else aaT (sched b i) i) (z:=0) (by omega)
 rw[sS]at this
 rw[this,sched]
 congr 2
def turns:List Int:=[2,6,7,11,13,17,18,19,22,25]
def abI(kd:IntKind)(c:aB):Prop:=∀ {M:RM}{x n:Int}{Q:aj},n∈turns→Q (N .u32 (rF x n)) M→c [N .u32 x,N kd n] M Q
def ah9(c:aB):Prop:=∀ {M:RM}{x n:Int}{Q:aj},n∈turns→Q (N .u32 (rF x n)) M→c [N .u32 x,N .i64 (IntKind.i64.wrap (0-n))] M Q
theorem aey:∀ n∈turns,Ei .u64 (IntKind.u64.wrap (IntKind.i64.wrap (0-n))) 31=32-n:=by decide +kernel
theorem aea:∀ n∈turns,IntKind.u64.wrap (32-(32-n))=n∧IntKind.u64.wrap (32-n)=32-n∧0≤n∧0≤32-n:=by decide +kernel
theorem ahZ(k:IntKind)(a b:Int):IV k a b=IV k b a:=by unfold IV;rw[BitVec.or_comm]
theorem ahl:ah9 fun args M Q=>∃ a0 a1,args=[a0,a1]∧ku a0 a1 M Q:=by
 intro M x n Q hn hQ
 refine⟨_,_,rfl, ?_⟩
 unfold ku
 obtain⟨h1,h2,h3,h4⟩:=aea n hn
 rw[iW,lL,aey n hn,uU]
 refine⟨h4, ?_⟩
 rw[kI,h1,Ai]
 refine⟨h3, ?_⟩
 rw[jD,ahZ]
 exact hQ
theorem aev{c:aB}(hc:ah9 c):abI .i64 fun args M Q=>∃ a0 a1,args=[a0,a1]∧Hm c a0 a1 M Q:=by
 intro M x n Q hn hQ
 refine⟨_,_,rfl, ?_⟩
 unfold Hm
 rw[aoP]
 exact hc hn hQ
end Go.Ab.Sha
namespace Go.Ab.Sha
open Go Go.Ab Go.Ab.Sm
theorem acp{i:Nat}(hi:i<1000){K:AV→Prop}:ag .mul (N .i64 4) (N .i64 (i:Int)) K=K (N .i64 ((4*i:Nat):Int)):=by
 rw[oW,bM (by omega) (by omega)];rfl
theorem oH{i:Nat}(j:Nat)(hi:i<1000000000)(hj:j<1000){K:AV→Prop}{n:Int}(hn:n=(j:Int)):ag .add (N .i64 (i:Int)) (N .i64 n) K=K (N .i64 ((i+j:Nat):Int)):=by
 subst hn;exact addN (by omega)
theorem adf{i:Nat}(j:Nat)(hi:i<1000000000)(hj:j≤i){K:AV→Prop}{n:Int}(hn:n=(j:Int)):ag .sub (N .i64 (i:Int)) (N .i64 n) K=K (N .i64 ((i-j:Nat):Int)):=by
 subst hn;exact abG hj (by omega)
theorem Nq{i:Nat}(j:Nat){K:AV→Prop}{n:Int}(hn:n=(j:Int)):ag .lss (N .i64 (i:Int)) (N .i64 n) K=K (Bo (decide (i<j))):=by
 subst hn;exact Ih
theorem Bs.Uj{M:RM}{v:AV}{b:Str}(h:Bs M v b){i:Nat}(hi:i<b.length){K:AV→Prop}:(ed v (N .i64 (i:Int)) 1 fun t=>au M t K)=K (By (b.getD i 0)):=by
 rw[h.read hi];simp[List.getD,hi]
theorem aiH{h v:List Int}{j:Nat}(hj:j<8)(hh:h.length=8)(hv:v.length=8) :
  ((List.zipWith jb h v).take j++h.drop j).set j (jb (h.getD j 0) (v.getD j 0))=(List.zipWith jb h v).take (j+1)++h.drop (j+1):=by
 have hz:(List.zipWith jb h v).length=8:=by rw[List.length_zipWith,hh,hv];rfl
 have h1:((List.zipWith jb h v).take j).length=j:=by rw[List.length_take];omega
 have h2:h.drop j=h[j]::h.drop (j+1):=List.drop_eq_getElem_cons (by omega)
 rw[h2,List.set_append_right _ _ (by omega),h1,Nat.sub_self,List.set_cons_zero,List.take_succ_eq_append_getElem (by omega),List.append_assoc]
 congr 1
 rw[List.getElem_zipWith]
 simp[List.getD,show j<h.length by omega,show j<v.length by omega]
theorem ak8{h v:List Int}{j:Nat}(hj:j<8)(hh:h.length=8)(hv:v.length=8):((List.zipWith jb h v).take j++h.drop j).getD j 0=h.getD j 0:=by
 have hz:(List.zipWith jb h v).length=8:=by rw[List.length_zipWith,hh,hv];rfl
 have h1:((List.zipWith jb h v).take j).length=j:=by rw[List.length_take];omega
 simp[List.getD,List.getElem?_append_right (show((List.zipWith jb h v).take j).length≤j by omega),h1]
theorem alr{h v:List Int}{j:Nat}(hj:j≤8)(hh:h.length=8)(hv:v.length=8):((List.zipWith jb h v).take j++h.drop j).length=8:=by
 rw[List.length_append,List.length_take,List.length_drop,List.length_zipWith,hh,hv];omega
theorem pY{cs:List AV}{rest:List (Nat×Nat×AV)}{off:Nat}{k:IntKind}{n:Int}(h:off<cs.length):nC cs ((off,1,N k n)::rest)=nC (cs.set off (N k n)) rest:=by
 rw[nC,if_pos ⟨rfl,rfl,by omega⟩,List.set_eq_take_append_cons_drop,if_pos h,List.append_assoc]
 rfl
theorem asb{a b c d e f g h:Int}:nC [N .u32 0,N .u32 0,N .u32 0,N .u32 0,N .u32 0,N .u32 0,N .u32 0,N .u32 0] [(0,1,N .u32 a),(1,1,N .u32 b),(2,1,N .u32 c),(3,1,N .u32 d),(4,1,N .u32 e),(5,1,N .u32 f),(6,1,N .u32 g),(7,1,N .u32 h)]=some (fH.row [a,b,c,d,e,f,g,h]):=by
 rw[pY (by decide)]
 simp only[List.set]
 rw[pY (by simp)]
 simp only[List.set]
 rw[pY (by simp)]
 simp only[List.set]
 rw[pY (by simp)]
 simp only[List.set]
 rw[pY (by simp)]
 simp only[List.set]
 rw[pY (by simp)]
 simp only[List.set]
 rw[pY (by simp)]
 simp only[List.set]
 rw[pY (by simp)]
 simp only[List.set]
 rfl
def acX(TK TS:Nat)(c:aB):Prop:=∀ {M:RM}{sb kb:Nat}{bv:AV}{h k:List Int}{b:Str}{Q:aj},M.heap sb=some (.row (fH.row h) false TS 0)→sb<M.next→h.length=8 →
 M.heap kb=some (.row (fH.row k) false TK 0)→kb<M.next→kb≠sb→k.length=64→Bs M bv b→b.length=64 →
 (∀ M',ah [sb] M M'→M'.heap sb=some (.row (fH.row (yN h k b)) false TS 0)→Q (.tup []) M')→c [.ptr sb 0,bv,.ptr kb 0] M Q
theorem afy{TK TS:Nat}{ct:aB}(ht:abI .i64 ct):acX TK TS fun args M Q=>∃ a0 a1 a2,args=[a0,a1,a2]∧rH TK ct TS a0 a1 a2 M Q:=by
 intro M sb kb bv h k b Q hs hsl hhl hk hkl hks hkn hb hbl hQ
 refine⟨_,_,_,rfl, ?_⟩
 unfold rH
 rw[bL]
 have k0:ah [] M (M.push (.row (fH.row (List.replicate 64 0)) false TK 0)):=(ah.refl _ _).push _
 have n0:(M.push (.row (fH.row (List.replicate 64 0)) false TK 0)).heap M.next=some (.row (fH.row (sched b 0++List.replicate (64-0) 0)) false TK 0):=by simp[RM.push,sched]
 have l0:M.next<(M.push (.row (fH.row (List.replicate 64 0)) false TK 0)).next:=by simp[RM.push]
 show eY _ _ (M.push (.row (fH.row (List.replicate 64 0)) false TK 0))
 generalize M.push (.row (fH.row (List.replicate 64 0)) false TK 0)=M0 at *
 refine bU (fun m ys M3=>∃ i:Nat,m=16-i∧ys=[N .i64 (i:Int)]∧i≤16∧ah [] M M3∧M.next<M3.next∧M3.heap M.next=some (.row (fH.row (sched b i++List.replicate (64-i) 0)) false TK 0)) _
  ⟨0,rfl,rfl,by omega,k0,l0,n0⟩ ?_
 rintro next m ys M3 hnext ⟨i,rfl,rfl,hi,k3,l3,n3⟩
 simp only[bV]
 rw[Nq 16 (by rfl)]
 have hb3:=hb.keep k3 (by simp)
 refine cK (fun hc=>?_) fun hc=>?_
 ·have ahU:i<16:=of_decide_eq_true hc
  rw[acp (by omega),hb3.Uj (by omega),By,iW,uU]
  refine⟨by decide, ?_⟩
  rw[acp (by omega),oH 1 (by omega) (by omega) (by rfl),hb3.Uj (by omega),By,iW,uU]
  refine⟨by decide, ?_⟩
  rw[jD,acp (by omega),oH 2 (by omega) (by omega) (by rfl),hb3.Uj (by omega),By,iW,uU]
  refine⟨by decide, ?_⟩
  rw[jD,acp (by omega),oH 3 (by omega) (by omega) (by rfl),hb3.Uj (by omega),By,iW,jD,jF rfl (by omega)]
  have e:=SL b (i:=i) (by omega)
  rw[if_pos ahU]at e
  have hlen:(sched b i++List.replicate (64-i) 0).length=64:=by rw[List.length_append,sS,List.length_replicate];omega
  rw[Kt n3 (by omega),oH 1 (by omega) (by omega) (by rfl)]
  refine hnext _ _ _ (by omega) ⟨i+1,rfl,rfl,by omega,k3.new _ (Nat.le_refl _),l3, ?_⟩
  rw[aO,← e]
  rfl
 have ahU:i=16:=by have:=of_decide_eq_false hc;omega
 subst ahU
 clear hnext
 refine bU (fun m ys M4=>∃ i:Nat,m=64-i∧ys=[N .i64 (i:Int)]∧16≤i∧i≤64∧ah [] M M4∧M.next<M4.next∧M4.heap M.next=some (.row (fH.row (sched b i++List.replicate (64-i) 0)) false TK 0)) _
  ⟨16,rfl,rfl,by omega,by omega,k3,l3,n3⟩ ?_
 rintro next m ys M4 hnext ⟨i,rfl,rfl,hi0,hi,k4,l4,n4⟩
 simp only[bV]
 rw[Nq 64 (by rfl)]
 refine cK (fun hc=>?_) fun hc=>?_
 ·have Nv:i<64:=of_decide_eq_true hc
  have hlen:(sched b i++List.replicate (64-i) 0).length=64:=by rw[List.length_append,sS,List.length_replicate];omega
  have ld:∀ (j:Nat),j<i→∀ {K:AV→Prop},au M4 (.ptr M.next j) K=K (N .u32 ((sched b i).getD j 0)):=fun j hj K=>by
   rw[BS n4 (by omega),aeh (by rw[sS];exact hj)]
  have L15:∀ {K:AV→Prop},au M4 (.ptr M.next (i-15)) K=K (N .u32 ((sched b i).getD (i-15) 0)):=ld _ (by omega)
  have L2:∀ {K:AV→Prop},au M4 (.ptr M.next (i-2)) K=K (N .u32 ((sched b i).getD (i-2) 0)):=ld _ (by omega)
  have L16:∀ {K:AV→Prop},au M4 (.ptr M.next (i-16)) K=K (N .u32 ((sched b i).getD (i-16) 0)):=ld _ (by omega)
  have L7:∀ {K:AV→Prop},au M4 (.ptr M.next (i-7)) K=K (N .u32 ((sched b i).getD (i-7) 0)):=ld _ (by omega)
  rw[adf 15 (by omega) (by omega) (by rfl),jF rfl (by omega),L15,adf 2 (by omega) (by omega) (by rfl),jF rfl (by omega),L2,adf 16 (by omega) (by omega) (by rfl),jF rfl (by omega),L16,Ai]
  refine⟨by decide, ?_⟩
  rw[adf 7 (by omega) (by omega) (by rfl),jF rfl (by omega),L7,Ai]
  refine⟨by decide, ?_⟩
  refine ht (by decide) ?_
  rw[L16];refine⟨rfl, ?_⟩
  rw[L7];refine⟨rfl, ?_⟩
  refine ht (by decide) ?_
  rw[L16];refine⟨rfl, ?_⟩
  rw[L7];refine⟨rfl, ?_⟩
  rw[iY,iY,fC,fC]
  refine ht (by decide) ?_
  rw[L16];refine⟨rfl, ?_⟩
  rw[L7];refine⟨rfl, ?_⟩
  refine ht (by decide) ?_
  rw[L16];refine⟨rfl, ?_⟩
  rw[L7];refine⟨rfl, ?_⟩
  rw[iY,iY,fC,jF rfl (by omega)]
  have e:=SL b (i:=i) (by omega)
  rw[if_neg (by omega)]at e
  rw[Kt n4 (by omega),oH 1 (by omega) (by omega) (by rfl)]
  refine hnext _ _ _ (by omega) ⟨i+1,rfl,rfl,by omega,by omega,k4.new _ (Nat.le_refl _),l4, ?_⟩
  rw[aO,← e]
  rfl
 have Nv:i=64:=by have:=of_decide_eq_false hc;omega
 subst Nv
 clear hnext
 rw[Nat.sub_self,List.replicate_zero,List.append_nil]at n4
 have hwl:=sS b 64
 generalize hwe:sched b 64=w at *
 have hs4:=k4.aV hs hsl (by simp)
 have hk4:=k4.aV hk hkl (by simp)
 rw[bg,dK hs4 (by rw[kY,hhl]),bL]
 have n5:(M4.push (.row [N .u32 0,N .u32 0,N .u32 0,N .u32 0,N .u32 0,N .u32 0,N .u32 0,N .u32 0] false TS 0)).heap M4.next=some (.row [N .u32 0,N .u32 0,N .u32 0,N .u32 0,N .u32 0,N .u32 0,N .u32 0,N .u32 0] false TS 0):=by simp[RM.push]
 rw[jo n5 (by rw[kY,hhl]) (by rfl) (fH.jC h)]
 have k5:ah [] M4 ((M4.push (.row [N .u32 0,N .u32 0,N .u32 0,N .u32 0,N .u32 0,N .u32 0,N .u32 0,N .u32 0] false TS 0)).put M4.next (.row (fH.row h) false TS 0)):=((ah.refl _ _).push _).new _ (Nat.le_refl _)
 have n5' : ((M4.push (.row [N .u32 0,N .u32 0,N .u32 0,N .u32 0,N .u32 0,N .u32 0,N .u32 0,N .u32 0] false TS 0)).put M4.next (.row (fH.row h) false TS 0)).heap M4.next=some (.row (fH.row (Il k w h 0)) false TS 0):=aO _
 have l5:M4.next<((M4.push (.row [N .u32 0,N .u32 0,N .u32 0,N .u32 0,N .u32 0,N .u32 0,N .u32 0,N .u32 0] false TS 0)).put M4.next (.row (fH.row h) false TS 0)).next:=by simp[RM.push,RM.put]
 generalize (M4.push (.row [N .u32 0,N .u32 0,N .u32 0,N .u32 0,N .u32 0,N .u32 0,N .u32 0,N .u32 0] false TS 0)).put M4.next (.row (fH.row h) false TS 0)=M5 at *
 refine bU (fun m ys M6=>∃ i:Nat,m=64-i∧ys=[N .i64 (i:Int)]∧i≤64∧ah [] M4 M6∧M4.next<M6.next∧M6.heap M4.next=some (.row (fH.row (Il k w h i)) false TS 0)) _
  ⟨0,rfl,rfl,by omega,k5,l5,n5'⟩ ?_
 rintro next m ys M6 hnext ⟨i,rfl,rfl,hi,k6,l6,n6⟩
 simp only[bV]
 rw[Nq 64 (by rfl)]
 have hs6:=k6.aV hs4 (Nat.lt_of_lt_of_le hsl k4.next) (by simp)
 have hk6:=k6.aV hk4 (Nat.lt_of_lt_of_le hkl k4.next) (by simp)
 have n46:=k6.aV n4 l4 (by simp)
 have hrl:=Nz k w hhl i
 refine cK (fun hc=>?_) fun hc=>?_
 ·have Nv:i<64:=of_decide_eq_true hc
  have hstep:Il k w h (i+1)=rnd (Il k w h i) (k.getD i 0) (w.getD i 0):=rfl
  obtain⟨va,vb,vc,vd,ve,vf,vg,vh,hv⟩:=eight hrl
  rw[hv]at n6 hstep
  have hrow:fH.row [va,vb,vc,vd,ve,vf,vg,vh]=[N .u32 va,N .u32 vb,N .u32 vc,N .u32 vd,N .u32 ve,N .u32 vf,N .u32 vg,N .u32 vh]:=rfl
  rw[hrow]at n6
  have I:∀ (j:Nat),j<8→∀ {K:AV→Prop},eF (.ptr M4.next 0) (N .i64 (j:Int)) 8 1 K=K (.ptr M4.next j):=fun j hj K=>jF rfl hj
  have I0:∀ {K:AV→Prop},eF (.ptr M4.next 0) (N .i64 0) 8 1 K=K (.ptr M4.next 0):=I 0 (by omega)
  have I1:∀ {K:AV→Prop},eF (.ptr M4.next 0) (N .i64 1) 8 1 K=K (.ptr M4.next 1):=I 1 (by omega)
  have I2:∀ {K:AV→Prop},eF (.ptr M4.next 0) (N .i64 2) 8 1 K=K (.ptr M4.next 2):=I 2 (by omega)
  have I3:∀ {K:AV→Prop},eF (.ptr M4.next 0) (N .i64 3) 8 1 K=K (.ptr M4.next 3):=I 3 (by omega)
  have I4:∀ {K:AV→Prop},eF (.ptr M4.next 0) (N .i64 4) 8 1 K=K (.ptr M4.next 4):=I 4 (by omega)
  have I5:∀ {K:AV→Prop},eF (.ptr M4.next 0) (N .i64 5) 8 1 K=K (.ptr M4.next 5):=I 5 (by omega)
  have I6:∀ {K:AV→Prop},eF (.ptr M4.next 0) (N .i64 6) 8 1 K=K (.ptr M4.next 6):=I 6 (by omega)
  have I7:∀ {K:AV→Prop},eF (.ptr M4.next 0) (N .i64 7) 8 1 K=K (.ptr M4.next 7):=I 7 (by omega)
  have L0:∀ {K:AV→Prop},au M6 (.ptr M4.next 0) K=K (N .u32 va):=aT n6 rfl
  have L1:∀ {K:AV→Prop},au M6 (.ptr M4.next 1) K=K (N .u32 vb):=aT n6 rfl
  have L2:∀ {K:AV→Prop},au M6 (.ptr M4.next 2) K=K (N .u32 vc):=aT n6 rfl
  have L3:∀ {K:AV→Prop},au M6 (.ptr M4.next 3) K=K (N .u32 vd):=aT n6 rfl
  have L4:∀ {K:AV→Prop},au M6 (.ptr M4.next 4) K=K (N .u32 ve):=aT n6 rfl
  have L5:∀ {K:AV→Prop},au M6 (.ptr M4.next 5) K=K (N .u32 vf):=aT n6 rfl
  have L6:∀ {K:AV→Prop},au M6 (.ptr M4.next 6) K=K (N .u32 vg):=aT n6 rfl
  have L7:∀ {K:AV→Prop},au M6 (.ptr M4.next 7) K=K (N .u32 vh):=aT n6 rfl
  have Ik:∀ {K:AV→Prop},eF (.ptr kb 0) (N .i64 (i:Int)) 64 1 K=K (.ptr kb i):=jF rfl Nv
  have Iw:∀ {K:AV→Prop},eF (.ptr M.next 0) (N .i64 (i:Int)) 64 1 K=K (.ptr M.next i):=jF rfl Nv
  have Lk:∀ {K:AV→Prop},au M6 (.ptr kb i) K=K (N .u32 (k.getD i 0)):=BS hk6 (by omega)
  have Lw:∀ {K:AV→Prop},au M6 (.ptr M.next i) K=K (N .u32 (w.getD i 0)):=BS n46 (by omega)
  simp only[I0,I1,I2,I3,I4,I5,I6,I7,L0,L1,L2,L3,L4,L5,L6,L7,bg,Ik,Iw,Lk,Lw,lL,jD,iY,fC,nO,true_and]
  refine ht (by decide) ?_
  simp only[I0,I1,I2,I3,I4,I5,I6,I7,L0,L1,L2,L3,L4,L5,L6,L7,bg,Ik,Iw,Lk,Lw,lL,jD,iY,fC,nO,true_and]
  refine ht (by decide) ?_
  simp only[I0,I1,I2,I3,I4,I5,I6,I7,L0,L1,L2,L3,L4,L5,L6,L7,bg,Ik,Iw,Lk,Lw,lL,jD,iY,fC,nO,true_and]
  refine ht (by decide) ?_
  simp only[I0,I1,I2,I3,I4,I5,I6,I7,L0,L1,L2,L3,L4,L5,L6,L7,bg,Ik,Iw,Lk,Lw,lL,jD,iY,fC,nO,true_and]
  refine ht (by decide) ?_
  simp only[I0,I1,I2,I3,I4,I5,I6,I7,L0,L1,L2,L3,L4,L5,L6,L7,bg,Ik,Iw,Lk,Lw,lL,jD,iY,fC,nO,true_and]
  refine ht (by decide) ?_
  simp only[I0,I1,I2,I3,I4,I5,I6,I7,L0,L1,L2,L3,L4,L5,L6,L7,bg,Ik,Iw,Lk,Lw,lL,jD,iY,fC,nO,true_and]
  refine ht (by decide) ?_
  simp only[I0,I1,I2,I3,I4,I5,I6,I7,L0,L1,L2,L3,L4,L5,L6,L7,bg,Ik,Iw,Lk,Lw,lL,jD,iY,fC,nO,true_and]
  rw[oF]
  refine⟨_,asb, ?_⟩
  rw[jo n6 (by rw[kY];rfl) (by rfl) (fH.jC _),show(IntKind.i64.wrap ((i:Int)+1))=((i+1:Nat):Int)from rQ (by omega)]
  refine hnext _ _ _ (by omega) ⟨i+1,rfl,rfl,by omega,k6.new _ (Nat.le_refl _),l6, ?_⟩
  rw[aO,hstep]
  rfl
 have Nv:i=64:=by have:=of_decide_eq_false hc;omega
 subst Nv
 clear hnext
 have hbf:yN h k b=List.zipWith jb h (Il k w h 64):=by
  unfold yN
  rw[hwe]
 rw[hbf]at hQ
 generalize Il k w h 64=v at *
 rw[dK n6 (by rw[kY,hrl])]
 have k46:=k4.trans k6
 refine bU (fun m ys M7=>∃ j:Nat,m=8-j∧ys=[N .i64 (j:Int)]∧j≤8∧ah [sb] M M7∧M7.heap sb=some (.row (fH.row ((List.zipWith jb h v).take j++h.drop j)) false TS 0)) _
  ⟨0,rfl,rfl,by omega,k46.mono (by simp),by rw[List.take_zero,List.drop_zero];exact hs6⟩ ?_
 rintro next m ys M7 hnext ⟨j,rfl,rfl,hj,k7,s7⟩
 simp only[bV]
 rw[Nq 8 (by rfl)]
 refine cK (fun hc=>?_) fun hc=>?_
 ·have hj8:j<8:=of_decide_eq_true hc
  rw[ae2]
  refine⟨by omega,by omega,N .u32 (v.getD j 0), ?_, ?_⟩
  ·rw[Int.toNat_natCast,vV,List.getElem?_map,List.getElem?_eq_getElem (by omega)]
   simp[List.getD,show j<v.length by omega]
  have hl7:=alr (v:=v) (Nat.le_of_lt hj8) hhl hrl
  rw[bg,jF rfl hj8,BS s7 (by omega),fC,bg,jF rfl hj8,Kt s7 (by omega),oH 1 (by omega) (by omega) (by rfl)]
  refine hnext _ _ _ (by omega) ⟨j+1,rfl,rfl,by omega,k7.put _ (.inr (by simp)), ?_⟩
  rw[aO,ak8 hj8 hhl hrl,← aiH hj8 hhl hrl]
  rfl
 ·have hj8:j=8:=by have:=of_decide_eq_false hc;omega
  subst hj8
  refine hQ M7 k7 ?_
  rw[s7,List.drop_of_length_le (by omega),List.append_nil,List.take_of_length_le (by rw[List.length_zipWith];omega)]
def kW:List Int:=[1116352408,1899447441,3049323471,3921009573,961987163,1508970993,2453635748,2870763221,3624381080,310598401,607225278,1426881987,1925078388,2162078206,2614888103,3248222580,3835390401,4022224774,264347078,604807628,770255983,1249150122,1555081692,1996064986,2554220882,2821834349,2952996808,3210313671,3336571891,3584528711,113926993,338241895,666307205,773529912,1294757372,1396182291,1695183700,1986661051,2177026350,2456956037,2730485921,2820302411,3259730800,3345764771,3516065817,3600352804,4094571909,275423344,430227734,506948616,659060556,883997877,958139571,1322822218,1537002063,1747873779,1955562222,2024104815,2227730452,2361852424,2428436474,2756734187,3204031479,3329325298]
def hW:List Int:=[1779033703,3144134277,1013904242,2773480762,1359893119,2600822924,528734635,1541459225]
theorem OW:kW.length=64:=by decide
theorem Xu:hW.length=8:=by decide
def eP(k:List Int):Nat→List Int→Str→List Int
 |0,h,_=>h
 |n+1,h,m=>eP k n (yN h k (m.take 64)) (m.drop 64)
theorem wI{k:List Int}:∀ {n:Nat}{h:List Int}{m:Str},h.length=8→(eP k n h m).length=8
 |0,h,m,hl=>hl
 |n+1,h,m,hl=>wI (n:=n) (h:=yN h k (m.take 64)) (m:=m.drop 64) (abl k _ hl)
theorem DZ{k:List Int}:∀ {a n:Nat}{h:List Int}{m:Str},eP k (a+n) h m=eP k n (eP k a h m) (m.drop (64*a))
 |0,n,h,m=>by rw[Nat.zero_add];rfl
 |a+1,n,h,m=>by
  rw[Nat.add_right_comm,eP,eP,DZ (a:=a),List.drop_drop,show 64+64*a=64*(a+1) by omega]
theorem JI{k:List Int}{n:Nat}{h:List Int}{m:Str}:eP k (n+1) h m=yN (eP k n h m) k ((m.drop (64*n)).take 64):=by rw[DZ];rfl
theorem Me{k:List Int}:∀ {n:Nat}{h:List Int}{m p:Str},64*n≤m.length→eP k n h (m++p)=eP k n h m
 |0,h,m,p,_=>rfl
 |n+1,h,m,p,hl=>by
  rw[eP,eP,List.take_append_of_le_length (by omega),List.drop_append_of_le_length (by omega),Me (by rw[List.length_drop];omega)]
def RV(n:Int):UInt8:=UInt8.ofNat (n%256).toNat
theorem aro(n:Int):IntKind.u8.wrap n=n%256:=by
 simp only[IntKind.wrap,IntKind.bits,IntKind.signed,IntKind.max,IntKind.min]
 simp
theorem ZZ(n:Int):N .u8 (IntKind.u8.wrap n)=By (RV n):=by
 have:((RV n).toNat:Int)=n%256:=by
  unfold RV
  rw[UInt8.toNat_ofNat']
  have h1:0≤n%256:=Int.emod_nonneg _ (by decide)
  have h2:n%256<256:=Int.emod_lt_of_pos _ (by decide)
  rw[Nat.mod_eq_of_lt (by omega)]
  omega
 rw[By,this,aro]
def zp(L:Nat):Nat:=(119-L%64)%64
def zu(L:Nat):Str:=(List.range 8).map fun i=>RV (rG .u64 ((8*L:Nat):Int) ((56-8*i:Nat):Int))
def MV(L:Nat):Str:=128::(List.replicate (zp L) 0++zu L)
def zx(h:List Int):Str:=(List.range 32).map fun i=>RV (rG .u32 (h.getD (i / 4) 0) ((24-8*(i%4):Nat):Int))
theorem aiy(h:List Int):(zx h).length=32:=by simp[zx]
def NW(b:Str):Str:=zx (eP kW ((b.length+9+zp b.length) / 64) hW (b++MV b.length))
theorem ae5(b:Str):eP kW ((b.length+9+zp b.length) / 64) hW (b++MV b.length) =
  eP kW ((b.length-b.length / 64*64+9+zp b.length) / 64) (eP kW (b.length / 64) hW b) (b.drop (b.length / 64*64)++MV b.length):=by
 have e:(b.length+9+zp b.length) / 64=b.length / 64+(b.length-b.length / 64*64+9+zp b.length) / 64:=by omega
 rw[e,DZ,Me (by omega),List.drop_append_of_le_length (by omega),Nat.mul_comm 64]
def partsOf:Nat→List Int→List (Nat×Nat×AV)
 |_,[]=>[]
 |i,x::xs=>(i,1,N .u32 x)::partsOf (i+1) xs
theorem Mr:∀ (xs pre:List Int),nC (fH.row (pre++List.replicate xs.length 0)) (partsOf pre.length xs)=some (fH.row (pre++xs))
 |[],pre=>by simp[partsOf,nC]
 |x::xs,pre=>by
  have h:=Mr xs (pre++[x])
  rw[List.length_append,List.length_singleton]at h
  rw[partsOf,pY (by rw[kY];simp),show pre++x::xs=pre++[x]++xs by simp,← h]
  congr 1
  rw[vV,vV,show(N .u32 x)=(fun n=>N .u32 n) x from rfl,← List.map_set,set_mid (by simp)]
  simp
theorem Tf{T n:Nat}{xs:List Int}{M:RM}{K:AV→RM→Prop}(hn:xs.length=n)(hK:∀ M',ah [] M M'→K (.agg (fH.row xs)) M') :
  cz (.row (fH.row (List.replicate n 0)) false T 0) (fun b=>.ptr b 0) M fun t0 M1=>iV (fH.row (List.replicate n 0)) (partsOf 0 xs) fun t1=>aR M1 t0 t1 n fun M2=>bT M2 t0 n fun res=>K res M2:=by
 subst hn
 rw[bL,oF]
 refine⟨_,Mr xs [], ?_⟩
 have n1:(M.push (.row (fH.row (List.replicate xs.length 0)) false T 0)).heap M.next=some (.row (fH.row (List.replicate xs.length 0)) false T 0):=by simp[RM.push]
 rw[List.nil_append,jo n1 (by rw[kY]) (by rw[kY,List.length_replicate]) (fH.jC _),dK (aO _) (by rw[kY])]
 exact hK _ (((ah.refl _ _).push _).new _ (Nat.le_refl _))
def ES(xs:List Int)(c:aB):Prop:=∀ {M:RM}{Q:aj},(∀ M',ah [] M M'→Q (.agg (fH.row xs)) M')→c [] M Q
theorem Ql{T:Nat}:ES kW fun args M Q=>args=[]∧ul T M Q:=by
 intro M Q hQ
 refine⟨rfl, ?_⟩
 unfold ul
 exact Tf (xs:=kW) (n:=64) OW hQ
theorem Iq{T:Nat}:ES hW fun args M Q=>args=[]∧Es T M Q:=by
 intro M Q hQ
 refine⟨rfl, ?_⟩
 unfold Es
 exact Tf (xs:=hW) (n:=8) Xu hQ
def pg(T:Nat)(c:aB):Prop:=∀ {M:RM}{v:AV}{s:Str}{Q:aj},Sl BY M v s→s.length≤1000000000→(∀ v' M',Ow BY M' M.next T v' s→ah [] M M'→Q v' M')→c [v] M Q
theorem Hr{T:Nat}:pg T fun args M Q=>∃ a0,args=[a0]∧Go.Ab.aS.oG T a0 M Q:=by
 intro M v s Q hv hl hQ
 refine⟨_,rfl, ?_⟩
 unfold Go.Ab.aS.oG
 rcases aW.Ad hv false with⟨rfl,he⟩|⟨hne,he⟩
 ·rw[he,show(!false)=true from rfl,dE]
  have:s=[]:=by
   unfold Sl at hv
   cases s with
   |nil=>rfl
   |cons x s=>generalize hcs:BY.row (x::s)=cs at *;generalize hn:(x::s).length=n at *;cases hv;cases hcs
  subst this
  exact hQ bC M .nil (ah.refl _ _)
 ·rw[he,di,aki]
  simp only[bL]
  have k1:ah [] M (M.push (.row [] false T 0)):=(ah.refl _ _).push _
  refine Fa (E:=BY) (Ow.lit BY M) (by simp[RM.push]) (by decide) (aW.keep hv k1 (by simp)) (by simp;omega) (by simp;omega) fun v7 M7 o7 k7 _ _=>?_
  refine hQ v7 M7 (by simpa using o7) ?_
  refine ah.own k1 k7 (fun b hb=>?_)
  simp[aJ]at hb;omega
theorem aif{L i:Nat}(hi:i<8):(zu L).take (i+1)=(zu L).take i++[RV (rG .u64 ((8*L:Nat):Int) ((56-8*i:Nat):Int))]:=by
 have hl:i<(zu L).length:=by simp[zu];exact hi
 rw[List.take_succ_eq_append_getElem hl]
 simp[zu]
theorem aiG{d:Str}{n i:Nat}{x:UInt8}(hi:i<n)(hd:d.length=n)(hx:d[i]?=some x):(d.take i++List.replicate (n-i) 0).set i x=d.take (i+1)++List.replicate (n-(i+1)) 0:=by
 have hl:(d.take i).length=i:=by rw[List.length_take];omega
 have hx' : d[i]'(by omega)=x:=by rw[List.getElem?_eq_getElem (by omega)]at hx;exact Option.some.inj hx
 obtain⟨m,hm⟩ : ∃ m,n-i=m+1:=⟨n-i-1,by omega⟩
 rw[hm,List.replicate_succ,List.set_append_right _ _ (by omega),hl,Nat.sub_self,List.set_cons_zero,List.take_succ_eq_append_getElem (by omega),hx',List.append_assoc,show n-(i+1)=m by omega]
 rfl
def aiO(c:aB):Prop:=∀ {M:RM}{v:AV}{b:Str}{Q:aj},Bs M v b→b.length≤100000000→(∀ M',ah [] M M'→Q (.agg (BY.row (NW b))) M')→c [v] M Q
theorem ahO{T32 TK TS T8:Nat}{cc cf ct cl:aB}(hc:ES kW cc)(hf:ES hW cf)(ht:acX TK TS ct)(hcl:pg T8 cl):aiO fun args M Q=>∃ a0,args=[a0]∧JX T32 cc TK cf TS ct cl T8 a0 M Q:=by
 intro M v b Q hv hl hQ
 refine⟨_,rfl, ?_⟩
 unfold JX
 rw[bL]
 have k1:ah [] M (M.push (.row (BY.row (List.replicate 32 0)) false T32 0)):=(ah.refl _ _).push _
 have n1:(M.push (.row (BY.row (List.replicate 32 0)) false T32 0)).heap M.next=some (.row (BY.row (List.replicate 32 0)) false T32 0):=by simp[RM.push]
 have l1:M.next<(M.push (.row (BY.row (List.replicate 32 0)) false T32 0)).next:=by simp[RM.push]
 show cc _ (M.push (.row (BY.row (List.replicate 32 0)) false T32 0)) _
 generalize M.push (.row (BY.row (List.replicate 32 0)) false T32 0)=M1 at *
 refine hc fun M2 k2=>?_
 have zz:∀ n,(fH.row (List.replicate n 0)).length=n:=fun n=>by rw[kY,List.length_replicate]
 refine ajD (K:=fun t axG=>_) (z:=fH.row (List.replicate 64 0)) 64 (zz 64) (by rw[kY,OW]) (fH.jC _) fun M3 k3 n3 l3=>?_
 refine hf fun M4 k4=>?_
 refine ajD (K:=fun t axG=>_) (z:=fH.row (List.replicate 8 0)) 8 (zz 8) (by rw[kY,Xu]) (fH.jC _) fun M5 k5 n5 l5=>?_
 have hk34:=k4.next
 have hk23:=k3.next
 have k35:ah [] M3 M5:=k4.trans k5
 have n35:=k35.aV n3 l3 (by simp)
 have SG:M2.next<M5.next:=Nat.lt_of_lt_of_le l3 k35.next
 have k05:ah [] M M5:=k1.trans (k2.trans (k3.trans k35))
 have k25:ah [] M2 M5:=k3.trans k35
 have n15:=(k2.trans k25).aV n1 l1 (by simp)
 have EI:M.next<M5.next:=Nat.lt_of_lt_of_le l1 (k2.trans k25).next
 have hl1:M.next<M2.next:=Nat.lt_of_lt_of_le l1 k2.next
 have hne:M2.next≠M4.next:=by omega
 have hv5:=hv.keep k05 (by simp)
 have aA6:=hv.lt
 have hvn:∀ x∈aJ v,x ∉ [M4.next]:=fun x hx hm=>by have:=aA6 x hx;simp at hm;omega
 rw[hv5.len,NL]
 refine⟨by decide, ?_⟩
 have e1:IntKind.i64.wrap ((b.length:Int).tdiv 64)=((b.length / 64:Nat):Int):=by
  rw[show(b.length:Int).tdiv 64=((b.length / 64:Nat):Int) by rw[Int.natCast_ediv];exact Int.tdiv_eq_ediv_of_nonneg (by omega)]
  exact bM (by omega) (by omega)
 rw[e1,oW,show IntKind.i64.wrap (((b.length / 64:Nat):Int)*64)=((b.length / 64*64:Nat):Int) by rw[bM (by omega) (by omega)];omega]
 generalize hwe:b.length / 64=q at *
 have hq:q*64≤b.length∧b.length<q*64+64:=by omega
 refine bU (fun m ys M6=>∃ j:Nat,m=q-j∧ys=[N .i64 ((j*64:Nat):Int)]∧j≤q∧ah [M4.next] M5 M6∧M6.heap M4.next=some (.row (fH.row (eP kW j hW b)) false TS 0)) _
  ⟨0,rfl,rfl,by omega,ah.refl _ _,n5⟩ ?_
 rintro next m ys M6 hnext ⟨j,rfl,rfl,hj,k6,n6⟩
 simp only[bV]
 have l6:M4.next<M6.next:=Nat.lt_of_lt_of_le l5 k6.next
 have n36:=k6.aV n35 SG (by simp;omega)
 have ZX:M2.next<M6.next:=Nat.lt_of_lt_of_le SG k6.next
 have hv6:=hv5.keep k6 hvn
 have aiC:(eP kW j hW b).length=8:=wI Xu
 rw[Ih]
 refine cK (fun hc=>?_) fun hc=>?_
 ·have hjq:j<q:=by have:=of_decide_eq_true hc;omega
  rw[oH 64 (by omega) (by omega) (by rfl)]
  refine hv6.sub (nA _ _ _) (nA _ _ _) (by omega) (by omega) fun v7 h7 hs7=>?_
  rw[show j*64+64-j*64=64 by omega]at h7
  refine ht n6 l6 aiC n36 ZX hne OW h7 (by rw[List.length_take,List.length_drop];omega) fun M7 k7 n7=>?_
  rw[oH 64 (by omega) (by omega) (by rfl),show j*64+64=(j+1)*64 by omega]
  refine hnext _ _ _ (by omega) ⟨j+1,rfl,rfl,by omega,k6.trans k7, ?_⟩
  rw[JI,Nat.mul_comm 64]
  exact n7
 have hjq:j=q:=by have:=of_decide_eq_false hc;omega
 subst hjq
 clear hnext
 refine hv6.sub (nA _ _ _) (V6 _) (by omega) (Nat.le_refl _) fun v7 h7 hs7=>?_
 rw[List.take_of_length_le (by simp)]at h7
 have hdl:(b.drop (j*64)).length=b.length-j*64:=List.length_drop
 refine hcl h7.sl (by omega) fun v8 M8 o8 k8=>?_
 rw[Ot (by rfl) (by rfl) (by rfl),bL]
 refine F7 (E:=BY) (a:=(128:UInt8)) o8 k8.next (by decide) (by omega) (by omega) fun v9 M9 o9 k9 _ _=>?_
 have k69:ah [] M6 M9:=ah.own k8 k9 (fun x hx=>(Own.blk o8 x hx).1)
 have hzp:zp b.length<64:=Nat.mod_lt _ (by decide)
 have hz:(b.length-j*64+1+zp b.length)%64=56:=by unfold zp;omega
 refine bU (fun m ys M10=>∃ (i:Nat)(rv:AV),m=zp b.length-i∧ys=[rv]∧i≤zp b.length∧ah [] M6 M10∧Ow BY M10 M6.next T8 rv (b.drop (j*64)++128::List.replicate i 0)) _
  ⟨0,v9,rfl,rfl,by omega,k69,o9⟩ ?_
 rintro next m ys M10 hnext ⟨i,rv,rfl,rfl,hi,k10,o10⟩
 simp only[bV]
 have hrl:(b.drop (j*64)++128::List.replicate i 0).length=b.length-j*64+1+i:=by simp;omega
 rw[aW.len (Own.E5 o10),hrl,Wm]
 refine⟨by decide, ?_⟩
 rw[show(((b.length-j*64+1+i:Nat):Int)).tmod 64=(((b.length-j*64+1+i)%64:Nat):Int) by rw[Int.natCast_emod];exact Int.tmod_eq_emod_of_nonneg (by omega),iJ]
 refine cK (fun hc=>?_) fun hc=>?_
 ·have hne:(b.length-j*64+1+i)%64≠56:=fun e=>by rw[e]at hc;cases hc
  have hlt:i<zp b.length:=by
   rcases Nat.lt_or_ge i (zp b.length)with h|h
   ·exact h
   ·have:i=zp b.length:=by omega
    subst this;exact absurd hz hne
  rw[Ot (by rfl) (by rfl) (by rfl),bL]
  refine F7 (E:=BY) (a:=(0:UInt8)) o10 k10.next (by decide) (by omega) (by omega) fun v11 M11 o11 k11 _ _=>?_
  refine hnext _ _ _ (by omega) ⟨i+1,v11,rfl,rfl,by omega,ah.own k10 k11 (fun x hx=>(Own.blk o10 x hx).1), ?_⟩
  have e:b.drop (j*64)++128::List.replicate (i+1) 0=b.drop (j*64)++128::List.replicate i 0++[0]:=by rw[List.replicate_succ'];simp
  rw[e];exact o11
 have hi56:(b.length-j*64+1+i)%64=56:=by
  have:((((b.length-j*64+1+i)%64:Nat):Int) != 56)=false:=hc
  have:=bne_eq_false_iff_eq.1 this
  omega
 have hiz:i=zp b.length:=by omega
 subst hiz
 clear hnext
 generalize hpre:b.drop (j*64)++128::List.replicate (zp b.length) 0=P at *
 refine bU (fun m ys M11=>∃ (i:Nat)(rv:AV),m=8-i∧ys=[rv,N .i64 (i:Int)]∧i≤8∧ah [] M6 M11∧Ow BY M11 M6.next T8 rv (P++(zu b.length).take i)) _
  ⟨0,rv,rfl,rfl,by omega,k10,by rw[List.take_zero,List.append_nil];exact o10⟩ ?_
 rintro next m ys M11 hnext ⟨i,rv2,rfl,rfl,hi,k11,o11⟩
 simp only[bV,gY]
 have aDZ:=hv6.keep k11 (by simp)
 have hll:((zu b.length).take i).length=i:=by rw[List.length_take];simp[zu];omega
 have hpl:(P++(zu b.length).take i).length=b.length-j*64+1+zp b.length+i:=by rw[List.length_append,hrl,hll]
 rw[Nq 8 (by rfl)]
 refine cK (fun hc=>?_) fun hc=>?_
 ·have hi8:i<8:=of_decide_eq_true hc
  rw[aDZ.len,iW,wL (by omega) (by omega),oW,wL (by omega) (by omega),oW,bM (by omega) (by omega),kI,bM (by omega) (by omega),Ai]
  refine⟨by omega, ?_⟩
  rw[iW,show((b.length:Int)*8)=((8*b.length:Nat):Int) by omega,show(56-8*(i:Int))=((56-8*i:Nat):Int) by omega,ZZ,Ot (by rfl) (by rfl) (by rfl),bL]
  refine F7 (E:=BY) (a:=RV (rG .u64 ((8*b.length:Nat):Int) ((56-8*i:Nat):Int))) o11 k11.next (by decide) (by omega) (by omega) fun v12 M12 o12 k12 _ _=>?_
  rw[oH 1 (by omega) (by omega) (by rfl)]
  refine hnext _ _ _ (by omega) ⟨i+1,v12,rfl,rfl,by omega,ah.own k11 k12 (fun x hx=>(Own.blk o11 x hx).1), ?_⟩
  rw[aif hi8,← List.append_assoc]
  exact o12
 have hi8:i=8:=by have:=of_decide_eq_false hc;omega
 subst hi8
 clear hnext
 rw[List.take_of_length_le (by simp[zu])]at o11 hpl
 have hfull:P++zu b.length=b.drop (j*64)++MV b.length:=by rw[← hpre];simp[MV]
 rw[hfull]at o11 hpl
 have hrest:(b.drop (j*64)++MV b.length).length=b.length-j*64+9+zp b.length:=by rw[hpl];omega
 generalize hRe:b.drop (j*64)++MV b.length=R at *
 have hmod:(b.length-j*64+9+zp b.length)%64=0:=by omega
 obtain⟨n,hn⟩ : ∃ n,b.length-j*64+9+zp b.length=64*n:=⟨(b.length-j*64+9+zp b.length) / 64,by omega⟩
 rw[hn]at hrest
 have aAZ:=Bs.own o11
 have n11:=k11.aV n6 l6 (by simp)
 have n311:=k11.aV n36 ZX (by simp)
 have l11:M4.next<M11.next:=Nat.lt_of_lt_of_le l6 k11.next
 have amR:M2.next<M11.next:=Nat.lt_of_lt_of_le ZX k11.next
 generalize hH:eP kW j hW b=H at *
 have hrn:∀ x∈aJ rv2,x ∉ [M4.next]:=fun x hx hm=>by
  have:=(Own.blk o11 x hx).1
  simp at hm;omega
 refine bU (fun m ys M12=>∃ i:Nat,m=n-i∧ys=[N .i64 ((i*64:Nat):Int)]∧i≤n∧ah [M4.next] M11 M12∧M12.heap M4.next=some (.row (fH.row (eP kW i H R)) false TS 0)) _
  ⟨0,rfl,rfl,by omega,ah.refl _ _,n11⟩ ?_
 rintro next m ys M12 hnext ⟨i,rfl,rfl,hi,k12,n12⟩
 simp only[bV]
 have uh:M4.next<M12.next:=Nat.lt_of_lt_of_le l11 k12.next
 have n312:=k12.aV n311 amR (by simp;omega)
 have ay4:M2.next<M12.next:=Nat.lt_of_lt_of_le amR k12.next
 have an2:=aAZ.keep k12 hrn
 rw[an2.len,Ih]
 refine cK (fun hc=>?_) fun hc=>?_
 ·have hin:i<n:=by have:=of_decide_eq_true hc;omega
  rw[oH 64 (by omega) (by omega) (by rfl)]
  refine an2.sub (nA _ _ _) (nA _ _ _) (by omega) (by omega) fun v13 h13 hs13=>?_
  rw[show i*64+64-i*64=64 by omega]at h13
  refine ht n12 uh (wI aiC) n312 ay4 hne OW h13 (by rw[List.length_take,List.length_drop];omega) fun M13 k13 n13=>?_
  rw[oH 64 (by omega) (by omega) (by rfl),show i*64+64=(i+1)*64 by omega]
  refine hnext _ _ _ (by omega) ⟨i+1,rfl,rfl,by omega,k12.trans k13, ?_⟩
  rw[JI,Nat.mul_comm 64]
  exact n13
 have hin:i=n:=by have:=of_decide_eq_false hc;omega
 subst hin
 clear hnext
 have axe:NW b=zx (eP kW i H R):=by
  unfold NW
  rw[ae5,hwe,hRe,hH,hn,Nat.mul_div_cancel_left _ (by decide)]
 have hF:(eP kW i H R).length=8:=wI aiC
 generalize eP kW i H R=F at *
 have hdF:=aiy F
 rw[bL]
 have agi:ah [M4.next] M5 M12:=k6.trans ((k11.mono (by simp)).trans k12)
 have n112:=agi.aV n15 EI (by simp;omega)
 have ayR:M.next<M12.next:=Nat.lt_of_lt_of_le EI agi.next
 have k14:ah [] M12 (M12.push (.row (BY.row (List.replicate 32 0)) false T32 0)):=(ah.refl _ _).push _
 have n14:(M12.push (.row (BY.row (List.replicate 32 0)) false T32 0)).heap M12.next=some (.row (BY.row ((zx F).take 0++List.replicate (32-0) 0)) false T32 0):=by simp[RM.push]
 have Fp:M12.next<(M12.push (.row (BY.row (List.replicate 32 0)) false T32 0)).next:=by simp[RM.push]
 show eY _ _ (M12.push (.row (BY.row (List.replicate 32 0)) false T32 0))
 generalize M12.push (.row (BY.row (List.replicate 32 0)) false T32 0)=M14 at *
 refine bU (fun m ys M15=>∃ i:Nat,m=32-i∧ys=[N .i64 (i:Int)]∧i≤32∧ah [] M12 M15∧M12.next<M15.next∧M15.heap M12.next=some (.row (BY.row ((zx F).take i++List.replicate (32-i) 0)) false T32 0)) _
  ⟨0,rfl,rfl,by omega,k14,Fp,n14⟩ ?_
 rintro next m ys M15 hnext ⟨i',rfl,rfl,hi',k15,ayq,n15'⟩
 simp only[bV]
 have ax4:=k15.aV n12 uh (by simp)
 rw[Nq 32 (by rfl)]
 refine cK (fun hc=>?_) fun hc=>?_
 ·have Ib:i'<32:=of_decide_eq_true hc
  rw[NL]
  refine⟨by decide, ?_⟩
  rw[show IntKind.i64.wrap (((i' : Nat):Int).tdiv 4)=((i' / 4:Nat):Int) by
   rw[show((i' : Nat):Int).tdiv 4=((i' / 4:Nat):Int) by rw[Int.natCast_ediv];exact Int.tdiv_eq_ediv_of_nonneg (by omega)]
   exact bM (by omega) (by omega)]
  rw[jF rfl (by omega),BS ax4 (by omega),Wm]
  refine⟨by decide, ?_⟩
  rw[show(((i' : Nat):Int)).tmod 4=((i'%4:Nat):Int) by rw[Int.natCast_emod];exact Int.tmod_eq_emod_of_nonneg (by omega),oW,bM (by omega) (by omega),kI,bM (by omega) (by omega),Ai]
  refine⟨by omega, ?_⟩
  rw[iW,ZZ,jF rfl Ib,show(24-8*((i'%4:Nat):Int))=((24-8*(i'%4):Nat):Int) by omega]
  have hget:(zx F)[i']?=some (RV (rG .u32 (F.getD (i' / 4) 0) ((24-8*(i'%4):Nat):Int))):=by
   simp[zx,Ib]
  have hset:=aiG Ib hdF hget
  have hrow15:((zx F).take i'++List.replicate (32-i') 0).length=32:=by rw[List.length_append,List.length_take,List.length_replicate];omega
  rw[eU (BY.row ((zx F).take (i'+1)++List.replicate (32-(i'+1)) 0)) n15' (by rw[mr];omega) rfl rfl (by rw[← hset,fU,fU,List.map_set]),oH 1 (by omega) (by omega) (by rfl)]
  exact hnext _ _ _ (by omega) ⟨i'+1,rfl,rfl,by omega,k15.new _ (Nat.le_refl _),ayq,aO _⟩
 ·have Ib:i'=32:=by have:=of_decide_eq_false hc;omega
  subst Ib
  have e:(zx F).take 32++List.replicate (32-32) 0=zx F:=by rw[List.take_of_length_le (by omega)];simp
  rw[e]at n15'
  have n115:=k15.aV n112 ayR (by simp)
  rw[dK n15' (by rw[mr,hdF]),jo n115 (by rw[mr,hdF]) (by rw[mr,List.length_replicate]) (BY.jC _),dK (aO _) (by rw[mr,hdF]),← axe]
  have agd:ah [M4.next] M M12:=(k05.mono (by simp)).trans agi
  have asB:ah [] M M12:=⟨agd.base,agd.next,fun x hx _=>agd.heap x hx (by simp;omega)⟩
  exact hQ _ ((asB.trans k15).new _ (Nat.le_refl _))
abbrev aAq:Str:=[48,49,50,51,52,53,54,55,56,57,97,98,99,100,101,102]
def hx(n:Nat):UInt8:=aAq.getD n 0
def vN(x:UInt8):Bool:=(decide ((x.toNat:Int)≥48)&&decide ((x.toNat:Int)≤57))||(decide ((x.toNat:Int)≥97)&&decide ((x.toNat:Int)≤102))
def AR(s:Str):Bool:=decide (s.length=64)&&s.all vN
def UE(c:aB):Prop:=∀ {M:RM}{x:UInt8}{Q:aj},(∀ n:Int,(decide (n>15))=!vN x→0≤n→Q (N .u8 n) M)→c [By x] M Q
theorem Gb:UE fun args M Q=>∃ a0,args=[a0]∧DJ a0 M Q:=by
 intro M x Q hQ
 refine⟨_,rfl, ?_⟩
 unfold DJ
 have hx:=qX x
 simp only[dW,By]
 rw[fe]
 refine qR (p:=decide ((x.toNat:Int)≤57)) (fun _ k hk=>by rw[rC];exact hk) ?_
 refine cK (fun h=>?_) fun h1=>?_
 ·rw[kI]
  have h':=h
  simp only[Bool.and_eq_true,decide_eq_true_eq]at h'
  rw[ji (by omega) (by omega)]
  refine hQ _ ?_ (by omega)
  unfold vN
  rw[h,Bool.true_or]
  simp;omega
 rw[fe]
 refine qR (p:=decide ((x.toNat:Int)≤102)) (fun _ k hk=>by rw[rC];exact hk) ?_
 refine cK (fun h=>?_) fun h2=>?_
 ·rw[kI,fC]
  have h':=h
  simp only[Bool.and_eq_true,decide_eq_true_eq]at h'
  rw[ji (n:=(x.toNat:Int)-97) (by omega) (by omega),ji (by omega) (by omega)]
  refine hQ _ ?_ (by omega)
  unfold vN
  rw[h,Bool.or_true]
  simp;omega
 ·refine hQ _ ?_ (by decide)
  unfold vN
  rw[h1,h2];rfl
theorem Z4{p:UInt8→Bool}{s:Str}{i:Nat}(h:i<s.length)(hA:(s.take i).all p=true)(hp:p s[i]=true):(s.take (i+1)).all p=true:=by
 rw[List.take_succ_eq_append_getElem h,List.all_append,hA];simp[hp]
theorem aeP{p:UInt8→Bool}{s:Str}{i:Nat}(h:i<s.length)(hp:p s[i]=false):s.all p=false:=by
 rw[← List.take_append_drop i s,List.all_append,List.drop_eq_getElem_cons h,List.all_cons,hp];simp
theorem VU{T:Nat}{M:RM}(z:List AV){K:AV→RM→Prop}(hK:∀ M',ah [] M M'→M'.heap M.next=some (.row z false T 0)→M'.next=M.next+1→K (.ptr M.next 0) M'):cz (.row z false T 0) (fun b=>.ptr b 0) M K:=by
 rw[bL]
 exact hK _ ((ah.refl _ _).push _) (by simp[RM.push]) rfl
def U8(x:AV):Prop:=∃ m:Nat,m≤255∧x=N .u8 (m:Int)
theorem Wy(l:List UInt8):∀ x∈BY.row l,U8 x:=by
 intro x hx
 rw[fU]at hx
 obtain⟨b,_,rfl⟩:=List.mem_map.1 hx
 exact⟨b.toNat,by have:=b.toNat_lt;omega,rfl⟩
theorem akF(n:Int):U8 (N .u8 (IntKind.wrap .u8 n)):=by
 have h:IntKind.wrap .u8 n=n%256:=rfl
 rw[h]
 refine⟨(n%256).toNat,by omega, ?_⟩
 congr 2
 omega
def Ye(c:aB):Prop:=∀ {M:RM}{s:Str}{Q:aj},s.length≤281474976710656→(∀ (cs:List AV) M',ah [] M M'→cs.length=32→cs.all oneCell=true→(∀ x∈cs,U8 x)→Q (.tup [.agg cs,N .i64 (if AR s then 0 else 14)]) M')→c [St s] M Q
theorem Zl{T32:Nat}{cd:aB}(hd:UE cd):Ye fun args M Q=>∃ a0,args=[a0]∧Gr T32 cd a0 M Q:=by
 intro M s Q hl hQ
 refine⟨_,rfl, ?_⟩
 unfold Gr
 have zl:(BY.row (List.replicate 32 0)).length=32:=by rw[mr,List.length_replicate]
 refine VU (BY.row (List.replicate 32 0)) fun M1 k1 n1 e1=>?_
 refine VU (BY.row (List.replicate 32 0)) fun M2 k2 n2 e2=>?_
 have k02:=k1.trans k2
 have n12:=k2.aV n1 (by omega) (by simp)
 simp only[dW]
 rw[mX,iJ]
 have e64:((s.length:Int) != 64)=!decide (s.length=64):=by
  rw[bne,show((s.length:Int)==64)=decide (s.length=64) by rw[Bool.eq_iff_iff,beq_iff_eq,decide_eq_true_iff];omega]
 have fin:∀ (M3:RM)(cs:List AV)(n:Int),ah [M1.next] M2 M3→cs.length=32→cs.all oneCell=true→(∀ x∈cs,U8 x)→n=(if AR s then 0 else 14)→aR M3 (.ptr M.next 0) (.agg cs) 32 fun M_1=>bT M_1 (.ptr M.next 0) 32 fun res=>Q (.tup [res,N .i64 n]) M_1:=by
  intro M3 cs n k3 h1 h2 hu h3
  have n13:=k3.aV n12 (by omega) (by simp;omega)
  rw[jo n13 h1 zl h2,dK (aO _) h1,h3]
  exact hQ cs _ ((vS k02 k3 (by omega)).new _ (Nat.le_refl _)) h1 h2 hu
 rw[e64]
 refine cK (fun hc=>?_) fun hc=>?_
 ·rw[dK n2 zl]
  exact fin M2 _ 14 (ah.refl _ _) zl (BY.jC _) (Wy _) (by
   have:decide (s.length=64)=false:=by simpa using hc
   unfold AR;rw[this];rfl)
 have h64:s.length=64:=by simpa using hc
 refine bU (fun m ys M3=>∃ (i:Nat)(cs:List AV),m=32-i∧ys=[N .i64 (i:Int)]∧i≤32∧ah [M1.next] M2 M3∧M3.heap M1.next=some (.row cs false T32 0)∧cs.length=32∧cs.all oneCell=true∧(∀ x∈cs,U8 x)∧(s.take (2*i)).all vN=true) _
  ⟨0,_,rfl,rfl,by omega,ah.refl _ _,n2,zl,BY.jC _,Wy _,rfl⟩ ?_
 rintro next m ys M3 hnext ⟨i,cs,rfl,rfl,hi,k3,n3,hcl,hca,hcu,hA⟩
 simp only[bV]
 rw[Nq 32 (by rfl)]
 have ars:∀ {K:AV→Prop},ag .mul (N .i64 2) (N .i64 (i:Int)) K=K (N .i64 ((2*i:Nat):Int)):=by
  intro K
  rw[oW,bM (by omega) (by omega)];rfl
 refine cK (fun hc=>?_) fun hc=>?_
 ·have Ib:i<32:=of_decide_eq_true hc
  have h0:2*i<s.length:=by omega
  have h1:2*i+1<s.length:=by omega
  rw[ars,pV h0,ars,oH 1 (by omega) (by omega) (by rfl),pV h1]
  refine hd fun n hn hn0=>?_
  refine hd fun n' hn' hn0'=>?_
  rw[fJ,hn]
  refine Ob (p:=!vN s[2*i+1]) (fun _ k hk=>by rw[fJ,hn'];exact hk) ?_
  refine cK (fun hb=>?_) fun hb=>?_
  ·rw[oF]
   refine⟨_,rfl, ?_⟩
   refine fin M3 (BY.row (List.replicate 32 0)) 14 k3 zl (BY.jC _) (Wy _) ?_
   have:s.all vN=false:=by
    cases h:vN s[2*i]with
    |false=>exact aeP h0 h
    |true =>
     rw[h]at hb
     exact aeP h1 (by simpa using hb)
   unfold AR;rw[this,Bool.and_false];rfl
  ·have h2:vN s[2*i]=true∧vN s[2*i+1]=true:=by
    cases ha:vN s[2*i]<;>cases hb' : vN s[2*i+1]<;>simp[ha,hb']at hb ⊢
   rw[uU]
   refine⟨by decide, ?_⟩
   rw[jD,jF rfl Ib,eU _ n3 (by omega) rfl rfl rfl,oH 1 (by omega) (by omega) (by rfl)]
   refine hnext _ _ _ (by omega) ⟨i+1,_,rfl,rfl,by omega,k3.put _ (.inr (by simp)),aO _,by rw[List.length_set];exact hcl, ?_, ?_, ?_⟩
   ·rw[List.all_eq_true]at hca ⊢
    intro x hx
    rcases List.mem_or_eq_of_mem_set hx with hx|rfl
    ·exact hca x hx
    ·rfl
   ·intro x hx
    rcases List.mem_or_eq_of_mem_set hx with hx|rfl
    ·exact hcu x hx
    ·exact akF _
   ·rw[show 2*(i+1)=2*i+1+1 by omega]
    exact Z4 h1 (Z4 h0 hA h2.1) h2.2
 ·have Ib:i=32:=by have:=of_decide_eq_false hc;omega
  subst Ib
  rw[List.take_of_length_le (by omega)]at hA
  rw[dK n3 hcl]
  refine fin M3 cs 0 k3 hcl hca hcu ?_
  unfold AR
  rw[hA,h64];rfl
end Go.Ab.Sha
namespace Go.Ab.Sy
open Go Go.Ab Go.RowKit
open Go.Ab.Hw (Hd HD bD isNamed Ia)
section
variable {P:Program} {G:Gd} {B:Base} {E E' : En} {H:SH} {M:RM} {K:KS} {C:aI} {args:List SV} {avs:List AV} {c:aB} {el eh off:Nat}
theorem ae9(hc:Go.Ab.Hw.pg el c)(hH:HR E H M)(ha:aP E args avs)(h:Yr el C args H K=true):c avs M (HK E K):=by
 unfold Yr at h
 split at h <;>try(cases h;done)
 rename_i b
 split at h <;>try(cases h;done)
 rename_i s hs
 split at h <;>try(cases h;done)
 rename_i hm
 have hm:=bP hm
 cases ha with|cons _ vb _ _ p q =>
 cases q
 obtain⟨l,hd,hsl⟩:=qN hH hs p
 have hlen:=(bJ hd).2
 refine hc (s:=l) (by unfold Sl;rw[fU];exact hsl) (by omega) fun r M' o k=>?_
 unfold Ow at o
 rw[fU]at o
 exact PT hH hd o k h
theorem Vd(hH:HR E H M):∀ {cs:List SV}{us:List AV}{s:SB},aP E cs us→O3 H cs=some s→∃ xss:List bQ,us.length=xss.length∧(∀ (i:Nat)(v:AV)(x:bQ),us[i]?=some v→xss[i]?=some x→Sl BY M v x)∧bG E.g s xss.flatten
 |_,_,_,.nil,h=>by
  simp only[O3]at h
  cases h
  exact⟨[],rfl,fun i v x h=>by simp at h,.nil⟩
 |_,_,_,.cons x u xs us p q,h=>by
  simp only[O3]at h
  split at h <;>try(cases h;done)
  rename_i a b ha hb
  cases h
  obtain⟨l,hd,hsl⟩:=qN hH ha p
  obtain⟨xss,h1,h2,h3⟩:=Vd hH q hb
  refine⟨l::xss,by simp[h1],fun i v y e1 e2=>?_,by rw[List.flatten_cons];exact pu hd h3⟩
  cases i with
  |zero =>
   simp at e1 e2
   subst e1 e2
   unfold Sl;rw[fU];exact hsl
  |succ i=>exact h2 i v y (by simpa using e1) (by simpa using e2)
theorem ady(hc:Ia el c)(hH:HR E H M)(ha:aP E args avs)(h:P9 el C args H K=true):c avs M (HK E K):=by
 unfold P9 at h
 split at h <;>try(cases h;done)
 rename_i b n m
 split at h <;>try(cases h;done)
 rename_i cs TB hk
 split at h <;>try(cases h;done)
 rename_i s e1 e2 e3 e4
 split at h <;>try(cases h;done)
 rename_i e5 e6
 have e1:=bB e1
 have e2:=bB e2
 have e3:=bP e3
 have e5:=bP e5
 have e6:=bP e6
 subst e1
 cases ha with|cons _ vb _ _ p q =>
 cases q
 cases p with|slc _ _ _ bb _ eb =>
 have h1:=hH.blk b
 rw[hk]at h1
 obtain⟨b',us,f1,f2,f3,f4,f5⟩:=h1
 rw[eb]at f1;cases f1
 obtain⟨xss,g1,g2,g3⟩:=Vd hH f4 e4
 have hl:=f4.length
 have hn:n=us.length:=by omega
 subst hn
 have hlen:=bJ g3
 refine hc f3 f2 g1 e3 g2 (by omega) (by omega) fun r M' o k=>?_
 unfold Ow at o
 rw[fU]at o
 exact PT hH g3 o k h
theorem YW(hc:Go.Ab.Sha.Ye c)(hH:HR E H M)(ha:aP E args avs)(h:MW C args H K=true):c avs M (HK E K):=by
 unfold MW at h
 split at h <;>try(cases h;done)
 rename_i x
 split at h <;>try(cases h;done)
 rename_i hm
 have hm:=bP hm
 cases ha with|cons _ vb _ _ p q =>
 cases q
 cases p with|s _ l d =>
 have hlen:=(bJ d).2
 refine hc (by omega) fun cs M' k h1 h2 h3=>?_
 have key:∀ (n:Nat)(cs:List AV),cs.length=n→(∀ x∈cs,Go.Ab.Sha.U8 x)→aP E (AJ [.iv .u8 0 255] n) cs:=by
  intro n
  induction n with
  |zero=>intro cs hl _;cases cs<;>first|exact .nil|simp at hl
  |succ n ih =>
   intro cs hl hu
   cases cs with
   |nil=>simp at hl
   |cons x cs =>
    obtain⟨m,hm,rfl⟩:=hu x (List.mem_cons_self ..)
    exact .cons _ _ _ _ (.iv _ _ _ _ (Nat.zero_le _) hm) (ih cs (by simpa using hl) fun y hy=>hu y (List.mem_cons_of_mem _ hy))
 refine Fu hH k (.tup _ _ (.cons _ _ _ _ (.agg _ _ (key 32 cs h1 h3)) (.cons _ _ _ _ ?_ .nil))) h
 split
 ·exact .iv .i64 0 15 0 (by decide) (by decide)
 ·exact .iv .i64 0 15 14 (by decide) (by decide)
theorem alR{sv:SV}{v:AV}(h:aiq sv=true)(hx:SR E sv v):iZ v:=by
 unfold aiq at h
 split at h <;>try(cases h;done)
 ·cases hx with|bs _ _ e=>exact(E.sl1 _ _ e).2.2
 ·cases hx;exact bP h
 ·cases hx;exact bB h
theorem SA{l d:List Nat}:∀ {t:List (List Nat×List Nat)},Ud l t=some d→(l,d)∈t
 |[],h=>by cases h
 |(m,e)::r,h=>by
  simp only[Ud]at h
  split at h
  ·rename_i he
   cases h
   rw[jl he]
   exact List.mem_cons_self ..
  ·exact List.mem_cons_of_mem _ (SA h)
theorem aeg:∀ (d:List Nat),(∀ n∈d,n<256)→aP E (u8s d) (BY.row (eT d))
 |[],_=>.nil
 |n::r,h=>by
  have e:BY.row (eT (n::r))=By (UInt8.ofNat n)::BY.row (eT r):=rfl
  have e2:By (UInt8.ofNat n)=N .u8 (Int.ofNat n):=by
   show N .u8 _=_
   rw[UInt8.toNat_ofNat',Nat.mod_eq_of_lt (h n (List.mem_cons_self ..))];rfl
  rw[e,e2]
  exact .cons _ _ _ _ (.i _ _) (aeg r fun k hk=>h k (List.mem_cons_of_mem _ hk))
theorem al0{tab:List (List Nat×List Nat)}(ht:∀ e∈tab,Go.Ab.Sha.NW (eT e.1)=eT e.2∧∀ n∈e.2,n<256)(hc:Go.Ab.Sha.aiO c)(hl:∀ e∈tab,e.1.length≤1000)(hH:HR E H M)(ha:aP E args avs)(h:agJ tab C args H K=true):c avs M (HK E K):=by
 unfold agJ at h
 split at h <;>try(cases h;done)
 rename_i v
 split at h <;>try(cases h;done)
 rename_i s e1 e2
 split at h <;>try(cases h;done)
 rename_i l e3
 split at h <;>try(cases h;done)
 rename_i d e4
 cases ha with|cons _ vb _ _ p q =>
 cases q
 obtain⟨b,hd,hsl⟩:=qN hH e2 p
 obtain⟨rfl,_⟩:=fG hd e3
 have hm:=SA e4
 obtain⟨h1,h2⟩:=ht _ hm
 have h3:=hl _ hm
 have hbs:Go.Ab.Sha.Bs M vb (l.map UInt8.ofNat):=⟨by unfold Sl;rw[fU];exact hsl,Ro (alR e1 p)⟩
 refine hc hbs (by rw[List.length_map];dsimp only at h3;omega) fun M' k=>?_
 rw[show Go.Ab.Sha.NW (l.map UInt8.ofNat)=eT d from h1]
 exact Fu hH k (.agg _ _ (aeg d h2)) h
def aht(off:Nat)(c:aB):Prop:=∀ {M:RM}{cs:List AV}{v:AV}{l:List Hd}{n:bQ}{Q:aj},cs.length=off+2→cs[off]?=some v→cs.all oneCell=true→Sl HD M v l→l.length≤1000000→(∀ h∈l,h.1.length<4611686018427387904)→n.length<4611686018427387904 →
 (∀ M',ah [] M M'→Q (Go.Ab.Hw.qG (bD l n)) M')→c [.agg cs,St n] M Q
theorem aak{n:Nat}(h:n<256):Go.Ab.bO (UInt8.ofNat n)=UInt8.ofNat (bO n)∧bO n<256:=by
 have e:(UInt8.ofNat n).toNat=n:=by rw[UInt8.toNat_ofNat',Nat.mod_eq_of_lt h]
 unfold Go.Ab.bO
 rw[e]
 cases h1:Nat.ble 65 n with
 |true =>
  have g1:=bP h1
  cases h2:Nat.ble n 90 with
  |true =>
   have g2:=bP h2
   have e3:bO n=n+32:=by
    unfold bO
    rw[h1]
    dsimp only
    rw[h2]
    try rfl
   rw[e3,if_pos ⟨g1,g2⟩]
   refine⟨?_,by omega⟩
   rw[← UInt8.toNat_inj,UInt8.toNat_add,e,UInt8.toNat_ofNat']
   rfl
  |false =>
   have g2:=WB h2
   have e3:bO n=n:=by unfold bO;rw[h1];dsimp only;rw[h2]
   rw[e3,if_neg (by omega)]
   exact⟨rfl,h⟩
 |false =>
  have g1:=WB h1
  have e3:bO n=n:=by unfold bO;rw[h1]
  rw[e3,if_neg (by omega)]
  exact⟨rfl,h⟩
theorem Sr:∀ (a b:List Nat),(∀ n∈a,n<256)→(∀ n∈b,n<256)→(BF a b=true↔Go.Ab.low (eT a)=Go.Ab.low (eT b))
 |[],[],_,_=>by simp[BF,Go.Ab.low,eT]
 |[],_::_,_,_=>by simp[BF,Go.Ab.low,eT]
 |_::_,[],_,_=>by simp[BF,Go.Ab.low,eT]
 |a::x,b::y,h1,h2=>by
  obtain⟨a1,a2⟩:=aak (h1 a (List.mem_cons_self ..))
  obtain⟨b1,b2⟩:=aak (h2 b (List.mem_cons_self ..))
  have ih:=Sr x y (fun n h=>h1 n (List.mem_cons_of_mem _ h)) (fun n h=>h2 n (List.mem_cons_of_mem _ h))
  have e1:Go.Ab.low (eT (a::x))=UInt8.ofNat (bO a)::Go.Ab.low (eT x):=by simp only[Go.Ab.low,eT,List.map_cons,a1]
  have e2:Go.Ab.low (eT (b::y))=UInt8.ofNat (bO b)::Go.Ab.low (eT y):=by simp only[Go.Ab.low,eT,List.map_cons,b1]
  rw[e1,e2,List.cons.injEq,Uu a2 b2,← ih]
  simp only[BF]
  cases hab:Nat.beq (bO a) (bO b)with
  |true=>simp[bB hab]
  |false=>simp[AU hab]
theorem O4:∀ (n:Nat){cs:List SV}{us:List AV},cs.length≤n→aP E cs us→LB cs=true→∃ l:List Hd,us=HD.row l∧∀ h∈l,h.1.length<4611686018427387904
 |0,[],us,_,hs,h=>by cases hs;exact⟨[],rfl,fun _ h=>by cases h⟩
 |0,_::_,_,hn,_,_=>by simp at hn
 |n+1,cs,us,hn,hs,h=>by
  unfold LB at h
  split at h <;>try(cases h;done)
  ·cases hs;exact⟨[],rfl,fun _ h=>by cases h⟩
  ·rename_i a b r
   split at h <;>try(cases h;done)
   rename_i hm
   have hm:=bP hm
   cases hs with|cons _ _ _ _ p q =>
   cases q with|cons _ _ _ _ p2 q2 =>
   cases p with|s _ lx dx =>
   cases p2 with|s _ ly dy =>
   obtain⟨l,e,hl⟩:=O4 n (by simp at hn;omega) q2 h
   subst e
   have:=(bJ dx).2
   refine⟨(lx,ly)::l,rfl,fun h hh=>?_⟩
   rcases List.mem_cons.1 hh with rfl|hh
   ·show lx.length<_;omega
   ·exact hl h hh
theorem Z9{n:List Nat}(hn:∀ x∈n,x<256){Kb:Option SB→Bool}:∀ (l:List Hd){cs:List SV},aP E cs (HD.row l)→aaM n Kb cs=true →
  (Kb none=true∧bD l (eT n)=[])∨∃ b s r,Kb (some b)=true∧bD l (eT n)=s::r∧bG E.g b s
 |[],cs,hs,h=>by
  have:HD.row ([]:List Hd)=[]:=rfl
  rw[this]at hs
  cases hs
  exact .inl ⟨h,rfl⟩
 |(x,y)::l,cs,hs,h=>by
  have e:HD.row ((x,y)::l)=St x::St y::HD.row l:=rfl
  rw[e]at hs
  cases hs with|cons sx _ xs _ p q =>
  cases q with|cons sy _ ys _ p2 q2 =>
  unfold aaM at h
  split at h <;>try(cases h;done)
  ·rename_i heq;cases heq
  rename_i a b r heq
  cases heq
  split at h <;>try(cases h;done)
  rename_i la hla
  cases p with|s _ _ dx =>
  cases p2 with|s _ _ dy =>
  obtain⟨rfl,hb⟩:=fG dx hla
  have hle:=Sr la n hb hn
  split at h
  ·rename_i ht
   have:=hle.1 ht
   refine .inr ⟨b,y,bD l (eT n),h, ?_,dy⟩
   have hi:isNamed (eT n) (eT la,y)=true:=by unfold isNamed;exact beq_iff_eq.2 this
   show List.map _ (List.filter (isNamed (eT n)) ((eT la,y)::l))=_
   rw[List.filter_cons,if_pos hi]
   rfl
  ·rename_i hf
   have hi:isNamed (eT n) (eT la,y)=false:=by
    unfold isNamed
    rw[beq_eq_false_iff_ne]
    intro hc
    rw[hle.2 hc]at hf
    cases hf
   have e2:bD ((eT la,y)::l) (eT n)=bD l (eT n):=by
    unfold bD
    rw[List.filter_cons,if_neg (by rw[hi];simp)]
   show(_∧bD ((eT la,y)::l) (eT n)=_)∨∃ b s r,_∧bD ((eT la,y)::l) (eT n)=_∧_
   rw[e2]
   exact Z9 hn l q2 h
theorem aav(hc:aht off c)(hH:HR E H M)(ha:aP E args avs)(h:ajm off C args H K=true):c avs M (HK E K):=by
 unfold ajm at h
 split at h <;>try(cases h;done)
 rename_i cs n
 split at h <;>try(cases h;done)
 rename_i hs n' e1 e2 e3 e4
 split at h <;>try(cases h;done)
 rename_i k l e5
 split at h <;>try(cases h;done)
 rename_i e6 e7 e10
 have e10:=bP e10
 have e2:=bB e2
 have e6:=bP e6
 cases ha with|cons _ _ _ _ p q =>
 cases q with|cons _ _ _ _ p2 q2 =>
 cases q2
 cases p with|agg _ us p =>
 cases p2 with|s _ ln dn =>
 obtain⟨rfl,hn⟩:=fG dn e4
 obtain⟨v,f1,f2⟩:=p.lT e3
 have hlen:=p.length
 obtain⟨rs,g1,g2⟩:=Vs hH f2 e5
 obtain⟨hl,rfl,hb⟩:=O4 l.length (Nat.le_refl _) g1 e7
 have e8:(HD.row hl).length=hl.length*2:=HD.ig _
 have e9:=Zq g2
 have hk:k=hl.length:=by omega
 subst hk
 have hnl:(n'.map UInt8.ofNat).length<4611686018427387904:=by
  have:=(bJ dn).2
  omega
 refine hc (show us.length=off+2 by rw[← hlen];exact e2) f1 (nu p e1) g2 e6 hb hnl fun M' kk=>?_
 rcases Z9 hn hl g1 h with⟨h1,h2⟩|⟨b,s,r,h1,h2,h3⟩
 ·rw[show bD hl (n'.map UInt8.ofNat)=[]from h2]
  exact Fu hH kk (.tup _ _ (.cons _ _ _ _ (.s _ _ .nil) (.cons _ _ _ _ (.b _) .nil))) h1
 ·rw[show bD hl (n'.map UInt8.ofNat)=s::r from h2]
  exact Fu hH kk (.tup _ _ (.cons _ _ _ _ (.s _ _ h3) (.cons _ _ _ _ (.b _) .nil))) h1
end
end Go.Ab.Sy
namespace Go.Ab.Dk
open Go Go.Ab
section
variable {i j:Nat} {K:AV→Prop}
theorem addN(h:i+j<4611686018427387904):ag .add (N .i64 (i:Int)) (N .i64 (j:Int)) K=K (N .i64 ((i+j:Nat):Int)):=by
 rw[fC,bM (by omega) (by omega),Int.natCast_add]
end
section
variable {M:RM} {c p:Bool} {f:aj→Prop} {P:RM→Prop} {G:AV→RM→Prop}
end
abbrev Nm:=List UInt8
abbrev Dir:=List (Nm×Nat)
abbrev Chg:=Nm×Option Nat×Nm
abbrev Fil:=List UInt8×Nat
structure Dsk where
 files:List Fil
 dir:Dir
 sdir:Dir
 chg:List Chg
 quota:Int
 app:Int
 syn:Int deriving DecidableEq
inductive Tag where
 |disk|names|safe|chg|file (i:Nat)|bytes (i:Nat) deriving DecidableEq
abbrev abj:=Nat→Option Tag
variable {fbs gbs:List Nat} {cl lo:Nat} {es:List (AV×AV×Nat)} {d:Dir}
inductive FB(M:RM)(TU:Nat):AV→List UInt8→Prop
 |nil:FB M TU bC []
 |op (b:Nat) (xs:List UInt8):b<M.next→M.heap b=some (.row (BY.row xs) true TU 0)→FB M TU (.slc b 0 xs.length (.op 1)) xs
 |ex (b o n:Nat) (xs:List UInt8):b<M.next→M.loads b o n=some (BY.row xs)→xs.length=n→FB M TU (.slc b o n (.ex n)) xs
structure FE(TF TU:Nat)(own:abj)(M:RM)(fbs:List Nat)(i b:Nat)(v:AV)(f:Fil):Prop where
 at_:fbs[i]?=some b
 lt:b<M.next
 tg:own b=some (.file i)
 heap:M.heap b=some (.row [v,N .i64 (f.2:Int)] false TF 0)
 fb:FB M TU v f.1
 le:f.2≤f.1.length
 blk:∀ c∈aJ v,own c=some (.bytes i)
variable {own own' : abj} {M M' : RM} {bs:List Nat} {m:Nat} {t:Tag}
section
variable {TF TU i b:Nat} {v:AV} {f:Fil} {fs:List Fil}
end
section
variable {TC:Nat} {v:AV} {cs:List Chg}
end
section
variable {TD TF TU TC db:Nat} {s:Dsk} {nm sm:Nat} {cv:AV}
end
end Go.Ab.Dk
namespace Go.Ab.Dk
open Go Go.Ab
section
variable {fbs gbs:List Nat} {own own' : abj} {M M' : RM} {bs:List Nat} {m:Nat} {d:Dir} {t:Tag} {s:Nm}
end
def eQ(p:List Int)(i n:Nat):Nat:=match p[i]? with
 |none=>0
 |some x=>if x<0 then 0 else x.toNat%n
section
variable {TD TF TU TC:Nat}
end
section
variable {TD TF TU TC:Nat}
section
variable {fbs:List Nat} {cl:Nat} {fs:List Fil}
end
end
end Go.Ab.Dk
namespace Go.Ab.Sy
open Go Go.Ab Go.RowKit
open Go.Ab.aS (zI Hz)
section
variable {E:En} {H:SH} {M:RM} {K:KS} {C:aI} {args:List SV} {avs:List AV} {c:aB} {t:Nat}
def fH(x:AV):Prop:=∃ m:Nat,m<4294967296∧x=N .u32 (m:Int)
theorem Gv(n:Int):fH (N .u32 (IntKind.wrap .u32 n)):=by
 have h:IntKind.wrap .u32 n=n%4294967296:=rfl
 rw[h]
 refine⟨(n%4294967296).toNat,by omega, ?_⟩
 congr 2
 omega
def Un(c:aB):Prop:=∀ {M:RM}{v w:AV}{l:bQ}{Q:aj},aW M 1 v (fM l) l.length→l.length≤1000000000→fH w→(∀ x,fH x→Q x M)→c [w,v] M Q
theorem adQ:Un fun args M Q=>∃ a0 a1,args=[a0,a1]∧Go.Ab.Tn.Gz a0 a1 M Q:=by
 rintro M v w l Q hs hl ⟨m0,h0,rfl⟩ hQ
 refine⟨_,_,rfl, ?_⟩
 have hs' : Sl BY M v l:=by unfold Sl;rw[fU];exact hs
 unfold Go.Ab.Tn.Gz
 rw[show ∀ {K:AV→Prop},uj (N .u32 (m0:Int)) K=K (N .u32 (Ec .u32 (if IntKind.u32.signed then -1 else IntKind.u32.max) (m0:Int)))from Go.Ab.Sha.nO,aW.len hs']
 refine bU (fun m ys M3=>∃ (i:Nat)(x:AV),m=l.length-i∧ys=[x,N .i64 (i:Int)]∧i≤l.length∧fH x∧M3=M) _
  ⟨0,_,rfl,rfl,Nat.zero_le _,Gv _,rfl⟩ ?_
 rintro next m ys M3 hnext ⟨i,x,rfl,rfl,hi,hx,rfl⟩
 dsimp only[aD]
 rw[j5]
 refine cK (fun hlt=>?_) (fun hge=>?_)
 ·have hlt:i<l.length:=by have:=of_decide_eq_true hlt;omega
  obtain⟨b1,o1,_,_,hidx,hcell⟩:=Sl.at1 (E:=BY) hs' (i:Int) hlt
  rw[hidx,fu]
  refine⟨_,hcell _ rfl, ?_⟩
  obtain⟨mx,_,rfl⟩:=hx
  rw[iW,iY]
  refine bU (fun m zs M4=>∃ (j:Nat)(y:AV),m=8-j∧zs=[y,N .i64 (j:Int)]∧j≤8∧fH y∧M4=M3) _
   ⟨0,_,rfl,rfl,Nat.zero_le _,Gv _,rfl⟩ ?_
  rintro asK m2 zs M4 O6 ⟨j,y,rfl,rfl,hj,⟨my,hmy,rfl⟩,rfl⟩
  dsimp only[aD]
  rw[j5]
  refine cK (fun hlt2=>?_) (fun hge2=>?_)
  ·have hlt2:j<8:=by have:=of_decide_eq_true hlt2;omega
   rw[lS,lL,Ai]
   refine⟨by decide, ?_⟩
   have hsh:rG .u32 (my:Int) 1=((my / 2:Nat):Int):=by
    unfold rG
    have:(min (1:Int).toNat IntKind.u32.bits)=1:=rfl
    rw[this,Int.fdiv_eq_ediv_of_nonneg _ (by decide)]
    omega
   rw[hsh,fZ]
   have add:ag .add (N .i64 (j:Int)) (N .i64 1)=fun K:AV→Prop=>K (N .i64 ((j+1:Nat):Int)):=by
    funext K
    exact Go.Ab.Sha.oH 1 (by omega) (by omega) (by rfl)
   refine cK (fun _=>?_) (fun _=>?_)
   ·rw[iY]
    dsimp only[aD]
    rw[add]
    exact O6 _ _ _ (by omega) ⟨j+1,_,rfl,rfl,by omega,Gv _,rfl⟩
   ·dsimp only[aD]
    rw[add]
    exact O6 _ _ _ (by omega) ⟨j+1,_,rfl,rfl,by omega,⟨my / 2,by omega,rfl⟩,rfl⟩
  ·have add:ag .add (N .i64 (i:Int)) (N .i64 1)=fun K:AV→Prop=>K (N .i64 ((i+1:Nat):Int)):=by
    funext K
    exact Go.Ab.Sha.oH 1 (by omega) (by omega) (by rfl)
   rw[add]
   exact hnext _ _ _ (by omega) ⟨i+1,_,rfl,rfl,by omega,⟨my,hmy,rfl⟩,rfl⟩
 ·obtain⟨mx,_,rfl⟩:=hx
  rw[show ∀ {K:AV→Prop},uj (N .u32 (mx:Int)) K=K (N .u32 (Ec .u32 (if IntKind.u32.signed then -1 else IntKind.u32.max) (mx:Int)))from Go.Ab.Sha.nO]
  exact hQ _ (Gv _)
def ada(c:aB):Prop:=∀ {M:RM}{v:AV}{l:bQ}{Q:aj},aW M 1 v (fM l) l.length→l.length≤1000000000→(∀ x,fH x→Q x M)→c [v] M Q
theorem aeD{cm:aB}(hm:Un cm):ada fun args M Q=>∃ a0,args=[a0]∧Go.Ab.Tn.JL cm a0 M Q:=by
 intro M v l Q hs hl hQ
 refine⟨_,rfl, ?_⟩
 unfold Go.Ab.Tn.JL
 exact hm hs hl ⟨0,by decide,rfl⟩ hQ
theorem ag4(hc:ada c)(hH:HR E H M)(ha:aP E args avs)(h:UL false C args H K=true):c avs M (HK E K):=by
 unfold UL at h
 dsimp only at h
 split at h <;>try(cases h;done)
 rename_i b
 split at h <;>try(cases h;done)
 rename_i s hs
 split at h <;>try(cases h;done)
 rename_i hm
 have hm:=bP hm
 cases ha with|cons _ vb _ _ p q =>
 cases q
 obtain⟨l,hd,hsl⟩:=qN hH hs p
 have hlen:=(bJ hd).2
 refine hc hsl (by omega) ?_
 rintro x ⟨m,hm,rfl⟩
 exact dN hH (.iv _ _ _ _ (Nat.zero_le _) (by omega)) h
theorem ahd(hc:Un c)(hH:HR E H M)(ha:aP E args avs)(h:UL true C args H K=true):c avs M (HK E K):=by
 unfold UL at h
 dsimp only at h
 split at h <;>try(cases h;done)
 rename_i a b
 split at h <;>try(cases h;done)
 rename_i lo hi s e1 hs
 split at h <;>try(cases h;done)
 rename_i h1 hm
 have h1:=eH h1
 have hm:=bP hm
 cases ha with|cons _ va _ _ p q =>
 cases q with|cons _ vb _ _ p2 q2 =>
 cases q2
 obtain⟨n,rfl,g1,g2⟩:=sQ e1 p
 obtain⟨l,hd,hsl⟩:=qN hH hs p2
 have hlen:=(bJ hd).2
 refine hc hsl (by omega) ⟨n,by omega,rfl⟩ ?_
 rintro x ⟨m,hm,rfl⟩
 exact dN hH (.iv _ _ _ _ (Nat.zero_le _) (by omega)) h
def abS(T:Nat)(c:aB):Prop:=∀ {M:RM}{r:Nat}{S:Nat→Prop}{x:UInt8}{bs:bQ}{Q:aj},zI T S M r (x::bs) false→(∀ M',zI T S M' r bs false→ah [r] M M'→M'.next=M.next→Q (By x) M')→c [.ptr r 0] M Q
theorem aeC{T:Nat}:abS T fun args M Q=>∃ a0,args=[a0]∧Go.Ab.Tn.zA a0 M Q:=by
 intro M r S x bs Q h hQ
 refine⟨_,rfl, ?_⟩
 unfold Go.Ab.Tn.zA
 simp only[dW,akv,ae3,aeG]
 obtain⟨v,hr,hs,hc,hS⟩:=h.row
 have hrl:=h.lt
 have hlen:(x::bs).length≠0:=by simp
 rw[bg,fD,aT (i:=0+1) hr rfl]
 rw[bN]
 dsimp only
 rw[bg]
 simp only[bN,jJ,eQ]
 rw[aT (i:=0+0) hr rfl,aW.len hs,fZ,show(((x::bs).length:Int)==0)=false by simp;omega]
 rw[bg,fD,eU [v,Bo false] hr (by simp) rfl rfl rfl,bg,fD,aT (aO _) rfl]
 have kk:ah [r] M (M.put r (.row [v,Bo false] false T 0)):=(ah.refl _ _).put _ (.inr (by simp))
 have hh:(M.put r (.row [v,Bo false] false T 0)).heap r=some (.row [v,Bo false] false T 0):=aO _
 have nn:(M.put r (.row [v,Bo false] false T 0)).next=M.next:=rfl
 generalize M.put r (.row [v,Bo false] false T 0)=M1 at *
 have s1:Sl BY M1 v (x::bs):=aW.keep hs kk (fun d hd hm=>by simp at hm;subst hm;exact h.nb (hS d hd))
 rw[di,bg,fD,aT hh rfl]
 obtain⟨b1,o1,_,_,hidx,hcell⟩:=Sl.at1 (E:=BY) s1 (0:Int) (show 0<(x::bs).length by simp)
 rw[hidx,fu]
 refine⟨_,hcell _ rfl, ?_⟩
 rw[bg,fD,aT hh rfl]
 obtain⟨v',g1,g2,g3,g4⟩:=Hz (k:=1) rfl s1 hc (by simp)
 rw[show(N .i64 1)=N .i64 ((1:Nat):Int)from rfl,g1,jV,bg,fD,eU [v',Bo false] hh (by simp) (aW.cells g2) (aW.one g2) rfl]
 have k2:ah [r] M1 (M1.put r (.row [v',Bo false] false T 0)):=(ah.refl _ _).put _ (.inr (by simp))
 exact hQ _ ⟨by rw[vI];omega,⟨v',aO _,aW.keep g2 k2 (fun d hd hm=>by simp at hm;subst hm;exact h.nb (hS d (g4 d hd))),g3,fun d hd=>hS d (g4 d hd)⟩,h.nb⟩ (kk.trans k2) (by rw[vI];omega)
theorem ae6(hc:abS t c)(hH:HR E H M)(ha:aP E args avs)(h:UU t C args H K=true):c avs M (HK E K):=by
 unfold UU at h
 split at h <;>try(cases h;done)
 rename_i r
 split at h <;>try(cases h;done)
 rename_i b cc n s hr
 cases ha with|cons _ vb _ _ p q =>
 cases q
 obtain⟨rb,v,l,rfl,e1,e2,hd,hlt,hrow,hsl,hcap,hnb,o,el,g1,g2⟩:=Ov hH hr p
 obtain⟨a,l',rfl,hda,hd'⟩:=JU hd
 cases hda with|c _ hn =>
 have hR0:=Pz hlt hrow hsl hcap hnb
 refine hc (x:=UInt8.ofNat n) (bs:=l') hR0 fun M' hR hk hnx=>?_
 obtain⟨E',H',k1,k2,k3⟩:=K8 (sv:=r) hH e1 e2 g1 g2 hnb hlt hk hnx hR hd' h
 have e:By (UInt8.ofNat n)=N .u8 (Int.ofNat n):=by
  show N .u8 _=_
  rw[UInt8.toNat_ofNat',Nat.mod_eq_of_lt (by omega)];rfl
 rw[e]
 exact⟨E',_,H',k1,k2,.i _ _,k3⟩
end
end Go.Ab.Sy
namespace Go.Ab.Sy
open Go Go.Ab Go.RowKit
section
variable {E:En} {H:SH} {M:RM} {K:KS} {C:aI} {args:List SV} {avs:List AV} {c:aB}
def rV(seen:List Nat):List (AV×AV×Nat)→List Nat→Nat
 |e::es,d::ds=>(if e.2.2∈seen then d else 0)+rV seen es ds
 |_,_=>0
def EB(seen:List Nat):List (AV×AV×Nat)→Nat
 |[]=>0
 |e::es=>(if e.2.2∈seen then 0 else 1)+EB seen es
def FE(M:RM)(v:AV)(n:Nat):Prop:=∃ b x cs opn el fz l,v=.ptr b 0∧b<M.next∧M.heap b=some (.row (x::cs) opn el fz)∧aW M 1 x (fM l) l.length∧l.length=n
def uX(M:RM)(cl:Nat):Nat→List (AV×AV×Nat)→List Nat→Prop
 |_,[],[]=>True
 |lo,e::es,d::ds=>lo≤e.2.2∧e.2.2<cl∧FE M e.2.1 d∧uX M cl (e.2.2+1) es ds
 |_,_,_=>False
def vM:List Nat→Nat
 |[]=>0
 |d::ds=>d+vM ds
theorem FE.keep{M' : RM}{v:AV}{n:Nat}(h:FE M v n)(k:ah [] M M'):FE M' v n:=by
 obtain⟨b,x,cs,opn,el,fz,l,h1,h2,h3,h4,h5⟩:=h
 exact⟨b,x,cs,opn,el,fz,l,h1,Nat.lt_of_lt_of_le h2 k.next,k.aV h3 h2 (by simp),aW.keep h4 k (by simp),h5⟩
section
variable {cl:Nat}
theorem ZW(seen:List Nat):∀ {es:List (AV×AV×Nat)}{ds:List Nat}{lo:Nat},uX M cl lo es ds→rV seen es ds≤vM ds
 |[],[],_,_=>Nat.le_refl _
 |e::es,_::d,_,⟨_,_,_,h⟩=>by
  have:=ZW seen h
  simp only[rV,vM];split<;>omega
 |[],_::_,_,h=>h.elim
 |_::_,[],_,h=>h.elim
theorem V7(seen:List Nat):∀ {es:List (AV×AV×Nat)}{ds:List Nat}{lo:Nat},uX M cl lo es ds→(∀ e∈es,e.2.2∈seen)→rV seen es ds=vM ds
 |[],[],_,_,_=>rfl
 |e::es,_::d,_,⟨_,_,_,h⟩,ha=>by
  have:=V7 seen h (fun e he=>ha e (List.mem_cons_of_mem _ he))
  simp only[rV,vM,if_pos (ha e (List.mem_cons_self ..)),this]
 |[],_::_,_,h,_=>h.elim
 |_::_,[],_,h,_=>h.elim
theorem WY:∀ {es:List (AV×AV×Nat)}{ds:List Nat},rV [] es ds=0
 |[],[]=>rfl
 |[],_::_=>rfl
 |e::es,[]=>rfl
 |e::es,d::ds=>by simp[rV,WY (es:=es)]
theorem YE(seen:List Nat)(k:Nat):∀ {es:List (AV×AV×Nat)}{ds:List Nat}{lo:Nat},uX M cl lo es ds→k<lo→rV (seen++[k]) es ds=rV seen es ds∧EB (seen++[k]) es=EB seen es
 |[],[],_,_,_=>⟨rfl,rfl⟩
 |e::es,_::d,lo,⟨h1,_,_,h⟩,hk=>by
  obtain⟨a1,a2⟩:=YE seen k h (by omega)
  have:(e.2.2∈seen++[k])=(e.2.2∈seen):=by
   simp only[List.mem_append,List.mem_singleton,eq_iff_iff]
   exact⟨fun h=>h.resolve_right (by omega),.inl⟩
  simp only[rV,EB,a1,a2,this,and_self]
 |[],_::_,_,h,_=>h.elim
 |_::_,[],_,h,_=>h.elim
theorem Kh(seen:List Nat):∀ {es:List (AV×AV×Nat)}{ds:List Nat}{lo:Nat},uX M cl lo es ds→∀ n∈es,n.2.2∉seen →
  ∃ d:Nat,FE M n.2.1 d∧es.find? (fun e=>e.2.2==n.2.2)=some n∧lo≤n.2.2∧n.2.2<cl∧rV (seen++[n.2.2]) es ds=rV seen es ds+d∧EB (seen++[n.2.2]) es<EB seen es
 |[],[],_,_,n,hn,_=>by cases hn
 |e::es,x::d,lo,⟨h3,h4,h1,h⟩,n,hn,hs=>by
  rcases List.mem_cons.1 hn with rfl|hn
  ·obtain⟨a1,a2⟩:=YE seen n.2.2 h (by omega)
   refine⟨x,h1,by simp,h3,h4, ?_, ?_⟩
   ·simp only[rV,a1,List.mem_append,List.mem_singleton,or_true,if_true,if_neg hs];omega
   ·simp only[EB,a2,List.mem_append,List.mem_singleton,or_true,if_true,if_neg hs];omega
  ·obtain⟨f,q1,q3,q4,q5,q6,q7⟩:=Kh seen h n hn hs
   have hne:e.2.2≠n.2.2:=by omega
   have:(e.2.2∈seen++[n.2.2])=(e.2.2∈seen):=by
    simp only[List.mem_append,List.mem_singleton,eq_iff_iff]
    exact⟨fun h=>h.resolve_right hne,.inl⟩
   refine⟨f,q1, ?_,by omega,q5, ?_, ?_⟩
   ·rw[List.find?_cons_of_neg (by simpa using hne)];exact q3
   ·simp only[rV,q6,this];omega
   ·simp only[EB,this];omega
 |[],_::_,_,h,_,_,_=>h.elim
 |_::_,[],_,h,_,_,_=>h.elim
end
def aix(c:aB):Prop:=∀ {M:RM}{db nm cl:Nat}{l:List AV}{opn:Bool}{el fz:Nat}{es:List (AV×AV×Nat)}{ds:List Nat}{Q:aj},M.heap db=some (.row l opn el fz)→l[1]?=some (.map nm)→nm<M.next→M.heap nm=some (.map es cl)→uX M cl 0 es ds→vM ds<4611686018427387904 →
 (∀ M',ah [] M M'→Q (N .i64 (vM ds:Int)) M')→c [.ptr db 0] M Q
theorem aiD:aix fun args M Q=>∃ a0,args=[a0]∧Go.Ab.Dk.nH a0 M Q:=by
 intro M db nm cl l opn el fz es ds Q hr hl hnl hh he hlen hQ
 refine⟨_,rfl, ?_⟩
 unfold Go.Ab.Dk.nH
 rw[bg,jJ,aT (i:=0+1) hr hl]
 refine⟨nm,es,cl,rfl,hh, ?_⟩
 have k1:ah [] M (M.push (.iter (some nm) cl [] cl)):=(ah.refl _ _).push _
 refine bU (fun z ys M'=>∃ seen,z=EB seen es∧ys=[N .i64 (rV seen es ds:Int)]∧ah [] M M'∧M.next<M'.next∧M'.heap M.next=some (.iter (some nm) cl seen cl)) (EB [] es)
  ⟨[],rfl,by rw[WY];rfl,k1,by rw[afk];omega,RM.nL _⟩ ?_
 rintro next z ys M' hnext ⟨seen,rfl,rfl,k2,n2,h2⟩
 dsimp only[aD]
 have hm:=k2.aV hh hnl (by simp)
 refine⟨M.next,nm,cl,seen,cl,es,cl,rfl,h2,hm, ?_,fun n hn hs=>?_,fun ha=>?_⟩
 ·cases es with
  |nil=>exact .inr (.inl rfl)
  |cons e es =>
   refine .inr (.inr ⟨e,List.mem_cons_self .., ?_⟩)
   cases ds with
   |nil=>exact he.elim
   |cons x d=>exact he.2.1
 ·obtain⟨d,q1,q3,q4,q5,q6,q7⟩:=Kh seen he n hn hs
  rw[dQ,dE]
  have k3:ah [] M (M'.put M.next (.iter (some nm) cl (seen++[n.2.2]) cl)):=k2.put _ (.inl (Nat.le_refl _))
  have h3:(M'.put M.next (.iter (some nm) cl (seen++[n.2.2]) cl)).heap M.next=some (.iter (some nm) cl (seen++[n.2.2]) cl):=aO _
  have hm3:=k3.aV hh hnl (by simp)
  refine⟨M.next,nm,cl,seen,es,cl,n.2.2,n,rfl,h3,hm3,q3, ?_⟩
  dsimp only
  obtain⟨b,x,cs,opn2,el2,fz2,l2,r1,r2,r3,r4,r5⟩:=q1.keep k3
  rw[dV,r1,bg,jJ]
  have hle:=ZW (seen++[n.2.2]) he
  have hs2:Sl BY (M'.put M.next (.iter (some nm) cl (seen++[n.2.2]) cl)) x l2:=by unfold Sl;rw[fU];exact r4
  rw[aT (i:=0+0) r3 rfl,aW.len hs2,r5,Go.Ab.Dk.addN (by omega),← q6]
  exact hnext _ _ _ q7 ⟨_,rfl,rfl,k3,n2,h3⟩
 ·dsimp only
  rw[dQ,di]
  rw[V7 seen he (fun e hm2=>?_)]
  ·exact hQ M' k2
  ·rcases Classical.em (e.2.2∈seen)with h|h
   ·exact h
   ·have:=ha e hm2 h
    obtain⟨d,q1,q3,q4,q5,q6,q7⟩:=Kh seen he e hm2 h
    omega
theorem WW(hH:HR E H M){cl:Nat}{Kb:Nat→Nat→Bool}:∀ {es:List (SV×SV×Nat)}{fs:List (AV×AV×Nat)},mK E es fs→∀ {lb lo hi:Nat},total H cl Kb es lb lo hi=true →
  ∃ ds lo' hi',uX M cl lb fs ds∧Kb lo' hi'=true∧lo'≤lo+vM ds∧hi+vM ds≤hi'
 |_,_,.nil,lb,lo,hi,h=>⟨[],lo,hi,trivial,h,by simp[vM],by simp[vM]⟩
 |_,_,.cons k v n a b x y p q r,lb,lo,hi,h=>by
  simp only[total]at h
  split at h <;>try(cases h;done)
  rename_i h1 h2
  split at h <;>try(cases h;done)
  rename_i kb
  split at h <;>try(cases h;done)
  rename_i sx xs opn el hk
  split at h <;>try(cases h;done)
  rename_i s hs
  cases q with|ptr _ _ fb eb =>
  have hb:=hH.blk kb
  rw[hk]at hb
  obtain⟨b',cs,e1,e2,e3,e4,e5⟩:=hb
  rw[eb]at e1;cases e1
  cases e4 with|cons _ u _ us p4 q4 =>
  obtain⟨l,hd,hsl⟩:=qN hH hs p4
  have hlen:=bJ hd
  obtain⟨ds,lo',hi',g1,g2,g3,g4⟩:=WW hH r h
  refine⟨l.length::ds,lo',hi',⟨bP h1,eH h2,⟨fb,u,us,opn,el,0,l,rfl,e2,e3,hsl,rfl⟩,g1⟩,g2, ?_, ?_⟩
  ·have e:Nat.add lo (iq s)=lo+iq s:=rfl
   simp only[vM];rw[e]at g3;omega
  ·have e:Nat.add hi (dP s)=hi+dP s:=rfl
   simp only[vM];rw[e]at g4;omega
theorem adW(hc:aix c)(hH:HR E H M)(ha:aP E args avs)(h:Xn C args H K=true):c avs M (HK E K):=by
 unfold Xn at h
 split at h <;>try(cases h;done)
 rename_i d
 split at h <;>try(cases h;done)
 rename_i l opn el hk
 split at h <;>try(cases h;done)
 rename_i m hl
 split at h <;>try(cases h;done)
 rename_i es cl hm
 cases ha with|cons _ va _ _ p q =>
 cases q
 cases p with|ptr _ _ db eb =>
 have hb:=hH.blk d
 rw[hk]at hb
 obtain⟨b',cs,e1,e2,e3,e4,e5⟩:=hb
 rw[eb]at e1;cases e1
 obtain⟨u,f1,f2⟩:=e4.lT hl
 cases f2 with|map _ nm em =>
 have hb:=hH.blk m
 rw[hm]at hb
 obtain⟨b',fs,g1,g2,g3,g4⟩:=hb
 rw[em]at g1;cases g1
 obtain⟨ds,lo',hi',k1,k2,k3,k4⟩:=WW hH g4 h
 split at k2 <;>try(cases k2;done)
 rename_i hhi
 have hhi:=eH hhi
 refine hc e3 f1 g2 g3 k1 (by omega) fun M' k=>?_
 exact Fu hH k (.iv _ _ _ _ (by omega) (by omega)) k2
end
section
variable {P:Program} {G:Gd} {B:Base} {E:En} {H:SH} {M M' : RM} {K:KS} {C:aI} {args:List SV} {avs:List AV} {g:FuncId} {fn:Func} {Q:aj} {w:World} {kd:IntKind}
theorem mQ(hf:P.funcs[g]?=some fn)(hb:fn.body=none)(h:iT P g avs M Q):GR P g avs M Q:=by
 unfold GR
 rw[hf]
 dsimp only
 rw[hb]
 exact h
theorem JE{a:Addr}{n:Int}(h:w.cell? a=some (.int kd n)):(Extern.Atomic.read (.int kd) a).run P w=.ok (.int kd n) w:=by
 have:(load a .atomic).run P w=.ok (.int kd n) w:=by simp[load,Sem.run,h]
 unfold Extern.Atomic.read
 simp only[Sem.run_bind,this,Result.andThen_ok,if_true,Sem.run_pure]
theorem II(hf:P.funcs[g]?=some fn) (hng:fn.name ≠ "runtime.NumGoroutine") (hb:fn.body=none) (h1:Extern.findNext fn=none) (h2:Extern.find fn=some (Extern.Atomic.update (Op.intArith .add) kd true))
  {b o:Nat} {x y:Int} (hl:M.loads b o 1=some [N kd x]) (hst:M.stores b o [N kd (kd.wrap (x+y))]=some M'):jW P g [.ptr b o,N kd y] M (N kd (kd.wrap (x+y))) M':=by
 intro ρ w us hus hw
 cases hus with
 |cons _ u1 _ us r1 hus =>
 cases hus with
 |cons _ u2 _ us r2 hus =>
 cases hus
 obtain⟨rfl,_⟩:=aH r2
 obtain⟨i,hb',hc⟩:=bX r1
 obtain⟨u,hu,hcell⟩:=sG hw hb' hl
 obtain⟨rfl,_⟩:=aH hu
 obtain⟨w1,hrun,haf⟩:=ER hw hb' (vs:=[.int kd (kd.wrap (x+y))]) (.cons _ _ _ _ (.sc _ rfl) .nil) hst
 refine⟨ρ,w1,.int kd (kd.wrap (x+y)),J5 hf hng hb h1 h2 ?_,haf,.sc _ rfl⟩
 have hs:=Wq hcell (hrun _ rfl)
 rw[hc]
 show((asAddr (.pointer (some ⟨i.cb,i.sh+o,none⟩)) >>= fun a=>Extern.Atomic.read (.int kd) a >>= fun old=>asInt old >>= fun p=>asInt (.int kd y) >>= fun q=>Op.intArith .add kd p q >>= fun new=>store a new .atomic >>= fun _=>pure new):Sem Value).run P w=_
 simp only[asAddr,Sem.run_bind,Sem.run_pure,Result.andThen_ok,JE hcell,asInt,asIntOf,Op.intArith,hs]
theorem Em(hf:P.funcs[g]?=some fn) (hng:fn.name ≠ "runtime.NumGoroutine") (hb:fn.body=none) (h1:Extern.findNext fn=none) (h2:Extern.find fn=some (Extern.Atomic.loadT (.int kd)))
  {b o:Nat} {x:Int} (hl:M.loads b o 1=some [N kd x]):ic P g [.ptr b o] M (N kd x):=by
 intro ρ w us hus hw
 cases hus with
 |cons _ u1 _ us r1 hus =>
 cases hus
 obtain⟨i,hb',hc⟩:=bX r1
 obtain⟨u,hu,hcell⟩:=sG hw hb' hl
 obtain⟨rfl,_⟩:=aH hu
 refine⟨.int kd x,J5 hf hng hb h1 h2 ?_,.sc _ rfl⟩
 rw[hc]
 show((asAddr (.pointer (some ⟨i.cb,i.sh+o,none⟩)) >>= fun a=>Extern.Atomic.read (.int kd) a):Sem Value).run P w=_
 simp only[asAddr,Sem.run_bind,Sem.run_pure,Result.andThen_ok,JE hcell]
theorem aac(hc:∀ {M M' : RM}{b o:Nat}{x y:Int},M.loads b o 1=some [N kd x]→M.stores b o [N kd (kd.wrap (x+y))]=some M'→jW P g [.ptr b o,N kd y] M (N kd (kd.wrap (x+y))) M')
  (hH:HR E H M) (ha:aP E args avs) (h:ai2 kd C args H K=true):iT P g avs M (HK E K):=by
 unfold ai2 at h
 split at h <;>try(cases h;done)
 rename_i b o k1 y
 split at h <;>try(cases h;done)
 rename_i k x e1 e2
 split at h <;>try(cases h;done)
 rename_i H' e3 e4
 cases jM e1
 cases jM e3
 cases ha with|cons _ va _ _ p q =>
 cases p with|ptr _ _ rb eb =>
 cases q with|cons _ vn _ _ p2 q2 =>
 cases p2
 cases q2
 obtain⟨us,f1,f2,f3⟩:=lc hH e2 eb
 cases f2 with|cons _ _ _ _ p3 q3 =>
 cases p3
 cases q3
 rw[jH]at e4 h
 obtain⟨M',g1,g2⟩:=tZ hH e4 (.cons _ _ _ _ (.i _ _) .nil) eb
 exact .inr (.inr (.inr (.inr ⟨_,M',hc f1 g1,E,_,H',.refl E,g2,.i _ _,h⟩)))
theorem U0(hc:∀ {M:RM}{b o:Nat}{x:Int},M.loads b o 1=some [N kd x]→ic P g [.ptr b o] M (N kd x))
  (hH:HR E H M) (ha:aP E args avs) (h:ab1 kd C args H K=true):iT P g avs M (HK E K):=by
 unfold ab1 at h
 split at h <;>try(cases h;done)
 rename_i b o
 split at h <;>try(cases h;done)
 rename_i k x e2
 split at h <;>try(cases h;done)
 rename_i e1
 cases jM e1
 cases ha with|cons _ va _ _ p q =>
 cases p with|ptr _ _ rb eb =>
 cases q
 obtain⟨us,f1,f2,f3⟩:=lc hH e2 eb
 cases f2 with|cons _ _ _ _ p3 q3 =>
 cases p3
 cases q3
 exact .inr (.inr (.inr (.inl ⟨_,hc f1,dN hH (.i _ _) h⟩)))
theorem ahR(hc:∃ fn,P.funcs[g]?=some fn∧fn.body=none∧Extern.findNext fn=none∧Extern.find fn=some Extern.AbiNoEscape.same)
  (hH:HR E H M) (ha:aP E args avs) (h:abk C args H K=true):iT P g avs M (HK E K):=by
 unfold abk at h
 split at h <;>try(cases h;done)
 cases ha with|cons _ va _ _ p q =>
 cases q
 exact .inr (.inr (.inl ⟨hc,_,rfl,dN hH p h⟩))
theorem aa1(hc:∀ {M:RM}{t b cl:Nat}{es:List (AV×AV×Nat)},M.heap b=some (.map es cl)→jW P g [.ifc t (.map b)] M (.ifc t (.map M.next)) (M.push (.map es cl)))
  (hH:HR E H M) (ha:aP E args avs) (h:Qm C args H K=true):iT P g avs M (HK E K):=by
 unfold Qm at h
 split at h <;>try(cases h;done)
 rename_i t m
 split at h <;>try(cases h;done)
 rename_i es c hm
 cases ha with|cons _ va _ _ p q =>
 cases q
 cases p with|ifc _ _ _ p =>
 cases p with|map _ b eb =>
 have h1:=hH.blk m
 rw[hm]at h1
 obtain⟨b',fs,e1,e2,e3,e4⟩:=h1
 rw[eb]at e1;cases e1
 have hr:=hH.push (M':=M.push (.map fs c)) (y:=.map es c) rfl rfl (fun b hb=>wE _ _ hb) ⟨M.next,fs,dh _ _ _,Nat.lt_succ_self _,mR _ _,e4.mono (En.vG (hH.new _ (Nat.le_refl _)).1)⟩ (by intro c hc;simp only[bR,dh]at hc;simpa using hc)
 exact .inr (.inr (.inr (.inr ⟨_,_,hc e3,_,_,_,hr.1,hr.2,.ifc _ _ _ (.map _ _ (dh _ _ _)),h⟩)))
theorem XJ(n:Nat)(hn:n<256):∀ (l:List Nat)(i:Nat),(∀ x∈l,x<256)→match idxOf n l i with
  |some j=>i≤j∧Lib.indexByte (l.map UInt8.ofNat) (UInt8.ofNat n)=((j-i:Nat):Int)
  |none=>Lib.indexByte (l.map UInt8.ofNat) (UInt8.ofNat n)=-1
 |[],i,_=>by simp[idxOf,Lib.indexByte]
 |a::r,i,hl=>by
  have ha:=hl a (List.mem_cons_self ..)
  have ih:=XJ n hn r (i+1) fun x hx=>hl x (List.mem_cons_of_mem _ hx)
  simp only[idxOf,List.map_cons,Lib.indexByte]
  cases hab:Nat.beq a n with
  |true =>
   have:=bB hab
   subst this
   simp
  |false =>
   have hne:=AU hab
   have:(UInt8.ofNat a==UInt8.ofNat n)=false:=by
    rw[beq_eq_false_iff_ne]
    intro e
    rw[Uu ha hn]at e
    exact hne e
   rw[this]
   dsimp only
   rw[show Nat.succ i=i+1 from rfl]
   revert ih
   cases idxOf n r (i+1)with
   |none=>intro ih;dsimp only at ih ⊢;rw[ih];rfl
   |some j =>
    intro ih
    dsimp only at ih ⊢
    obtain⟨ih1,ih2⟩:=ih
    refine⟨by omega, ?_⟩
    rw[ih2]
    have:(((j-(i+1):Nat):Int) == -1)=false:=by
     rw[beq_eq_false_iff_ne];omega
    rw[this]
    simp only[Bool.false_eq_true,if_false]
    omega
theorem ail(hc:∀ {M:RM}{s:List UInt8}{x:UInt8},ic P g [St s,N .u8 (x.toNat:Int)] M (N .i64 (Lib.indexByte s x)))
  (hH:HR E H M) (ha:aP E args avs) (h:adl C args H K=true):iT P g avs M (HK E K):=by
 unfold adl at h
 split at h <;>try(cases h;done)
 rename_i x n
 split at h <;>try(cases h;done)
 rename_i hn
 have hn:=eH hn
 split at h <;>try(cases h;done)
 rename_i l hl
 cases ha with|cons _ va _ _ p q =>
 cases p with|s _ lx dx =>
 cases q with|cons _ vn _ _ p2 q2 =>
 cases p2
 cases q2
 obtain⟨rfl,hb⟩:=fG dx hl
 have hi:=XJ n hn l 0 hb
 have e:N .u8 (Int.ofNat n)=N .u8 ((UInt8.ofNat n).toNat:Int):=by
  rw[UInt8.toNat_ofNat',Nat.mod_eq_of_lt (by omega)];rfl
 rw[e]
 refine .inr (.inr (.inr (.inl ⟨_,hc, ?_⟩)))
 split at h
 ·rename_i i hi2
  rw[hi2]at hi
  dsimp only at hi
  rw[hi.2]
  exact dN hH (.i .i64 _) h
 ·rename_i hi2
  rw[hi2]at hi
  dsimp only at hi
  rw[hi]
  exact dN hH (.i .i64 _) h
theorem Zn:∀ (l m:List Nat),(∀ n∈l,n<256)→(∀ n∈m,n<256)→Lib.compareBytes (l.map UInt8.ofNat) (m.map UInt8.ofNat)=abE l m
 |[],[],_,_=>rfl
 |[],_::_,_,_=>rfl
 |_::_,[],_,_=>rfl
 |a::x,b::y,h1,h2=>by
  have ha:=h1 a (List.mem_cons_self ..)
  have hb:=h2 b (List.mem_cons_self ..)
  have ih:=Zn x y (fun n h=>h1 n (List.mem_cons_of_mem _ h)) (fun n h=>h2 n (List.mem_cons_of_mem _ h))
  have lt:∀ {p q:Nat},p<256→q<256→((UInt8.ofNat p<UInt8.ofNat q)↔p<q):=by
   intro p q hp hq
   rw[UInt8.lt_iff_toNat_lt,UInt8.toNat_ofNat',UInt8.toNat_ofNat']
   omega
  simp only[List.map_cons,Lib.compareBytes,abE,lt ha hb,lt hb ha]
  cases h3:Nat.blt a b with
  |true=>rw[if_pos (eH h3)];rfl
  |false =>
   rw[if_neg (by have:=Qg h3;omega)]
   dsimp only
   cases h4:Nat.blt b a with
   |true=>rw[if_pos (eH h4)]
   |false=>rw[if_neg (by have:=Qg h4;omega),ih]
theorem ahh(hc:∀ {M:RM}{s t:List UInt8},ic P g [St s,St t] M (N .i64 (Lib.compareBytes s t)))
  (hH:HR E H M) (ha:aP E args avs) (h:acb C args H K=true):iT P g avs M (HK E K):=by
 unfold acb at h
 split at h <;>try(cases h;done)
 rename_i x y
 split at h <;>try(cases h;done)
 rename_i l m hl hm
 cases ha with|cons _ va _ _ p q =>
 cases p with|s _ lx dx =>
 cases q with|cons _ vn _ _ p2 q2 =>
 cases p2 with|s _ ly dy =>
 cases q2
 obtain⟨rfl,hb⟩:=fG dx hl
 obtain⟨rfl,hb2⟩:=fG dy hm
 refine .inr (.inr (.inr (.inl ⟨_,hc, ?_⟩)))
 rw[Zn l m hb hb2]
 exact dN hH (.i .i64 _) h
end
end Go.Ab.Sy
set_option maxRecDepth 100000
namespace Go.Ab.Sy
open Go Go.Ab
def Mm{α:Type}:List (Nat×α)→Tree α→Tree α
 |[],t=>t
 |p::r,t=>Mm r (t.set p.1 p.2)
def apl:List (List Nat×List Nat×List (List Nat×List Nat)):=[([80,79,83,84],[47,112,117,108,108],[([65,117,116,104,111,114,105,122,97,116,105,111,110],[66,101,97,114,101,114,32,118,49,46,48,48,48,48,48,49,56,48,56,48,56,48,56,48,48,52,46,97,53,51,57,51,55,57,101,49,55,51,50,101,102,101,102,98,98,48,52,55,54,50,56,50,97,57,50,98,49,55,53,57,99,49,53,53,48,56,56,52,49,57,50,99,55,52,97,57,97,57,53,49,97,97,51,51,100,50,50,49,100,56,57]),([88,45,73,100],[49,48,52,56,53,55,56])]),([80,79,83,84],[47,112,117,108,108],[([65,117,116,104,111,114,105,122,97,116,105,111,110],[66,101,97,114,101,114,32,118,49,46,48,48,48,48,48,49,56,48,56,48,56,48,56,48,48,52,46,97,53,51,57,51,55,57,101,49,55,51,50,101,102,101,102,98,98,48,52,55,54,50,56,50,97,57,50,98,49,55,53,57,99,49,53,53,48,56,56,52,49,57,50,99,55,52,97,57,97,57,53,49,97,97,51,51,100,50,50,49,100,56,57]),([88,45,73,100],[49,48,52,56,53,56,48])]),([80,79,83,84],[47,112,117,108,108],[([65,117,116,104,111,114,105,122,97,116,105,111,110],[66,101,97,114,101,114,32,118,49,46,48,48,48,48,48,49,56,48,56,48,56,48,56,48,48,52,46,97,53,51,57,51,55,57,101,49,55,51,50,101,102,101,102,98,98,48,52,55,54,50,56,50,97,57,50,98,49,55,53,57,99,49,53,53,48,56,56,52,49,57,50,99,55,52,97,57,97,57,53,49,97,97,51,51,100,50,50,49,100,56,57]),([88,45,73,100],[49,48,52,56,53,56,49])]),([80,79,83,84],[47,112,117,108,108],[([65,117,116,104,111,114,105,122,97,116,105,111,110],[66,101,97,114,101,114,32,118,49,46,48,49,48,48,48,50,56,48,56,48,56,48,56,48,48,52,46,97,49,102,98,48,56,48,97,99,101,49,49,52,49,102,99,55,101,56,101,48,49,97,100,54,55,53,49,54,53,56,51,101,56,99,52,49,57,52,54,48,97,50,101,52,97,55,100,56,57,98,57,98,101,56,52,50,100,53,48,57,48,57,100]),([88,45,73,100],[49,48,52,56,53,55,55])]),([80,79,83,84],[47,112,117,108,108],[([65,117,116,104,111,114,105,122,97,116,105,111,110],[66,101,97,114,101,114,32,118,49,46,48,49,48,48,48,50,56,48,56,48,56,48,56,48,48,52,46,97,49,102,98,48,56,48,97,99,101,49,49,52,49,102,99,55,101,56,101,48,49,97,100,54,55,53,49,54,53,56,51,101,56,99,52,49,57,52,54,48,97,50,101,52,97,55,100,56,57,98,57,98,101,56,52,50,100,53,48,57,48,57,100]),([88,45,73,100],[49,48,52,56,53,56,49])]),([80,79,83,84],[47,112,117,115,104],[([65,117,116,104,111,114,105,122,97,116,105,111,110],[66,101,97,114,101,114,32,118,49,46,48,48,48,48,48,49,56,48,56,48,56,48,56,48,48,52,46,97,53,51,57,51,55,57,101,49,55,51,50,101,102,101,102,98,98,48,52,55,54,50,56,50,97,57,50,98,49,55,53,57,99,49,53,53,48,56,56,52,49,57,50,99,55,52,97,57,97,57,53,49,97,97,51,51,100,50,50,49,100,56,57]),([88,45,73,100],[49,48,52,56,53,55,55])]),([80,79,83,84],[47,112,117,115,104],[([65,117,116,104,111,114,105,122,97,116,105,111,110],[66,101,97,114,101,114,32,118,49,46,48,48,48,48,48,49,56,48,56,48,56,48,56,48,48,52,46,97,53,51,57,51,55,57,101,49,55,51,50,101,102,101,102,98,98,48,52,55,54,50,56,50,97,57,50,98,49,55,53,57,99,49,53,53,48,56,56,52,49,57,50,99,55,52,97,57,97,57,53,49,97,97,51,51,100,50,50,49,100,56,57]),([88,45,73,100],[49,48,52,56,53,55,57])]),([80,79,83,84],[47,112,117,115,104],[([65,117,116,104,111,114,105,122,97,116,105,111,110],[66,101,97,114,101,114,32,118,49,46,48,49,48,48,48,50,56,48,56,48,56,48,56,48,48,52,46,97,49,102,98,48,56,48,97,99,101,49,49,52,49,102,99,55,101,56,101,48,49,97,100,54,55,53,49,54,53,56,51,101,56,99,52,49,57,52,54,48,97,50,101,52,97,55,100,56,57,98,57,98,101,56,52,50,100,53,48,57,48,57,100]),([88,45,73,100],[49,48,52,56,53,55,56])]),([80,79,83,84],[47,112,117,115,104],[([65,117,116,104,111,114,105,122,97,116,105,111,110],[66,101,97,114,101,114,32,118,49,46,48,49,48,48,48,50,56,48,56,48,56,48,56,48,48,52,46,97,49,102,98,48,56,48,97,99,101,49,49,52,49,102,99,55,101,56,101,48,49,97,100,54,55,53,49,54,53,56,51,101,56,99,52,49,57,52,54,48,97,50,101,52,97,55,100,56,57,98,57,98,101,56,52,50,100,53,48,57,48,57,100]),([88,45,73,100],[49,48,52,56,53,56,48])]),([80,79,83,84],[47,114,101,115,121,110,99],[([65,117,116,104,111,114,105,122,97,116,105,111,110],[66,101,97,114,101,114,32,118,49,46,48,49,48,48,48,50,56,48,56,48,56,48,56,48,48,52,46,97,49,102,98,48,56,48,97,99,101,49,49,52,49,102,99,55,101,56,101,48,49,97,100,54,55,53,49,54,53,56,51,101,56,99,52,49,57,52,54,48,97,50,101,52,97,55,100,56,57,98,57,98,101,56,52,50,100,53,48,57,48,57,100]),([88,45,73,100],[49,48,52,56,53,55,57])])]
def akf:List (Nat×List (List Nat×List Nat)):=[(200,[([88,45,73,100],[49,48,52,56,53,55,55])]),(200,[([88,45,73,100],[49,48,52,56,53,55,56])]),(200,[([88,45,73,100],[49,48,52,56,53,55,57])]),(200,[([88,45,73,100],[49,48,52,56,53,56,48])]),(200,[([88,45,73,100],[49,48,52,56,53,56,49])]),(409,[([88,45,73,100],[49,48,52,56,53,55,56])])]
def agX:List (List Nat×List Nat):=[([68,89,90,89,82,83,78,54,54,54,54,54,54,54,54,54,54,54,54,54,54,54,54,54,54,54,54,54,54,54,54,54,54,54,54,54,54,54,54,54,54,54,54,54,54,54,54,54,54,54,54,54,54,54,54,54,54,54,54,54,54,54,54,54,0,0,1,128,128,128,128,4],[61,117,49,87,212,70,175,111,163,91,98,97,91,118,81,115,71,75,23,122,4,1,202,54,245,247,123,71,125,66,116,92]),([46,51,48,51,56,57,36,92,92,92,92,92,92,92,92,92,92,92,92,92,92,92,92,92,92,92,92,92,92,92,92,92,92,92,92,92,92,92,92,92,92,92,92,92,92,92,92,92,92,92,92,92,92,92,92,92,92,92,92,92,92,92,92,92,61,117,49,87,212,70,175,111,163,91,98,97,91,118,81,115,71,75,23,122,4,1,202,54,245,247,123,71,125,66,116,92],[165,57,55,158,23,50,239,239,187,4,118,40,42,146,177,117,156,21,80,136,65,146,199,74,154,149,26,163,61,34,29,137]),([68,89,90,89,82,83,78,54,54,54,54,54,54,54,54,54,54,54,54,54,54,54,54,54,54,54,54,54,54,54,54,54,54,54,54,54,54,54,54,54,54,54,54,54,54,54,54,54,54,54,54,54,54,54,54,54,54,54,54,54,54,54,54,54,1,0,2,128,128,128,128,4],[97,178,54,114,52,146,71,190,192,125,52,71,186,150,101,186,142,89,78,227,99,163,86,147,87,147,40,148,106,239,251,187]),([46,51,48,51,56,57,36,92,92,92,92,92,92,92,92,92,92,92,92,92,92,92,92,92,92,92,92,92,92,92,92,92,92,92,92,92,92,92,92,92,92,92,92,92,92,92,92,92,92,92,92,92,92,92,92,92,92,92,92,92,92,92,92,92,97,178,54,114,52,146,71,190,192,125,52,71,186,150,101,186,142,89,78,227,99,163,86,147,87,147,40,148,106,239,251,187],[161,251,8,10,206,17,65,252,126,142,1,173,103,81,101,131,232,196,25,70,10,46,74,125,137,185,190,132,45,80,144,157])]
def HV:List (Nat×NC):=[(84,.uint 5),(85,.text 5),(159,.ajt 421),(158,.aoy 421),(157,.ajv 421),(297,.akj 421),(125,.clone 5),(529,.crc false),(528,.crc true),(183,.aao),(124,.ajQ 5 apl),(131,.adS 5 akf),(128,.aj0 5 255),(132,.adH 5 255),(429,.total),(136,.afZ),(453,.fmt),(428,.concat 5),(59,.acJ .i64),(200,.acJ .u64),(199,.Ua .u64),(258,.Ua .u32),(447,.same),(664,.gP),(650,.an8),(149,.slow),(201,.sum agX),(130,.get 2),(133,.get 1)]
end Go.Ab.Sy
set_option maxRecDepth 10000
namespace Go.Ab.Sy
open Go Go.Ab Go.RowKit
theorem ZP{α:Type}:∀ (l:List (Nat×α))(t:Tree α){g:Nat}{c:α},(Mm l t).get g=some c→(g,c)∈l∨t.get g=some c
 |[],t,g,c,h=>.inr h
 |p::r,t,g,c,h=>by
  rcases ZP r _ h with h|h
  ·exact .inl (List.mem_cons_of_mem _ h)
  ·rw[Tree.bn]at h
   split at h
   ·rename_i e
    cases h
    subst e
    exact .inl (List.mem_cons_self ..)
   ·exact .inr h
def VV(P:Program)(G:Gd)(B:Base)(g:Nat)(c:NC):Prop :=
 ∀ C,fO P G B C→∀ args H K E M avs,E.g=G→E.bs=B→HR E H M→aP E args avs→gL c C args H K=true→GR P g avs M (HK E K)
theorem qc{P:Program}{G:Gd}{B:Base}{l:List (Nat×NC)}(h:∀ p∈l,VV P G B p.1 p.2):kJ P G B (Mm l .leaf).get gL:=by
 intro g c hg C hC args H K E M avs h1 h2 h3 h4 h5
 rcases ZP l .leaf hg with hm|hm
 ·exact h _ hm C hC args H K E M avs h1 h2 h3 h4 h5
 ·rw[MO]at hm;cases hm
theorem aY{P:Program}{G:Gd}{B:Base}{f:Nat}{l:List Cut}(hl:Bl P G B f l):VV P G B f (.cut f l) :=
 fun C hC args H K E M avs h1 h2 h3 h4 h5=>dS (af2 (C:=C) hC h1 h2 h3 h4 hl h5)
end Go.Ab.Sy
namespace Go.Ab.Sy
open Go Go.Ab
def kG:Nat→Nat→Ky
 |0,_=>.h
 |f+1,n=>match n with
  |0=>.h
  |m+1=>match Nat.mod m 4 with
   |0=>.a (kG f (Nat.div m 4))
   |1=>.b (kG f (Nat.div m 4))
   |2=>.c (kG f (Nat.div m 4))
   |_=>.d (kG f (Nat.div m 4))
def ky(n:Nat):Ky:=kG 12 n
namespace Z
def n(m:Nat):SV:=.i .i64 (.ofNat m)
def m(x:Nat):SV:=.i .i64 (.negSucc x)
def u(m:Nat):SV:=.i .u64 (.ofNat m)
def y(m:Nat):SV:=.i .u8 (.ofNat m)
def d(m:Nat):SV:=.i .u32 (.ofNat m)
def e(m:Nat):SV:=.i .i32 (.ofNat m)
def w(l:List Nat):SV:=.s (J7 l)
def p(b o:Nat):SV:=.ptr (ky b) o
def x(b o l c:Nat):SV:=.slc (ky b) o l (.ex c)
def o(b o l z:Nat):SV:=.slc (ky b) o l (.op z)
def q(b:Nat):SV:=.bs (ky b)
def v(b:Nat):SV:=.map (ky b)
def z(b:Nat):SV:=.emp (ky b)
def k(i:It)(r:SB):SB:=i::r
def j(l:List Nat)(r:SB):SB:=dR (J7 l) r
def np:SV:=.o (.pointer none)
def r(l:List SV)(t:Nat):Bk:=.row l false t
def s(l:List SV)(t:Nat):Bk:=.row l true t
def b(l:SB)(t:Nat):Bk:=.byt l true t
def c(l:SB)(t:Nat):Bk:=.byt l false t
def i(m s:Nat)(l:List Nat)(t:Nat):Bk:=.iter (ky m) s l t
def K(k:Nat)(x:Bk):Ky×Bk:=(ky k,x)
abbrev Os:=List (SV×Ky×List (Ky×Bk))
def xd:List Nat→List Nat→SB
 |[],_=>[]
 |_::_,[]=>[]
 |_::f,a::l=>match Nat.blt a 256 with
  |true=>.c a::xd f l
  |false=>match a with
   |256=>.u 1 1::xd f l
   |257=>.a 0::xd f l
   |258=>.a 1::xd f l
   |259=>.u 1 9::xd f l
   |_=>.t (xd f (l.take (Nat.sub a 1000)))::xd f (l.drop (Nat.sub a 1000))
def g(l:List Nat):SB:=xd l l
end Z
noncomputable def PC(C:aI)(f:Nat)(c:Cut):Bool:=match c with
 |.mk n a l o=>C f a (uN n l) fun v H=>DF v H o
end Go.Ab.Sy
