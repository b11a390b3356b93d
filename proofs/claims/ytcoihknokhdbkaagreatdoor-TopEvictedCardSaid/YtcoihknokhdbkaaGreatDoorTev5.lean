/- Part 5 of the ground of the proofs of this seat (texts YR4 to D4). By an AI agent. -/
import Derived.Test.YtcoihknokhdbkaaGreatDoorTev4
set_option linter.unusedVariables false
set_option linter.unusedSimpArgs false
namespace Go.Ab.Sy
open Go Go.Ab
section
variable {E:En} {K:KV} {V:VS} {T:TS} {H:SH} {M:RM} {x y:XO} {a b:AV}
theorem Z6{op:BinOp}{sx sy:SV}(h:wide op sx sy K=true)(hx:SR E sx a)(hy:SR E sy b):ag op a b (RK E K):=by
 unfold wide at h
 split at h <;>try(cases h;done)
 rename_i k lo hi l lo' hi' e1 e2
 split at h <;>try(cases h;done)
 rename_i hk
 cases jM hk
 obtain⟨m,rfl,h1,h2⟩:=sQ e1 hx
 obtain⟨n,rfl,h3,h4⟩:=sQ e2 hy
 obtain⟨v,hv,hr⟩:=akN h h1 h2 h3 h4
 exact⟨k,m,n,v,rfl,rfl,hv,hr⟩
theorem akB{op:BinOp}(hx:SR E (ev x V T) a)(hy:SR E (ev y V T) b)(h:aiI op x y V T H K=true):ag op a b (RK E K):=by
 unfold aiI at h
 generalize ev x V T=sx at *
 generalize ev y V T=sy at *
 split at h
 ·cases hx;cases hy
  split at h <;>try(cases h;done)
  rename_i hk
  cases jM hk
  obtain⟨v,hv,hr⟩:=ale (E:=E) h
  exact⟨_,_,_,v,rfl,rfl,hv,hr⟩
 ·split at h
  ·rename_i he
   cases hx with|ln _ l d1 =>
   cases hy with|ln _ m d2 =>
   cases EY he d1 d2
   cases op <;>try(cases h;done)
   ·exact⟨.i64,_,_,_,rfl,rfl,rfl,by rw[Int.sub_self];exact iG h⟩
   ·exact⟨.i64,_,_,_,rfl,rfl,rfl,gI (by simpa [Xb]using h)⟩
   ·exact⟨.i64,_,_,_,rfl,rfl,rfl,gI (by simpa [Xb]using h)⟩
   ·exact⟨.i64,_,_,_,rfl,rfl,rfl,gI (by simpa [Xb]using h)⟩
   ·exact⟨.i64,_,_,_,rfl,rfl,rfl,gI (by simpa [Xb]using h)⟩
   ·exact⟨.i64,_,_,_,rfl,rfl,rfl,gI (by simpa [Xb]using h)⟩
   ·exact⟨.i64,_,_,_,rfl,rfl,rfl,gI (by simpa [Xb]using h)⟩
  ·exact Z6 h hx hy
 ·exact Z6 h hx hy
theorem akS(hx:SR E (ev x V T) a)(h:ah0 x V T H K=true):iF a (RK E K):=by
 unfold ah0 at h
 generalize ev x V T=sx at *
 split at h <;>try(cases h;done)
 cases hx
 exact⟨_,rfl,gI h⟩
theorem alA(hx:SR E (ev x V T) a)(h:af9 x V T H K=true):Vf a (RK E K):=by
 unfold af9 at h
 generalize ev x V T=sx at *
 split at h <;>try(cases h;done)
 cases hx
 exact⟨_,_,rfl,iG (by rw[jH]at h;exact h)⟩
theorem aej(hx:SR E (ev x V T) a)(h:VW x V T H K=true):uj a (RK E K):=by
 unfold VW at h
 generalize ev x V T=sx at *
 split at h <;>try(cases h;done)
 cases hx
 exact⟨_,_,rfl,iG (by rw[jH]at h;exact h)⟩
theorem ald{k:IntKind}(hx:SR E (ev x V T) a)(h:ahP k x V T H K=true):iR k a (RK E K):=by
 unfold ahP at h
 generalize ev x V T=sx at *
 split at h <;>try(cases h;done)
 ·cases hx
  exact⟨_,_,rfl,iG (by rw[jH]at h;exact h)⟩
 ·cases hx with|iv _ _ _ n h1 h2=>exact⟨_,_,rfl,JQ h h1 h2⟩
 ·cases hx with|ln _ l d =>
  have hd:=bJ d
  split at h
  ·split at h <;>try(cases h;done)
   rename_i h2
   have h2:=eH h2
   refine⟨_,_,rfl, ?_⟩
   rw[uS (by simp only[lim];omega)]
   exact⟨_,.ln _ l d,h⟩
  ·exact⟨_,_,rfl,JQ h hd.1 hd.2⟩
theorem ZU(hx:SR E (ev x V T) a)(h:anA x V T H K=true):RK E K a:=⟨_,hx,h⟩
theorem ah1{c d e:XO}{ac ad ae:AV}(hc:SR E (ev c V T) ac)(hd:SR E (ev d V T) ad)(he:SR E (ev e V T) ae)(h:acf c d e V T H K=true):aM ac ad ae (RK E K):=by
 unfold acf at h
 generalize ev c V T=sc at *
 split at h <;>try(cases h;done)
 rename_i t
 cases hc
 refine⟨t,rfl, ?_⟩
 cases t
 ·exact⟨_,he,h⟩
 ·exact⟨_,hd,h⟩
theorem afr(hx:SR E (ev x V T) a)(h:Ya x V T H K=true):dU a (RK E K):=by
 unfold Ya at h
 generalize ev x V T=sx at *
 split at h <;>try(cases h;done)
 cases hx with|ptr _ _ b e=>exact⟨_,_,rfl,_,.ptr _ _ b e,h⟩
theorem akw{n:Nat}(hx:SR E (ev x V T) a)(h:agb x n V T H K=true):aZ a n (RK E K):=by
 unfold agb at h
 generalize ev x V T=sx at *
 split at h <;>try(cases h;done)
 cases hx with|ptr _ _ b e=>exact⟨_,_,rfl,_,.ptr _ _ b e,h⟩
theorem ah4{len size:Nat}(hx:SR E (ev x V T) a)(hy:SR E (ev y V T) b)(h:ab7 x y len size V T H K=true):eF a b len size (RK E K):=by
 unfold ab7 at h
 generalize ev x V T=sx at *
 generalize ev y V T=sy at *
 split at h <;>try(cases h;done)
 split at h <;>try(cases h;done)
 rename_i hlt
 have hlt:=eH hlt
 cases hx with|ptr _ _ b e =>
 cases hy
 exact⟨_,_,_,_,rfl,rfl,by simp,by simpa using hlt,_,.ptr _ _ b e,h⟩
theorem aeo{off:Nat}(hx:SR E (ev x V T) a)(h:We x off V T H K=true):LC a off (RK E K):=by
 unfold We at h
 generalize ev x V T=sx at *
 split at h <;>try(cases h;done)
 split at h <;>try(cases h;done)
 rename_i u hu
 cases hx with|agg l vs hl =>
 obtain⟨v,h1,h2⟩:=hl.lT hu
 exact⟨_,v,rfl,h1,_,h2,h⟩
theorem afi{off n:Nat}(hx:SR E (ev x V T) a)(h:Yo x off n V T H K=true):K9 a off n (RK E K):=by
 unfold Yo at h
 generalize ev x V T=sx at *
 split at h <;>try(cases h;done)
 split at h <;>try(cases h;done)
 rename_i u hu
 cases hx with|agg l vs hl =>
 obtain⟨h1,h2⟩:=aP.kL _ (hl.oo off) hu
 rw[List.length_drop]at h1
 exact⟨_,rfl,by omega,_,.agg _ _ h2,h⟩
theorem alo{i:Nat}(hx:SR E (ev x V T) a)(h:aiF x i V T H K=true):bz a i (RK E K):=by
 unfold aiF at h
 generalize ev x V T=sx at *
 split at h <;>try(cases h;done)
 split at h <;>try(cases h;done)
 rename_i u hu
 cases hx with|tup l vs hl =>
 obtain⟨v,h1,h2⟩:=hl.lT hu
 exact⟨_,v,rfl,h1,_,h2,h⟩
theorem alz(hx:SR E (ev x V T) a)(h:agZ x V T H K=true):isStr a (RK E K):=by
 unfold agZ at h
 generalize ev x V T=sx at *
 split at h <;>try(cases h;done)
 cases hx with|s _ l d=>exact⟨l,rfl,_,.s _ l d,h⟩
theorem Zu{s:SB}{l:bQ}(d:bG E.g s l)(h:K (abL s)=true):RK E K (N .i64 (l.length:Int)):=by
 unfold abL at h
 have:=bJ d
 split at h
 ·rename_i he
  have he:=bB he
  have:iq s=l.length:=by omega
  rw[this]at h
  exact iG h
 ·exact⟨_,.ln _ l d,h⟩
theorem aje(hx:SR E (ev x V T) a)(h:aa3 x V T H K=true):eB a (RK E K):=by
 unfold aa3 at h
 generalize ev x V T=sx at *
 split at h <;>try(cases h;done)
 cases hx with|s _ l d=>exact⟨l,rfl,Zu d h⟩
theorem YN{s t:SB}{l m:bQ}{C:Bool→Bool}(d1:bG E.g s l)(d2:bG E.g t m)(h:Ld s t C=true):C (decide (l=m))=true:=by
 unfold Ld at h
 split at h
 ·rename_i he
  rw[EY he d1 d2];simpa using h
 ·split at h <;>try(cases h;done)
  rename_i hn
  have:=akY hn d1 d2
  simpa [this]using h
theorem akR{t:Nat}(hx:SR E (ev x V T) a)(h:aoX t x V T H K=true):RK E K (.ifc t a):=⟨_,.ifc t _ _ hx,h⟩
theorem pG(p q:Bool):IR p q=(p==q):=by cases p<;>cases q<;>rfl
theorem als{neg:Bool}(hx:SR E (ev x V T) a)(hy:SR E (ev y V T) b)(h:af6 neg x y V T H K=true):FC neg a b (RK E K):=by
 unfold af6 at h
 generalize ev x V T=sx at *
 generalize ev y V T=sy at *
 split at h <;>try(cases h;done)
 cases hx;cases hy
 refine⟨_,_,rfl,rfl,gI ?_⟩
 rw[pG]at h
 exact h
end
section
variable {E:En} {K:KV} {V:VS} {T:TS} {H:SH} {M:RM} {x y:XO} {a b:AV}
theorem CW:∀ {s:SB}{l:bQ},bG E.g s l→∀ {cs:List SV},FW s=some cs→aP E cs (fM l)
 |_,_,.nil,_,h=>by cases h;exact .nil
 |_,_,.cons i x l m h1 h2,_,h=>by
  cases h1 <;>try(simp[FW]at h;done)
  rename_i n hn
  simp only[FW]at h
  split at h <;>try(cases h;done)
  rename_i r hr
  cases h
  have e:((UInt8.ofNat n).toNat:Int)=(n:Int):=by simp[UInt8.toNat_ofNat'];omega
  have:=SR.i (E:=E) .u8 (n:Int)
  refine .cons _ _ _ _ ?_ (CW h2 hr)
  show SR E (.i .u8 (Int.ofNat n)) (N .u8 ((UInt8.ofNat n).toNat:Int))
  rw[e];exact this
theorem EU{el n:Nat}{v:AV}{c:AV}{cs:List AV}(h:Own M 0 el 1 v (c::cs) n):∃ b,v=.slc b 0 n (.op 1)∧b<M.next∧M.heap b=some (.row (c::cs) true el 0)∧(c::cs).length=n:=by
 generalize hq:c::cs=q at h
 cases h with
 |nil=>cases hq
 |ex0=>cases hq
 |op b n cs' h1 h2 h3 h4=>subst hq;exact⟨b,rfl,h2,h3,by omega⟩
theorem Rk(hH:HR E H M){k:Ky}{l:List SV}(h:NN H k=some l){b:Nat}(hb:E.bl k=some b):∃ cs opn el fz,M.heap b=some (.row cs opn el fz)∧b<M.next∧aP E l cs:=by
 have h1:=hH.blk k
 unfold NN at h
 split at h <;>try(cases h;done)
 ·rename_i hk
  cases h
  rw[hk]at h1
  obtain⟨c,cs,e1,e2,e3,e4,e5⟩:=h1
  rw[hb]at e1;cases e1
  exact⟨cs,_,_,0,e3,e2,e4⟩
 ·rename_i hk
  cases h
  rw[hk]at h1
  obtain⟨c,cs,fz,e1,e2,e3,e4,e5⟩:=h1
  rw[hb]at e1;cases e1
  exact⟨cs,_,_,fz,e3,e2,e4⟩
 ·rename_i hk
  split at h <;>try(cases h;done)
  rename_i c r hc
  cases h
  rw[hk]at h1
  obtain⟨v,s,e1,e2,e3,_⟩:=h1
  obtain⟨o1,o2⟩:=e3 rfl
  have hs:=CW e2 hc
  cases hq:fM s with
  |nil=>rw[hq]at hs;cases hs
  |cons u us =>
   rw[hq]at o1 hs
   obtain⟨b',rfl,f1,f2,f3⟩:=EU o1
   have:=o2 b' (by simp[aJ])
   rw[hb]at this;cases this
   exact⟨_,_,_,0,f2,f1,hs⟩
theorem gW{cs:List AV}{opn:Bool}{el fz b o n:Nat}(h:M.heap b=some (.row cs opn el fz))(hn:o+n≤cs.length):M.loads b o n=some ((cs.drop o).take n):=by
 unfold RM.loads RM.cells
 rw[h]
 simp only
 rw[if_pos hn]
theorem lc(hH:HR E H M){k:Ky}{o n:Nat}{vs:List SV}(h:qK H k o n=some vs){b:Nat}(hb:E.bl k=some b):∃ us,M.loads b o n=some us∧aP E vs us∧b<M.next:=by
 unfold qK at h
 split at h <;>try(cases h;done)
 rename_i l hl
 obtain⟨cs,opn,el,fz,h1,h2,h3⟩:=Rk hH hl hb
 split at h
 ·split at h <;>try(cases h;done)
  rename_i ho
  have ho:=bP ho
  rw[h3.length]at ho
  cases h
  exact⟨_,gW h1 (by omega),by simpa using aP.nil,h2⟩
 ·obtain⟨g1,g2⟩:=aP.kL _ (h3.oo o) h
  rw[List.length_drop]at g1
  exact⟨_,gW h1 (by omega),g2,h2⟩
theorem ae4(hH:HR E H M){k:Ky}{o:Nat}(h:ld1 H k o K=true){b:Nat}(hb:E.bl k=some b):∃ u,M.loads b o 1=some [u]∧RK E K u∧b<M.next:=by
 have h1:=hH.blk k
 unfold ld1 at h
 have row:∀ {l:List SV}{cs:List AV}{opn:Bool}{el fz:Nat}{sv:SV},lT l o=some sv→aP E l cs→M.heap b=some (.row cs opn el fz)→b<M.next→K sv=true→∃ u,M.loads b o 1=some [u]∧RK E K u∧b<M.next:=by
  intro l cs opn el fz sv hn hs hh hlt hk
  obtain⟨u,e,r⟩:=hs.lT hn
  have hlt':=(List.getElem?_eq_some_iff.1 e).1
  refine⟨u, ?_,⟨sv,r,hk⟩,hlt⟩
  rw[gW hh (by omega),List.drop_eq_getElem_cons hlt']
  have:=(List.getElem?_eq_some_iff.1 e).2
  rw[this];rfl
 split at h <;>try(cases h;done)
 ·rename_i hk
  split at h <;>try(cases h;done)
  rename_i sv hn
  rw[hk]at h1
  obtain⟨c,cs,e1,e2,e3,e4,e5⟩:=h1
  rw[hb]at e1;cases e1
  exact row hn e4 e3 e2 h
 ·rename_i hk
  split at h <;>try(cases h;done)
  rename_i sv hn
  rw[hk]at h1
  obtain⟨c,cs,fz,e1,e2,e3,e4,e5⟩:=h1
  rw[hb]at e1;cases e1
  exact row hn e4 e3 e2 h
 ·rename_i hk
  split at h <;>try(cases h;done)
  rename_i p n r hc
  rw[hk]at h1
  obtain⟨v,s,e1,e2,e3,_⟩:=h1
  obtain⟨o1,o2⟩:=e3 rfl
  obtain⟨g1,g2,g3⟩:=G7 hc e2
  generalize hq:s.drop o=t at g3
  cases g3 with|cons _ _ l m d1 d2 =>
  cases d1 with|c _ hn =>
  have hlt:o<s.length:=by
   rcases Nat.lt_or_ge o s.length with h'|h'
   ·exact h'
   ·rw[List.drop_of_length_le h']at hq;cases hq
  have hs:s[o]=UInt8.ofNat n:=by
   rw[List.drop_eq_getElem_cons hlt]at hq
   exact(List.cons.inj hq).1
  cases hq2:fM s with
  |nil=>have:=congrArg List.length hq2;rw[List.length_map,List.length_nil]at this;omega
  |cons u us =>
   rw[hq2]at o1
   obtain⟨b',rfl,f1,f2,f3⟩:=EU o1
   have hbb:=o2 b' (by simp[aJ])
   rw[hb]at hbb;cases hbb
   rw[← hq2]at f2
   refine⟨N .u8 (n:Int), ?_,iG h,f1⟩
   rw[gW f2 (by rw[List.length_map];exact hlt),List.drop_eq_getElem_cons (by simpa using hlt)]
   have:(UInt8.ofNat n).toNat=n:=by rw[UInt8.toNat_ofNat'];omega
   simp[hs,this]
theorem Us:∀ {l:List SV}{us:List AV},aP E l us→GI l=true→∀ {j:Nat}{u:AV},us[j]?=some u→∃ n:Nat,n<256∧u=N .u8 (n:Int)
 |_,_,.nil,_,j,u,h=>by simp at h
 |_,_,.cons x v xs vs p q,h,j,u,hj=>by
  simp only[GI]at h
  split at h <;>try(cases h;done)
  rename_i h1
  cases j with
  |succ j=>exact Us q h (by simpa using hj)
  |zero =>
   simp at hj;subst hj
   cases p <;>try(cases h1;done)
   ·rename_i k n
    cases n<;>cases k <;>try(cases h1;done)
    exact⟨_,eH h1,rfl⟩
   ·rename_i k lo hi n g1 g2
    cases k <;>try(cases h1;done)
    have:=eH (show Nat.blt hi 256=true from h1)
    exact⟨n,by omega,rfl⟩
theorem afP(hH:HR E H M)(hx:SR E (ev x V T) a)(h:VX x V T H K=true):au M a (RK E K):=by
 unfold VX at h
 generalize ev x V T=sx at *
 split at h <;>try(cases h;done)
 ·cases hx with|ptr _ _ b e =>
  obtain⟨u,h1,h2,_⟩:=ae4 hH h e
  exact⟨_,_,u,rfl,h1,h2⟩
 ·rename_i kk lo hi
  split at h <;>try(cases h;done)
  rename_i vs hv
  split at h <;>try(cases h;done)
  rename_i hu
  cases hx with|pw _ _ _ n b e g1 g2 =>
  obtain⟨us,h1,h2,_⟩:=lc hH hv e
  have hl:=lv h1
  have hj:n-lo<us.length:=by rw[hl];show n-lo<hi+1-lo;omega
  obtain⟨m,hm,hu⟩:=Us h2 hu (List.getElem?_eq_getElem hj)
  have:=lh h1 (n-lo) 1 (by rw[← hl];omega)
  rw[show lo+(n-lo)=n by omega,List.drop_eq_getElem_cons hj,hu]at this
  exact⟨_,_,_,rfl,this,K7 h (Nat.zero_le _) (by omega)⟩
theorem aen(hH:HR E H M){n:Nat}(hx:SR E (ev x V T) a)(h:Xm x n V T H K=true):bT M a n (RK E K):=by
 unfold Xm at h
 generalize ev x V T=sx at *
 split at h <;>try(cases h;done)
 split at h <;>try(cases h;done)
 rename_i vs hv
 cases hx with|ptr _ _ b e =>
 obtain⟨us,h1,h2,_⟩:=lc hH hv e
 exact⟨_,_,us,rfl,h1,_,.agg _ _ h2,h⟩
end
section
variable {E:En} {K:KV} {V:VS} {T:TS} {H:SH} {M:RM} {x y:XO} {a b:AV}
theorem qd(l:bQ):(fM l).length=l.length:=List.length_map ..
theorem BV(hH:HR E H M){sx:SV}(hx:SR E sx a):SR E (wO H sx) a:=by
 unfold wO
 split
 ·rename_i k
  split
  ·rename_i s el hk
   split
   ·rename_i c l hc
    have h1:=hH.blk k
    rw[hk]at h1
    obtain⟨v,t,e1,e2,e3,_⟩:=h1
    obtain⟨o1,o2⟩:=e3 rfl
    have hs:=CW e2 hc
    cases hx with|bs _ _ e =>
    rw[e1]at e;cases e
    have hl:=hs.length
    cases hq:fM t with
    |nil=>rw[hq]at hs;cases hs
    |cons u us =>
     rw[hq]at o1
     obtain⟨b',rfl,f1,f2,f3⟩:=EU o1
     have:=o2 b' (by simp[aJ])
     rw[qd]at hl
     have hl:Nat.succ (iy l)=t.length:=hl
     rw[hl]
     exact .slc _ _ _ _ _ this
   ·exact hx
  ·exact hx
 ·exact hx
theorem ahc(hH:HR E H M){size:Nat}(hx:SR E (ev x V T) a)(hy:SR E (ev y V T) b)(h:abX x y size V T H K=true):ed a b size (RK E K):=by
 unfold abX at h
 have hx:=BV hH hx
 generalize wO H (ev x V T)=sx at *
 generalize ev y V T=sy at *
 split at h <;>try(cases h;done)
 cases hx with|slc _ _ _ b' _ e =>
 split at h <;>try(cases h;done)
 ·split at h <;>try(cases h;done)
  rename_i hlt
  have hlt:=eH hlt
  cases hy
  exact⟨_,_,_,_,_,_,rfl,rfl,by simp,by simpa using hlt,_,.ptr _ _ _ e,h⟩
 ·split at h <;>try(cases h;done)
  split at h <;>try(cases h;done)
  rename_i hlt
  have hlt:=eH hlt
  cases hy with|iv _ _ _ n g1 g2 =>
  refine⟨_,_,_,_,_,_,rfl,rfl,by simp,by omega,_,.pw _ _ _ _ _ e ?_ ?_,h⟩
  ·show Nat.add _ _≤_;simp only[Int.toNat_natCast,Nat.mul_one];exact Nat.add_le_add_left g1 _
  ·show _≤Nat.add _ _;simp only[Int.toNat_natCast,Nat.mul_one];exact Nat.add_le_add_left g2 _
theorem agj(hx:SR E (ev x V T) a)(hy:SR E (ev y V T) b)(h:acQ x y V T H K=true):gP a b (RK E K):=by
 unfold acQ at h
 generalize ev x V T=sx at *
 generalize ev y V T=sy at *
 split at h <;>try(cases h;done)
 split at h <;>try(cases h;done)
 rename_i s n _ p v r hc
 cases hx with|s _ l d =>
 cases hy
 obtain⟨g1,g2,g3⟩:=G7 hc d
 generalize hq:l.drop _=t at g3
 cases g3 with|cons _ _ l' m d1 d2 =>
 cases d1 with|c _ hn =>
 refine⟨l,_,_,UInt8.ofNat v,rfl,rfl,by simp, ?_, ?_⟩
 ·have:(l.drop n)[0]?=some (UInt8.ofNat v):=by rw[hq];rfl
  rw[List.getElem?_drop]at this
  simpa using this
 ·have:(UInt8.ofNat v).toNat=v:=by rw[UInt8.toNat_ofNat'];omega
  rw[this];exact iG h
theorem afu{len:Nat}(hx:SR E (ev x V T) a)(hy:SR E (ev y V T) b)(h:U9 x y len V T H K=true):Iz a b len (RK E K):=by
 unfold U9 at h
 generalize ev x V T=sx at *
 generalize ev y V T=sy at *
 split at h <;>try(cases h;done)
 split at h <;>try(cases h;done)
 rename_i hlt hn
 have hlt:=eH hlt
 cases hx with|agg _ vs hl =>
 cases hy
 obtain⟨u,e,r⟩:=hl.lT hn
 exact⟨vs,_,_,u,rfl,rfl,by simp,by simpa using hlt,by simpa using e,_,r,h⟩
theorem aek{len size:Nat}(hx:SR E (ev x V T) a)(hy:SR E (ev y V T) b)(h:U4 x y len size V T H K=true):K5 a b len size (RK E K):=by
 unfold U4 at h
 generalize ev x V T=sx at *
 generalize ev y V T=sy at *
 split at h <;>try(cases h;done)
 split at h <;>try(cases h;done)
 rename_i n _ _ _ hlt hn
 have hlt:=eH hlt
 cases hx with|agg _ vs hl =>
 cases hy
 obtain⟨g1,g2⟩:=aP.kL _ (hl.oo _) hn
 rw[List.length_drop]at g1
 have g1:size≤vs.length-n*size:=g1
 refine⟨vs,_,_,rfl,rfl,by simp,by simpa using hlt, ?_,_,.agg _ _ (by simpa using g2),h⟩
 cases size with
 |zero=>simp
 |succ m =>
  show n*(m+1)+(m+1)≤_
  generalize n*(m+1)=q at *
  omega
theorem QK{size l h' c o:Nat}{k:Ky}{b' : Nat}(hb:E.bl k=some b')(h:Vw size k o l h' c K=true):l≤h'∧h'≤c∧RK E K (if c=l then .slc b' o 0 (.ex 0)else .slc b' (o+l*size) (h'-l) (.ex (c-l))):=by
 unfold Vw at h
 split at h <;>try(cases h;done)
 rename_i h1 h2
 refine⟨bP h1,bP h2, ?_⟩
 split at h
 ·rename_i he
  rw[if_pos (bB he)]
  exact⟨_,.slc _ _ _ _ _ hb,h⟩
 ·rename_i he
  rw[if_neg (AU he)]
  exact⟨_,.slc _ _ _ _ _ hb,h⟩
theorem afJ{n:Nat}(hx:SR E (ev x V T) a)(h:UQ n x V T H K=true):ad8 n a (RK E K):=by
 unfold UQ at h
 generalize ev x V T=sx at *
 split at h <;>try(cases h;done)
 split at h <;>try(cases h;done)
 rename_i hle
 cases hx with|slc _ _ _ b' _ e =>
 exact⟨_,_,_,_,rfl,bP hle,_,.ptr _ _ _ e,h⟩
theorem Yb{xs:List Operand}{eX:Operand→XO}{e:Operand→AV}(he:∀ z,SR E (ev (eX z) V T) (e z)):∀ xs:List Operand,aP E (IQ V T (xs.map eX)) (xs.map e)
 |[]=>.nil
 |z::r=>.cons _ _ _ _ (he z) (Yb (xs:=xs) he r)
theorem akI{f:Nat}{xs ys:List Operand}{eX:Operand→XO}{e:Operand→AV}(he:∀ z,SR E (ev (eX z) V T) (e z))(h:arN f (xs.map eX) (ys.map eX) V T H K=true):RK E K (.fn (.func f) (xs.map e) (ys.map e)) :=
 ⟨_,.fn _ _ _ _ _ (Yb (xs:=xs) he xs) (Yb (xs:=ys) he ys),h⟩
theorem alj(hH:HR E H M)(hx:SR E (ev x V T) a)(h:agp x V T H K=true):bS a (RK E K):=by
 unfold agp at h
 generalize ev x V T=sx at *
 split at h <;>try(cases h;done)
 ·cases hx;exact⟨_,rfl,iG h⟩
 ·cases hx;exact⟨_,rfl,iG h⟩
 ·cases hx;exact⟨_,rfl,iG h⟩
 ·rename_i k
  split at h <;>try(cases h;done)
  rename_i s own el hk
  have h1:=hH.blk k
  rw[hk]at h1
  obtain⟨v,t,e1,e2,_,e4⟩:=h1
  cases hx with|bs _ _ e =>
  rw[e1]at e;cases e
  exact⟨t.length,e4.PZ,Zu e2 h⟩
theorem mK.length:∀ {a:List (SV×SV×Nat)}{b:List (AV×AV×Nat)},mK E a b→ac5 a=b.length
 |_,_,.nil=>rfl
 |_,_,.cons k v n a b x y p q r=>by simp only[ac5,List.length_cons,mK.length r]
theorem map_ok(hH:HR E H M){k:Ky}{es:List (SV×SV×Nat)}{c:Nat}(hk:hget H k=.map es c){b' : Nat}(hb:E.bl k=some b'):∃ fs,M.heap b'=some (.map fs c)∧b'<M.next∧mK E es fs:=by
 have h1:=hH.blk k
 rw[hk]at h1
 obtain⟨c',fs,e1,e2,e3,e4⟩:=h1
 rw[hb]at e1;cases e1
 exact⟨fs,e3,e2,e4⟩
theorem agS(hH:HR E H M)(hx:SR E (ev x V T) a)(h:acC x V T H K=true):Zw M a (RK E K):=by
 unfold acC at h
 generalize ev x V T=sx at *
 split at h <;>try(cases h;done)
 split at h <;>try(cases h;done)
 rename_i hk
 cases hx with|map _ b' e =>
 obtain⟨fs,h1,h2,h3⟩:=map_ok hH hk e
 exact⟨_,fs,_,rfl,h1,by rw[← h3.length];exact iG h⟩
theorem alg(hx:SR E (ev x V T) a)(h:aiu x V T H K=true):Et a (RK E K):=by
 unfold aiu at h
 generalize ev x V T=sx at *
 split at h <;>try(cases h;done)
 ·cases hx;exact⟨_,rfl,iG h⟩
 ·cases hx;exact⟨_,rfl,iG h⟩
theorem acd{t:Nat}{ok:Bool}(hx:SR E (ev x V T) a)(h:Q9 t ok x V T H K=true):aax t ok a (RK E K):=by
 unfold Q9 at h
 generalize ev x V T=sx at *
 split at h <;>try(cases h;done)
 split at h <;>try(cases h;done)
 rename_i hb
 cases bB hb
 cases hx with|ifc _ _ v hv =>
 refine⟨v,rfl, ?_⟩
 cases ok
 ·exact⟨_,hv,h⟩
 ·exact⟨_,.tup _ _ (.cons _ _ _ _ hv (.cons _ _ _ _ (.b true) .nil)),h⟩
theorem ah8(hH:HR E H M){el cells:Nat}(hx:SR E (ev x V T) a)(h:aaR el cells x V T H K=true):ajr el cells M a (RK E K):=by
 unfold aaR at h
 generalize ev x V T=sx at *
 split at h <;>try(cases h;done)
 rename_i k0
 split at h <;>try(cases h;done)
 rename_i hk
 split at h <;>try(cases h;done)
 rename_i hl ht
 cases hx with|ptr _ _ b' e =>
 have h1:=hH.blk k0
 rw[hk]at h1
 obtain⟨c,cs,e1,e2,e3,e4,e5⟩:=h1
 rw[e]at e1;cases e1
 have:=bB hl
 rw[e4.length]at this
 cases bB ht
 exact⟨_,_,_,_,rfl,e3,this,_,.ptr _ _ _ e,h⟩
theorem ahC(hH:HR E H M)(hx:SR E (ev x V T) a)(h:acr x V T H K=true):Uq M a (RK E K):=by
 unfold acr at h
 generalize ev x V T=sx at *
 split at h <;>try(cases h;done)
 split at h <;>try(cases h;done)
 rename_i l hl
 split at h <;>try(cases h;done)
 rename_i hlt
 cases hx with|ptr _ _ b' e =>
 obtain⟨cs,opn,el,fz,e1,e2,e3⟩:=Rk hH hl e
 have:=eH hlt
 rw[e3.length]at this
 exact⟨_,_,_,_,_,_,rfl,e1,this,_,.ptr _ _ _ e,h⟩
end
section
variable {E:En} {K:KV} {V:VS} {T:TS} {H:SH} {M:RM} {x y:XO} {a b:AV}
theorem sO{sv:SV}{v:AV}{n:Nat}(h:BD sv=some n)(hx:SR E sv v):∃ k,v=N k (n:Int):=by
 unfold BD at h
 split at h <;>try(cases h;done)
 cases h
 cases hx
 exact⟨_,rfl⟩
theorem Pn{d:Nat}{k:IntKind}{n:Nat}:bnd d (some (N k (n:Int)))=some n:=by simp[bnd]
theorem kH{d n:Nat}{eX:Operand→XO}{e:Operand→AV}(he:∀ z,SR E (ev (eX z) V T) (e z)){o:Option Operand}(h:uy d (o.map eX) V T=some n):bnd d (o.map e)=some n:=by
 cases o with
 |none=>cases(show some d=some n from h);rfl
 |some z =>
  obtain⟨k,hk⟩:=sO (show BD (ev (eX z) V T)=some n from h) (he z)
  show bnd d (some (e z))=_
  rw[hk];exact Pn
theorem acS{eX:Operand→XO}{e:Operand→AV}(he:∀ z,SR E (ev (eX z) V T) (e z)){lo hi:Option Operand}(hx:SR E (ev x V T) a)(h:P8 x (lo.map eX) (hi.map eX) V T H K=true):dz (dF a (lo.map e) (hi.map e)) (RK E K):=by
 unfold P8 at h
 generalize ev x V T=sx at *
 split at h <;>try(cases h;done)
 split at h <;>try(cases h;done)
 rename_i l hl
 split at h <;>try(cases h;done)
 rename_i p r hc
 cases hx with|s _ t d =>
 obtain⟨g1,g2,g3⟩:=G7 hc d
 have hl:=kH he hl
 cases hi with
 |none =>
  refine⟨St ((t.drop l).take (t.length-l)), ?_,_,.s _ _ ?_,h⟩
  ·show dF (.sc (.string ⟨⟨t⟩⟩)) (lo.map e) none=_
   have hb:bnd t.length none=some t.length:=rfl
   simp only[dF,hl,hb]
   rw[if_pos ⟨g1,Nat.le_refl _⟩]
  ·rw[List.take_of_length_le (by simp)];exact g3
 |some z =>
  simp only[Option.map]at h
  split at h <;>try(cases h;done)
  rename_i m hm
  split at h <;>try(cases h;done)
  rename_i hle
  have hle:=bP hle
  split at h <;>try(cases h;done)
  rename_i p' r' hc'
  obtain⟨g4,g5,g6⟩:=G7 hc' g3
  obtain⟨k,hk⟩:=sO hm (he z)
  rw[List.length_drop]at g4
  have g4:m-l≤t.length-l:=g4
  refine⟨St ((t.drop l).take (m-l)), ?_,_,.s _ _ g5,h⟩
  show dF (.sc (.string ⟨⟨t⟩⟩)) (lo.map e) (some (e z))=_
  simp only[dF,hl,hk,Pn]
  rw[if_pos ⟨hle,by omega⟩]
theorem VB{size l h' c o b' : Nat}(h1:l≤h')(h2:h'≤c)(hk:RK E K (if c=l then .slc b' o 0 (.ex 0)else .slc b' (o+l*size) (h'-l) (.ex (c-l)))):∃ v,(if l≤h'∧h'≤c then(if c=l then some (AV.slc b' o 0 (.ex 0))else some (.slc b' (o+l*size) (h'-l) (.ex (c-l))))else none)=some v∧RK E K v:=by
 rw[if_pos ⟨h1,h2⟩]
 split at hk
 ·rename_i e;rw[if_pos e];exact⟨_,rfl,hk⟩
 ·rename_i e;rw[if_neg e];exact⟨_,rfl,hk⟩
theorem aiv{n size:Nat}{eX:Operand→XO}{e:Operand→AV}(he:∀ z,SR E (ev (eX z) V T) (e z)){lo hi:Option Operand}(hx:SR E (ev x V T) a)(h:abA n size x (lo.map eX) (hi.map eX) V T H K=true):dz (Jy n size a (lo.map e) (hi.map e)) (RK E K):=by
 unfold abA at h
 generalize ev x V T=sx at *
 split at h <;>try(cases h;done)
 split at h <;>try(cases h;done)
 rename_i l h' hl hh
 cases hx with|ptr _ _ b' hb =>
 have hl:=kH he hl
 have hh:=kH he hh
 obtain⟨h1,h2,h3⟩:=QK hb h
 unfold dz
 simp only[Jy,hl,hh]
 exact VB h1 h2 h3
theorem SV.aib{sv:SV}{v:AV}(h:SR E sv v)(hl:lone sv.cells=true):known v=true:=by
 cases h<;>first|rfl|(cases hl;done)|skip
 ·rename_i k e
  obtain⟨h1,h2,_⟩:=E.sl1 _ _ e
  cases v<;>first|rfl|(cases h2;done)
theorem VQ{eX:Operand→XO}{e:Operand→AV}(he:∀ z,SR E (ev (eX z) V T) (e z)):∀ (ps:List (Nat×Nat×Operand)){cs:List SV}{vs:List AV}{ys:List SV},aP E cs vs→zK V T cs (ps.map fun p=>(p.1,p.2.1,eX p.2.2))=some ys→∃ us,nC vs (ps.map fun p=>(p.1,p.2.1,e p.2.2))=some us∧aP E ys us
 |[],cs,vs,ys,h,hf=>by simp only[List.map,zK]at hf;cases hf;exact⟨vs,rfl,h⟩
 |(off,size,z)::r,cs,vs,ys,h,hf=>by
  simp only[List.map,zK]at hf
  split at hf <;>try(cases hf;done)
  rename_i h1 h2 h3
  have hc:=SR.cells (he z) (Ie h1)
  have hs:=bB h2
  rw[hc.length]at hs
  obtain⟨g1,g2⟩:=aP.pz off h hc h3
  rw[hs]at g1 g2
  obtain⟨us,k1,k2⟩:=VQ he r g2 hf
  refine⟨us, ?_,k2⟩
  simp only[List.map,nC]
  rw[if_pos ⟨SV.aib (he z) h1,hs,g1⟩]
  exact k1
theorem Td{eX:Operand→XO}{e:Operand→AV}(he:∀ z,SR E (ev (eX z) V T) (e z)){ps:List (Nat×Nat×Operand)}{cs:List SV}{vs:List AV}(hz:aP E cs vs)(h:Xf cs (ps.map fun p=>(p.1,p.2.1,eX p.2.2)) V T H K=true):iV vs (ps.map fun p=>(p.1,p.2.1,e p.2.2)) (RK E K):=by
 unfold Xf at h
 split at h <;>try(cases h;done)
 rename_i l hl
 obtain⟨us,h1,h2⟩:=VQ he ps hz hl
 exact⟨us,h1,_,.agg _ _ h2,h⟩
end
section
variable {E:En} {K:KV} {V:VS} {T:TS} {H:SH} {M:RM} {x y:XO} {a b:AV}
theorem ZI(m n:Nat):(Int.ofNat m).fdiv (2^n)=Int.ofNat (Nat.shiftRight m n):=by
 have h1:((2:Int)^n)=((2^n:Nat):Int):=by simp
 have h2:Nat.shiftRight m n=m / 2^n:=Nat.shiftRight_eq_div_pow m n
 rw[h1,h2,Int.fdiv_eq_ediv_of_nonneg _ (Int.natCast_nonneg _)]
 rfl
theorem apg{op:BinOp}(hx:SR E (ev x V T) a)(hy:SR E (ev y V T) b)(h:vSh op x y V T H K=true):qj op a b (RK E K):=by
 unfold vSh at h
 generalize ev x V T=sx at *
 generalize ev y V T=sy at *
 split at h <;>try(cases h;done)
 ·rename_i k a l b
  cases hx;cases hy
  split at h <;>try(cases h;done)
  ·refine⟨k,a,l,_,_,rfl,rfl, ?_,iG (k:=k) (n:=k.wrap (a*2^(min b k.bits))) ?_⟩
   ·simp[wV]
   ·rw[jH]at h;exact h
  ·split at h
   ·rename_i m
    refine⟨k,_,l,_,_,rfl,rfl, ?_,iG (k:=k) (n:=(Int.ofNat m).fdiv (2^(min b k.bits))) ?_⟩
    ·simp[wV]
    ·rw[ZI];exact h
   ·refine⟨k,a,l,_,_,rfl,rfl, ?_,iG (k:=k) (n:=a.fdiv (2^(min b k.bits))) h⟩
    simp[wV]
 ·rename_i k lo hi l b
  cases hx with|iv _ _ _ n g1 g2 =>
  cases hy
  split at h <;>try(cases h;done)
  refine⟨k,_,l,_,_,rfl,rfl, ?_,K7 (k:=k) (n:=Nat.shiftRight n (min b k.bits)) h ?_ ?_⟩
  ·have:=ZI n (min b k.bits)
   simp only[wV]
   rw[if_neg (by simp)]
   show some (Value.int k ((Int.ofNat n).fdiv (2^(min b k.bits))))=_
   rw[this];rfl
  ·show lo >>> (min b k.bits)≤n >>> (min b k.bits)
   rw[Nat.shiftRight_eq_div_pow,Nat.shiftRight_eq_div_pow];exact Nat.div_le_div_right g1
  ·show n >>> (min b k.bits)≤hi >>> (min b k.bits)
   rw[Nat.shiftRight_eq_div_pow,Nat.shiftRight_eq_div_pow];exact Nat.div_le_div_right g2
 ·rename_i k a l lo hi
  cases hx
  cases hy with|iv _ _ _ n g1 g2 =>
  split at h <;>try(cases h;done)
  refine⟨k,a,l,_,_,rfl,rfl, ?_,Qv (k:=k) (n:=a*2^(min n k.bits)) h⟩
  simp[wV]
theorem qX{m n:Nat}(h1:m<256)(h2:n<256):(UInt8.ofNat m<UInt8.ofNat n)↔m<n:=by
 rw[UInt8.lt_iff_toNat_lt,UInt8.toNat_ofNat',UInt8.toNat_ofNat']
 omega
theorem Uu{m n:Nat}(h1:m<256)(h2:n<256):(UInt8.ofNat m=UInt8.ofNat n)↔m=n:=by
 rw[← UInt8.toNat_inj,UInt8.toNat_ofNat',UInt8.toNat_ofNat']
 omega
theorem MI:∀ (l m:List Nat),(∀ n∈l,n<256)→(∀ n∈m,n<256)→Op.bytesLess (l.map UInt8.ofNat) (m.map UInt8.ofNat)=lexLt l m
 |[],[],_,_=>rfl
 |[],_::_,_,_=>rfl
 |_::_,[],_,_=>rfl
 |a::x,b::y,h1,h2=>by
  have ha:=h1 a (List.mem_cons_self ..)
  have hb:=h2 b (List.mem_cons_self ..)
  have ih:=MI x y (fun n h=>h1 n (List.mem_cons_of_mem _ h)) (fun n h=>h2 n (List.mem_cons_of_mem _ h))
  simp only[List.map,Op.bytesLess,lexLt]
  split
  ·rename_i e
   have e:=bB e
   subst e
   rw[ih]
   simp
  ·rename_i e
   have e:=AU e
   have e1:(UInt8.ofNat a==UInt8.ofNat b)=false:=by
    rw[beq_eq_false_iff_ne];intro hc;exact e ((Uu ha hb).1 hc)
   rw[e1,QU]
   simp[qX ha hb]
theorem NI:∀ (l m:List Nat),(∀ n∈l,n<256)→(∀ n∈m,n<256)→(Op.bytesLess (l.map UInt8.ofNat) (m.map UInt8.ofNat)||kX (l.map UInt8.ofNat) (m.map UInt8.ofNat))=!lexLt m l
 |[],[],_,_=>rfl
 |[],_::_,_,_=>rfl
 |_::_,[],_,_=>rfl
 |a::x,b::y,h1,h2=>by
  have ha:=h1 a (List.mem_cons_self ..)
  have hb:=h2 b (List.mem_cons_self ..)
  have ih:=NI x y (fun n h=>h1 n (List.mem_cons_of_mem _ h)) (fun n h=>h2 n (List.mem_cons_of_mem _ h))
  rw[gJ]at ih ⊢
  simp only[List.map,Op.bytesLess,lexLt,List.cons_beq_cons]
  split
  ·rename_i e
   have e:=bB e
   subst e
   rw[← ih]
   simp
  ·rename_i e
   have e:=AU e
   have e1:(UInt8.ofNat a==UInt8.ofNat b)=false:=by
    rw[beq_eq_false_iff_ne];intro hc;exact e ((Uu ha hb).1 hc).symm
   rw[e1,QU]
   by_cases hlt:b<a
   ·simp[qX ha hb,hlt];omega
   ·simp[qX ha hb,hlt];omega
theorem aai{s t:SB}{l m:bQ}{C:Bool→Bool}(d1:bG E.g s l)(d2:bG E.g t m)(h:Ld s t C=true):C (kX l m)=true:=by
 have:=YN d1 d2 h
 have e:kX l m=decide (l=m):=by rw[gJ];by_cases h:l=m<;>simp[h]
 rw[e];exact this
theorem alB{op:BinOp}(hx:SR E (ev x V T) a)(hy:SR E (ev y V T) b)(h:ag5 op x y V T H K=true):dI op a b (RK E K):=by
 unfold ag5 at h
 generalize ev x V T=sx at *
 generalize ev y V T=sy at *
 split at h <;>try(cases h;done)
 rename_i s t
 cases hx with|s _ l d1 =>
 cases hy with|s _ m d2 =>
 split at h
 ·split at h <;>try(cases h;done)
  rename_i hb
  have hb:=bP hb
  have e1:=bJ d1
  have e2:=bJ d2
  have hb:Nat.ble (l.length+m.length) 9223372036854775807=true:=Nat.ble_eq_true_of_le (Nat.le_trans (Nat.add_le_add e1.2 e2.2) hb)
  refine⟨l,m,St (l++m),rfl,rfl, ?_,_,.s _ _ (pu d1 d2),h⟩
  simp only[Dl,hb]
 ·exact⟨l,m,_,rfl,rfl,rfl,gI (aai d1 d2 h)⟩
 ·exact⟨l,m,_,rfl,rfl,rfl,gI (aai d1 d2 h)⟩
 ·split at h <;>try(cases h;done)
  rename_i h1 h2
  obtain⟨rfl,q1⟩:=fG d1 h1
  obtain⟨rfl,q2⟩:=fG d2 h2
  split at h <;>try(cases h;done)
  ·exact⟨_,_,_,rfl,rfl,rfl,gI (by rw[MI _ _ q1 q2];exact h)⟩
  ·exact⟨_,_,_,rfl,rfl,rfl,gI (by rw[NI _ _ q1 q2];exact h)⟩
  ·exact⟨_,_,_,rfl,rfl,rfl,gI (by rw[NI _ _ q1 q2,Bool.not_not];exact h)⟩
  ·exact⟨_,_,_,rfl,rfl,rfl,gI (by rw[MI _ _ q1 q2];exact h)⟩
theorem KG(mx:Bool)(a b:Int):iMn mx a b=(if mx then(if b>a then b else a)else(if b<a then b else a)):=by
 cases mx<;>simp only[iMn,Kq]
 ·by_cases h:b<a<;>simp[h]
 ·by_cases h:a<b<;>simp[h]
theorem ZG{k:IntKind}{lo hi n:Nat}(h:K (Io k lo hi)=true)(h1:lo≤n)(h2:n≤hi):RK E K (N k (n:Int)):=by
 unfold Io at h
 split at h
 ·rename_i e
  have:=bB e
  have:n=lo:=by omega
  subst this
  exact iG h
 ·exact K7 h h1 h2
theorem aem{mx:Bool}(hx:SR E (ev x V T) a)(hy:SR E (ev y V T) b)(h:vMn mx x y V T H K=true):Na mx a b (RK E K):=by
 unfold vMn mn2 at h
 generalize ev x V T=sx at *
 generalize ev y V T=sy at *
 split at h
 ·split at h <;>try(cases h;done)
  rename_i hk
  cases jM hk
  cases hx;cases hy
  rw[KG]at h
  exact⟨_,_,_,rfl,rfl,iG h⟩
 ·split at h <;>try(cases h;done)
  rename_i h1 h2
  split at h <;>try(cases h;done)
  ·rename_i hk
   cases jM hk
   obtain⟨m,rfl,e1,e2⟩:=sQ h1 hx
   obtain⟨n,rfl,e3,e4⟩:=sQ h2 hy
   refine⟨_,_,_,rfl,rfl, ?_⟩
   have:=ZG (E:=E) (n:=max m n) h (by show max _ _≤_;omega) (by show _≤max _ _;omega)
   have e:(if ((n:Int)>m)then(n:Int)else m)=((max m n:Nat):Int):=by split<;>omega
   simp only[if_true]
   rw[e];exact this
  ·rename_i hk
   cases jM hk
   obtain⟨m,rfl,e1,e2⟩:=sQ h1 hx
   obtain⟨n,rfl,e3,e4⟩:=sQ h2 hy
   refine⟨_,_,_,rfl,rfl, ?_⟩
   have:=ZG (E:=E) (n:=min m n) h (by show min _ _≤_;omega) (by show _≤min _ _;omega)
   have e:(if ((n:Int)<m)then(n:Int)else m)=((min m n:Nat):Int):=by split<;>omega
   simp only[Bool.false_eq_true,if_false]
   rw[e];exact this
theorem FX:∀ {ks:List Nat}{xs ys:List SV}{us vs:List AV},aP E xs us→aP E ys vs→Ic ks xs ys=true→us.length=ks.length∧vs.length=ks.length
 |[],_,_,_,_,.nil,.nil,_=>⟨rfl,rfl⟩
 |[],_,_,_,_,.nil,.cons _ _ _ _ _ _,h=>by cases h
 |[],_,_,_,_,.cons _ _ _ _ _ _,h1,h=>by cases h1<;>cases h
 |_::_,_,_,_,_,.nil,h1,h=>by cases h1<;>cases h
 |_::_,_,_,_,_,.cons _ _ _ _ _ _,.nil,h=>by cases h
 |k::ks,_,_,_,_,.cons _ _ _ _ _ p,.cons _ _ _ _ _ q,h=>by
  obtain⟨h1,h2⟩:=FX (ks:=ks) p q h
  exact⟨by simp[h1],by simp[h2]⟩
theorem Px:∀ {ks:List Nat}{xs ys:List SV}{us vs:List AV}{C:Bool→Bool},aP E xs us→aP E ys vs→sj ks xs ys C=true→us.length=ks.length∧vs.length=ks.length∧∃ r,df ks us vs=some r∧C r=true:=by
 intro ks
 induction ks with
 |nil =>
  intro xs ys us vs C h1 h2 h
  cases h1<;>cases h2<;>first|(cases h;done)|exact⟨rfl,rfl,true,rfl,h⟩
 |cons k ks ih =>
  intro xs ys us vs C h1 h2 h
  cases h1 with
  |nil=>cases h2<;>cases h
  |cons x u xs us p1 p2 =>
  cases h2 with
  |nil=>cases h
  |cons y v ys vs q1 q2 =>
  simp only[sj]at h
  have done:∀ {r:Bool},mo k u v=some r→(match r with
   |true=>sj ks xs ys C
   |false=>match Ic ks xs ys with
    |true=>C false
    |false=>false)=true→(u::us).length=(k::ks).length∧(v::vs).length=(k::ks).length∧∃ r,df (k::ks) (u::us) (v::vs)=some r∧C r=true:=by
   intro r hr hh
   cases r with
   |true =>
    obtain⟨e1,e2,r,e3,e4⟩:=ih p2 q2 hh
    exact⟨by simp[e1],by simp[e2],r,by simp only[df,hr];exact e3,e4⟩
   |false =>
    dsimp only at hh
    split at hh <;>try(cases hh;done)
    rename_i hl
    obtain⟨e1,e2⟩:=FX p2 q2 hl
    exact⟨by simp[e1],by simp[e2],false,by simp only[df,hr],hh⟩
  split at h <;>try(cases h;done)
  ·split at h <;>try(cases h;done)
   rename_i hk hl
   cases bB hk;cases jM hl
   cases p1;cases q1
   refine done (r:=DC _ _) ?_ h
   simp[mo,EX]
  ·cases p1;cases q1
   rename_i p q
   split at h <;>try(cases h;done)
   ·rename_i hk hl
    cases bB hk
    refine done (r:=true) ?_ h
    rw[pG]at hl
    simp[mo];simpa using hl
   ·rename_i hk hl
    cases bB hk
    refine done (r:=false) ?_ h
    rw[pG]at hl
    simp[mo];simpa using hl
  ·split at h <;>try(cases h;done)
   rename_i hk
   cases bB hk
   cases p1 with|s _ l d1 =>
   cases q1 with|s _ m d2 =>
   have:=YN d1 d2 h
   refine done (r:=decide (l=m)) ?_ this
   show some (l==m)=_
   by_cases e:l=m<;>simp[e]
theorem alT{neg:Bool}{ks:List Nat}(hx:SR E (ev x V T) a)(hy:SR E (ev y V T) b)(h:ahM neg ks x y V T H K=true):FH neg ks a b (RK E K):=by
 unfold ahM at h
 generalize ev x V T=sx at *
 generalize ev y V T=sy at *
 split at h <;>try(cases h;done)
 cases hx with|agg _ us p =>
 cases hy with|agg _ vs q =>
 obtain⟨e1,e2,r,e3,e4⟩:=Px p q h
 exact⟨us,vs,r,rfl,rfl,e1,e2,e3,gI e4⟩
theorem KW{a' : Bool}{sv:SV}{v:AV}{cs:List SV}(h:QF a' sv=some cs)(hx:SR E sv v):∃ us,gz a' v=some us∧aP E cs us:=by
 unfold QF at h
 split at h <;>try(cases h;done)
 ·cases h;cases hx with|agg _ us p=>exact⟨us,rfl,p⟩
 ·cases h;exact⟨[v],rfl,.cons _ _ _ _ hx .nil⟩
theorem Hu{a' : Bool}{ks:List Nat}{k:List SV}{kc:List AV}(hk:aP E k kc):∀ {es:List (SV×SV×Nat)}{fs:List (AV×AV×Nat)}{C:Option (Nat×SV)→Bool}{i:Nat},mK E es fs→qQ a' ks k C es i=true→∃ r,oC a' ks kc fs i=some r∧((r=none∧C none=true)∨(kc.length=ks.length∧∃ j va sv,r=some (j,va)∧SR E sv va∧C (some (j,sv))=true))
 |_,_,C,i,.nil,h=>⟨none,rfl,.inl ⟨rfl,h⟩⟩
 |_,_,C,i,.cons ka va n ua ub x y p q r,h=>by
  simp only[qQ]at h
  split at h <;>try(cases h;done)
  rename_i cs hc
  obtain⟨us,e1,e2⟩:=KW hc p
  obtain⟨g1,g2,t,g3,g4⟩:=Px hk e2 h
  cases t with
  |true=>exact⟨some (i,ub),by simp only[oC,e1,g2,g3,if_true],.inr ⟨g1,i,ub,va,rfl,q,g4⟩⟩
  |false =>
   obtain⟨s,f1,f2⟩:=Hu hk r g4
   exact⟨s,by simp only[oC,e1,g2,g3,if_true];exact f1,f2⟩
end
section
variable {E:En} {K:KV} {V:VS} {T:TS} {H:SH} {M:RM} {x y:XO} {a b:AV}
theorem xV{n:Nat}(h:n<256):N .u8 ((UInt8.ofNat n).toNat:Int)=N .u8 (n:Int):=by
 have:(UInt8.ofNat n).toNat=n:=by rw[UInt8.toNat_ofNat'];omega
 rw[this]
theorem pO:∀ {cs:List SV}{us:List AV},aP E cs us→∀ {s:SB},FQ cs=some s→∃ l,bW byteOf us=some l∧bG E.g s l∧us=fM l
 |_,_,.nil,_,h=>by cases h;exact⟨[],rfl,.nil,rfl⟩
 |_,_,.cons x v xs vs p q,_,h=>by
  simp only[FQ]at h
  split at h <;>try(cases h;done)
  ·split at h <;>try(cases h;done)
   rename_i n _ _ s hlt hs
   cases h
   obtain⟨l,e1,e2,e3⟩:=pO q hs
   cases p
   refine⟨UInt8.ofNat n::l, ?_,.cons _ _ [_] _ (.c n (eH hlt)) e2, ?_⟩
   ·simp only[bW,byteOf,e1]
    rfl
   ·rw[fM,List.map_cons,xV (eH hlt),e3];rfl
  ·split at h <;>try(cases h;done)
   rename_i _ _ s hlt hs
   cases h
   obtain⟨l,e1,e2,e3⟩:=pO q hs
   cases p with|iv _ _ _ n g1 g2 =>
   have:=eH hlt
   refine⟨UInt8.ofNat n::l, ?_,.cons _ _ [_] _ (.u 1 1 _ (by simp) (by simp)) e2, ?_⟩
   ·simp only[bW,byteOf,e1]
    rfl
   ·rw[fM,List.map_cons,xV (by omega),e3]
theorem ajk(hH:HR E H M){sv:SV}{v:AV}{s:SB}(hs:oq H sv=some s)(hx:SR E sv v):∃ l,bG E.g s l∧(v=St l∨qU M v=some l)∧((∀ t,sv≠.s t)→qU M v=some l):=by
 unfold oq at hs
 split at hs <;>try(cases hs;done)
 ·rename_i k
  split at hs <;>try(cases hs;done)
  rename_i hk
  cases hs
  have h1:=hH.blk k
  rw[hk]at h1
  obtain⟨w,l,e1,e2,_,e4⟩:=h1
  cases hx with|bs _ _ e =>
  rw[e1]at e;cases e
  have:=e4.qU (IB l)
  exact⟨l,e2,.inr this,fun _=>this⟩
 ·split at hs <;>try(cases hs;done)
  rename_i cs hc
  cases hx with|slc _ _ _ b' _ e =>
  obtain⟨us,e1,e2,_⟩:=lc hH hc e
  obtain⟨l,f1,f2,_⟩:=pO e2 hs
  have:∀ c o n,M.loads b' o n=some us→qU M (.slc b' o n c)=some l:=by
   intro c o n e1;simp only[qU,e1,f1]
  exact⟨l,f2,.inr (this _ _ _ e1),fun _=>this _ _ _ e1⟩
 ·cases hs;cases hx;exact⟨[],.nil,.inr rfl,fun _=>rfl⟩
 ·cases hs;cases hx;exact⟨[],.nil,.inr rfl,fun _=>rfl⟩
 ·cases hs;cases hx with|s _ l d=>exact⟨l,d,.inl rfl,fun h=>absurd rfl (h _)⟩
theorem ad2(hH:HR E H M)(hx:SR E (ev x V T) a)(h:Vt x V T H K=true):kD M a (RK E K):=by
 unfold Vt at h
 generalize ev x V T=sx at *
 split at h <;>try(cases h;done)
 rename_i hne
 split at h <;>try(cases h;done)
 rename_i s hs
 obtain⟨l,e1,_,e2⟩:=ajk hH hs hx
 exact⟨l,e2 fun t e=>hne t e,_,.s _ _ e1,h⟩
theorem YB{sv:SV}{v:AV}{ok has:Bool}(hx:SR E sv v)(h:K (found sv ok has)=true):RK E K (yJ v has ok):=by
 cases ok
 ·exact⟨_,hx,h⟩
 ·exact⟨_,.tup _ _ (.cons _ _ _ _ hx (.cons _ _ _ _ (.b has) .nil)),h⟩
theorem acD(hH:HR E H M){a' : Bool}{ks:List Nat}{z:SV}{zv:AV}{ok:Bool}(hz:SR E z zv)(hx:SR E (ev x V T) a)(hy:SR E (ev y V T) b)(h:Qa a' ks z ok x y V T H K=true):aaf a' ks zv ok M a b (RK E K):=by
 unfold Qa at h
 generalize ev x V T=sx at *
 generalize ev y V T=sy at *
 split at h <;>try(cases h;done)
 rename_i k
 split at h <;>try(cases h;done)
 rename_i es c kc hk hkc
 split at h <;>try(cases h;done)
 rename_i hl
 cases hx with|map _ b' e =>
 obtain⟨fs,h1,h2,h3⟩:=map_ok hH hk e
 obtain⟨us,g1,g2⟩:=KW hkc hy
 have hl:=(FX g2 g2 hl).1
 obtain⟨r,f1,f2⟩:=Hu g2 h3 h
 refine⟨b',fs,_,us,r,rfl,h1,g1,hl,f1, ?_⟩
 rcases f2 with⟨rfl,f3⟩|⟨_,j,va,sv,rfl,f3,f4⟩
 ·exact YB hz f3
 ·exact YB f3 f4
end
section
variable {E:En} {K:KV} {V:VS} {T:TS} {H:SH} {M:RM} {x y:XO} {a b:AV}
theorem VR{sv:SV}{v:AV}{tag:Nat}(h:Nat.beq (Oe sv) tag=true)(hx:SR E sv v)(ht:tag≠0):(tag=2∧v=.sc (.slice none 0 0))∨(tag=1∧v=.sc (.pointer none))∨(tag=3∧v=.sc (.map none))∨(tag=4∧v=.sc .nilFunc)∨(tag=5∧v=.sc .nilIface):=by
 have h:=bB h
 subst h
 unfold Oe at ht ⊢
 split at ht
 ·cases hx;exact .inl ⟨rfl,rfl⟩
 ·cases hx
  split at ht
  ·exact .inr (.inl ⟨rfl,rfl⟩)
  ·exact .inr (.inr (.inl ⟨rfl,rfl⟩))
  ·exact .inr (.inr (.inr (.inl ⟨rfl,rfl⟩)))
  ·exact .inr (.inr (.inr (.inr ⟨rfl,rfl⟩)))
  ·exact absurd rfl ht
 ·exact absurd rfl ht
theorem amI(hH:HR E H M){sv:SV}{v:AV}{tag:Nat}(h:Nat.beq (aca H sv) tag=true)(hx:SR E sv v)(ht:tag≠0):(tag=1∧∃ b o,v=.ptr b o)∨(tag=2∧((∃ b o n c,v=.slc b o n c)∨∃ b,v=.emp b))∨(tag=3∧∃ b,v=.map b)∨(tag=4∧∃ f us vs,v=.fn f us vs)∨(tag=5∧∃ t u,v=.ifc t u):=by
 have h:=bB h
 subst h
 unfold aca at ht ⊢
 split at ht <;>try(exact absurd rfl ht)
 ·cases hx;exact .inl ⟨rfl,_,_,rfl⟩
 ·cases hx;exact .inr (.inl ⟨rfl,.inl ⟨_,_,_,_,rfl⟩⟩)
 ·cases hx;exact .inr (.inl ⟨rfl,.inr ⟨_,rfl⟩⟩)
 ·cases hx;exact .inr (.inr (.inl ⟨rfl,_,rfl⟩))
 ·cases hx;exact .inr (.inr (.inr (.inl ⟨rfl,_,_,_,rfl⟩)))
 ·cases hx;exact .inr (.inr (.inr (.inr ⟨rfl,_,_,rfl⟩)))
 ·rename_i k
  split at ht <;>try(exact absurd rfl ht)
  rename_i s own el hk
  split at ht <;>try(exact absurd rfl ht)
  rename_i hl
  have h1:=hH.blk k
  rw[hk]at h1
  obtain⟨w,l,e1,e2,_,e4⟩:=h1
  cases hx with|bs _ _ e =>
  rw[e1]at e;cases e
  have:=bP hl
  have:=bJ e2
  have hp:0<l.length:=by omega
  obtain⟨b,o,cap,rfl,_⟩:=e4.pos hp
  exact .inr (.inl ⟨rfl,.inl ⟨_,_,_,_,rfl⟩⟩)
theorem ZQ(hH:HR E H M){neg c:Bool}{tag:Nat}{yo:Operand}(hc:c=(Nat.beq tag 5&&isC yo))(hx:SR E (ev x V T) a)(hy:SR E (ev y V T) b)(h:ahv neg tag c x y V T H K=true):yC neg tag yo a b (RK E K):=by
 have fin:jr neg tag a b (RK E K)→yC neg tag yo a b (RK E K):=by
  intro hr
  unfold yC
  split
  ·rename_i hb
   have:tag=5:=bB (by rw[Bool.and_eq_true]at hb;exact hb.1)
   subst this
   exact .inl hr
  ·exact hr
 unfold ahv at h
 generalize ev x V T=sx at *
 generalize ev y V T=sy at *
 split at h
 ·rename_i k o k' p
  split at h <;>try(cases h;done)
  rename_i ht hk
  cases bB ht
  have hk:=(jE _ _).1 hk
  subst hk
  cases hx with|ptr _ _ b1 e1 =>
  cases hy with|ptr _ _ b2 e2 =>
  rw[e1]at e2;cases e2
  refine fin ⟨rfl,decide (o=p),by simp[Ad], ?_⟩
  have:Nat.beq o p=decide (o=p):=by
   cases hq:Nat.beq o p with
   |true=>simp[bB hq]
   |false=>simp[AU hq]
  rw[this]at h
  exact gI h
 ·split at h <;>try(cases h;done)
  rename_i hny
  split at h
  ·rename_i hnx
   split at h <;>try(cases h;done)
   rename_i hne
   split at h <;>try(cases h;done)
   rename_i tg
   have h1:=VR hny hy (by omega)
   have h2:=VR hnx hx (by omega)
   rcases h1 with⟨e,rfl⟩|⟨e,rfl⟩|⟨e,rfl⟩|⟨e,rfl⟩|⟨e,rfl⟩<;>rcases h2 with⟨e',rfl⟩|⟨e',rfl⟩|⟨e',rfl⟩|⟨e',rfl⟩|⟨e',rfl⟩ <;>try(exfalso;omega)
   ·exact fin ⟨e.symm,true,rfl,gI (by cases neg<;>exact h)⟩
   ·exact fin ⟨e.symm,true,rfl,gI (by cases neg<;>exact h)⟩
   ·exact fin ⟨e.symm,true,rfl,gI (by cases neg<;>exact h)⟩
   ·exact fin ⟨e.symm,true,rfl,gI (by cases neg<;>exact h)⟩
   ·unfold yC
    rw[← hc]
    split
    ·exact .inr ⟨rfl,rfl,gI h⟩
    ·exact(hne (by rw[e];rfl) rfl).elim
  ·split at h <;>try(cases h;done)
   rename_i hr
   split at h <;>try(cases h;done)
   rename_i tg
   have h1:=VR hny hy (by omega)
   have h2:=amI hH hr hx (by omega)
   have hK:RK E K (Bo (false != neg)):=gI (by cases neg<;>exact h)
   rcases h1 with⟨e,rfl⟩|⟨e,rfl⟩|⟨e,rfl⟩|⟨e,rfl⟩|⟨e,rfl⟩<;>rcases h2 with⟨e',b1,o1,rfl⟩|⟨e',⟨b1,o1,n1,c1,rfl⟩|⟨b1,rfl⟩⟩|⟨e',b1,rfl⟩|⟨e',f1,u1,v1,rfl⟩|⟨e',t1,u1,rfl⟩<;>first|(exfalso;omega)|(exact fin ⟨e.symm,false,rfl,hK⟩)
theorem afE(hH:HR E H M)(hx:SR E (ev x V T) a)(h:UM x V T H K=true):UN a (RK E K):=by
 unfold UM at h
 have hx:=BV hH hx
 generalize wO H (ev x V T)=sx at *
 split at h <;>try(cases h;done)
 ·cases hx;exact⟨_,.o _,h⟩
 ·cases hx with|slc _ _ _ b' _ e=>exact⟨_,.ptr _ _ _ e,h⟩
 ·cases hx with|slc _ _ _ b' _ e=>exact⟨_,.ptr _ _ _ e,h⟩
theorem Yl:∀ {l:List Nat}{n:Nat},aaP l=some n→∃ r,l=r++[n]
 |[],_,h=>by cases h
 |[a],_,h=>by cases h;exact⟨[],rfl⟩
 |a::b::r,n,h=>by
  obtain⟨q,e⟩:=Yl (l:=b::r) (n:=n) h
  exact⟨a::q,by rw[e];rfl⟩
theorem VJ{n:Nat}:∀ {es:List (SV×SV×Nat)}{fs:List (AV×AV×Nat)},mK E es fs→∀ {k v:SV},Uy n es=some (k,v)→∃ e,fs.find? (fun e=>e.2.2==n)=some e∧SR E k e.1∧SR E v e.2.1
 |_,_,.nil,_,_,h=>by cases h
 |_,_,.cons k v m a b x y p q r,k',v',h=>by
  simp only[Uy]at h
  split at h
  ·rename_i he
   cases h
   refine⟨(a,b,m), ?_,p,q⟩
   rw[List.find?_cons_of_pos]
   simpa using bB he
  ·rename_i he
   obtain⟨e,e1,e2⟩:=VJ r h
   refine⟨e, ?_,e2⟩
   rw[List.find?_cons_of_neg]
   ·exact e1
   ·simpa using AU he
theorem aeR(hH:HR E H M)(hx:SR E (ev x V T) a)(h:Yw x V T H K=true):Xh M a (RK E K):=by
 unfold Yw at h
 generalize ev x V T=sx at *
 split at h <;>try(cases h;done)
 rename_i k
 split at h <;>try(cases h;done)
 rename_i m since seen st hk
 split at h <;>try(cases h;done)
 rename_i es cl n hm hl
 split at h <;>try(cases h;done)
 rename_i ek ev' hst hf
 cases hx with|ptr _ _ b' e =>
 have h1:=hH.blk k
 rw[hk]at h1
 obtain⟨c,bm,e1,e2,e3,e4⟩:=h1
 rw[e]at e1;cases e1
 obtain⟨fs,f1,f2,f3⟩:=map_ok hH hm e3
 obtain⟨r,rfl⟩:=Yl hl
 obtain⟨en,g1,g2,g3⟩:=VJ f3 hf
 cases bB hst
 exact⟨_,_,_,_,_,_,_,_,rfl,e4,f1,g1,_,.tup _ _ (.cons _ _ _ _ g2 (.cons _ _ _ _ g3 .nil)),h⟩
end
def qW(P:Program)(o:Oper)(e:Operand→AV)(M:RM)(K:AV→Prop):Prop:=∃ v,((∀ M',gH P o e M' v)∨(kindOf P o=.read∧gH P o e M v))∧K v
section
variable {E:En} {K:KV} {V:VS} {T:TS} {H:SH} {M:RM} {x y:XO} {a b:AV}
theorem Gc:∀ (l:bQ),bG E.g (l.map fun b=>.c b.toNat) l
 |[]=>.nil
 |b::l=>by
  have h:BM E.g (.c b.toNat) [UInt8.ofNat b.toNat]:=.c _ b.toNat_lt
  have e:UInt8.ofNat b.toNat=b:=by simp
  rw[e]at h
  exact .cons _ _ [b] _ h (Gc l)
theorem Rp(a:AV):SR E (Er a) a:=by
 unfold Er
 split
 ·exact .b _
 ·exact .i _ _
 ·rename_i s
  obtain⟨⟨l⟩⟩:=s
  exact .s _ _ (Gc l)
 ·exact .ns
 ·exact .o _
 ·rename_i cs
  refine .agg _ _ ?_
  induction cs with
  |nil=>exact .nil
  |cons c cs ih =>
   refine .cons _ _ _ _ ?_ ih
   dsimp only
   split
   ·exact .b _
   ·exact .i _ _
   ·rename_i s
    obtain⟨⟨l⟩⟩:=s
    exact .s _ _ (Gc l)
   ·exact .ns
   ·exact .o _
   ·exact .top _
 ·exact .tup _ _ .nil
 ·exact .top _
theorem AL:∀ (cs:List AV),aP E (cs.map Er) cs
 |[]=>.nil
 |c::cs=>.cons _ _ _ _ (Rp c) (AL cs)
theorem ajj(hH:HR E H M){size:Nat}{eX:Operand→XO}{e:Operand→AV}(he:∀ z,SR E (ev (eX z) V T) (e z)){lo hi mx:Option Operand}(hx:SR E (ev x V T) a)(h:Ux size x (lo.map eX) (hi.map eX) (mx.map eX) V T H K=true):dz (bI size a (lo.map e) (hi.map e) (mx.map e)) (RK E K):=by
 unfold Ux at h
 have hx:=BV hH hx
 generalize wO H (ev x V T)=sx at *
 unfold dz
 split at h <;>try(cases h;done)
 ·split at h <;>try(cases h;done)
  rename_i k o len cap _ _ l h' hl hh
  cases hx with|slc _ _ _ b' _ eb =>
  have hl:=kH he hl
  have hh:=kH he hh
  simp only[bI,hl,hh]
  cases mx with
  |none =>
   simp only[Option.map_none,Option.map_some]at h ⊢
   cases cap with
   |ex c =>
    simp only at h ⊢
    obtain⟨h1,h2,h3⟩:=QK eb h
    exact VB h1 h2 h3
   |op esz =>
    simp only at h ⊢
    split at h <;>try(cases h;done)
    rename_i h1 h2
    split at h <;>try(cases h;done)
    rename_i h3
    rw[if_pos ⟨bP h2,bP h3,bB h1⟩]
    split at h
    ·rename_i h4
     rw[if_pos (bP h4)]
     exact⟨_,rfl,_,.emp _ _,h⟩
    ·rename_i h4
     rw[if_neg (by have:=WB h4;omega)]
     exact⟨_,rfl,_,.slc _ _ _ _ _ eb,h⟩
  |some z =>
   simp only[Option.map_none,Option.map_some]at h ⊢
   cases hi with
   |none=>simp at h
   |some zh =>
    split at h <;>try(cases h;done)
    rename_i m hq hm
    obtain⟨kz,hz⟩:=sO hm (he z)
    simp only[hz,Pn]
    split at h <;>try(cases h;done)
    rename_i h1 h2
    obtain⟨g1,g2,g3⟩:=QK eb h
    have h2:=bP h2
    cases cap with
    |ex c =>
     simp only[Option.map_some]at h2 ⊢
     rw[if_pos ⟨g1,g2,h2⟩]
     split at g3
     ·rename_i e1;rw[if_pos e1];exact⟨_,rfl,g3⟩
     ·rename_i e1;rw[if_neg e1];exact⟨_,rfl,g3⟩
    |op esz =>
     simp only[Option.map_some]at h2 ⊢
     rw[if_pos ⟨g1,g2,h2⟩]
     split at g3
     ·rename_i e1;rw[if_pos e1];exact⟨_,rfl,g3⟩
     ·rename_i e1;rw[if_neg e1];exact⟨_,rfl,g3⟩
 ·split at h <;>try(cases h;done)
  rename_i hl hh hmx
  cases hx
  have hl:=kH he hl
  have hh:=kH he hh
  have:mx=none:=by cases mx<;>first|rfl|cases hmx
  subst this
  simp only[bI,hl,hh,Option.map_none,Option.map_some]
  exact⟨_,rfl,_,.emp _ _,h⟩
 ·cases hx
  split at h <;>try(cases h;done)
  ·rename_i hl hh hmx
   have hl:=kH he hl
   have hh:=kH he hh
   have:mx=none:=by cases mx<;>first|rfl|cases hmx
   subst this
   simp only[bI,hl,hh,Option.map_none,Option.map_some]
   exact⟨_,rfl,_,.ns,h⟩
  ·rename_i y' hl hh hmx
   have hl:=kH he hl
   have hh:=kH he hh
   cases mx with
   |none=>cases hmx
   |some z =>
   cases hmx
   split at h <;>try(cases h;done)
   rename_i zh hm
   cases hi with
   |none=>simp at *
   |some zz =>
   obtain⟨kz,hz⟩:=sO hm (he z)
   simp only[Option.map_some]at hh
   simp only[bI,hl,hh,Option.map_some,hz,Pn]
   exact⟨_,rfl,_,.ns,h⟩
 ·split at h <;>try(cases h;done)
  rename_i k _ _ _ hl hh hm
  cases hx with|bs _ v eb =>
  have:lo=none:=by cases lo<;>first|rfl|cases hl
  subst this
  have:hi=none:=by cases hi<;>first|rfl|cases hh
  subst this
  have:mx=none:=by cases mx<;>first|rfl|cases hm
  subst this
  split at h <;>try(cases h;done)
  rename_i hk
  split at h <;>try(cases h;done)
  rename_i hmin
  have hmin:=bP hmin
  have h1:=hH.blk k
  rw[hk]at h1
  obtain⟨w,l,e1,e2,e3,e4⟩:=h1
  rw[e1]at eb;cases eb
  obtain⟨e5,_⟩:=e3 rfl
  have done:∀ w,E.sl k=some w→bI 1 w none none none=some w→∃ u,bI 1 w none none none=some u∧RK E K u:=fun w e f=>⟨w,f,_,.bs _ _ e,h⟩
  refine done _ e1 ?_
  have hp:1≤l.length:=Nat.le_trans hmin (bJ e2).1
  generalize fM l=cs at *
  generalize l.length=n at *
  cases e5 with
  |nil=>rfl
  |ex0 b o a1 a2 a3=>simp[bI,bnd]
  |op b n cs a1 a2 a3 a4 =>
   simp only[bI,bnd]
   rw[if_pos ⟨Nat.zero_le _,Nat.le_refl _,trivial⟩]
   split
   ·omega
   ·simp
end
section
variable {P:Program} {E:En} {K:KV} {V:VS} {T:TS} {H:SH} {M:RM} {o:Oper} {eX:Operand→XO} {e:Operand→AV}
theorem aG{p:Prop}(h:iA .bad V T H K=true):p:=(Bool.false_ne_true h).elim
theorem Vn(he:∀ z,SR E (ev (eX z) V T) (e z)){s:TypeId}{x:Operand}{f:Nat}(hop:o.op=.fieldAddr s x f)(h:iA (cV P o eX) V T H K=true):bi P o e M (RK E K):=by
 simp only[cV,hop]at h
 simp only[bi,hop]
 cases hu:P.underlying s with
 |none=>rw[hu]at h;exact aG h
 |some d =>
  rw[hu]at h
  cases d <;>try exact aG h
  rename_i fields
  dsimp only at h ⊢
  cases hf:fields[f]? with
  |none=>rw[hf]at h;exact aG h
  |some fd =>
   rw[hf]at h
   dsimp only at h ⊢
   cases hs:aL P fd.type with
   |none=>rw[hs]at h;exact aG h
   |some n =>
    rw[hs]at h
    cases n with
    |zero=>exact aG h
    |succ n=>exact akw (H:=H) (he x) h
theorem VZ(hH:HR E H M)(he:∀ z,SR E (ev (eX z) V T) (e z)){t:TypeId}{x ix:Operand}(hop:o.op=.indexAddr t x ix)(h:iA (cV P o eX) V T H K=true):bi P o e M (RK E K):=by
 simp only[cV,hop]at h
 simp only[bi,hop]
 cases hu:P.underlying t with
 |none=>rw[hu]at h;exact aG h
 |some d =>
  rw[hu]at h
  cases d <;>try exact aG h
  ·rename_i el
   dsimp only at h ⊢
   cases hs:aL P el with
   |none=>rw[hs]at h;exact aG h
   |some n=>rw[hs]at h;exact ahc hH (he x) (he ix) h
  ·rename_i len el
   dsimp only at h ⊢
   cases hs:aL P el with
   |none=>rw[hs]at h;exact aG h
   |some n=>rw[hs]at h;exact ah4 (H:=H) (he x) (he ix) h
theorem ahS(he:∀ z,SR E (ev (eX z) V T) (e z)){t:TypeId}{x:Operand}{f:Nat}(hop:o.op=.field t x f)(h:iA (cV P o eX) V T H K=true):bi P o e M (RK E K):=by
 simp only[cV,hop]at h
 simp only[bi,hop]
 cases hu:P.underlying t with
 |none=>rw[hu]at h;exact aG h
 |some d =>
  rw[hu]at h
  cases d <;>try exact aG h
  rename_i fields
  dsimp only at h ⊢
  cases hf:fields[f]? with
  |none=>rw[hf]at h;exact aG h
  |some fd =>
   rw[hf]at h
   dsimp only at h ⊢
   cases hs:bK P fd.type with
   |none=>rw[hs]at h;exact aG h
   |some q =>
    rw[hs]at h
    cases q with
    |false=>exact aeo (H:=H) (he x) h
    |true =>
     dsimp only at h ⊢
     cases hz:aL P fd.type with
     |none=>rw[hz]at h;exact aG h
     |some n=>rw[hz]at h;exact afi (H:=H) (he x) h
theorem ai5(he:∀ z,SR E (ev (eX z) V T) (e z)){t:TypeId}{x ix:Operand}(hop:o.op=.index t x ix)(h:iA (cV P o eX) V T H K=true):bi P o e M (RK E K):=by
 simp only[cV,hop]at h
 simp only[bi,hop]
 cases hu:P.underlying t with
 |none=>rw[hu]at h;exact aG h
 |some d =>
  rw[hu]at h
  cases d <;>try exact aG h
  ·exact agj (H:=H) (he x) (he ix) h
  ·rename_i len el
   dsimp only at h ⊢
   cases hs:bK P el with
   |none=>rw[hs]at h;exact aG h
   |some q =>
    rw[hs]at h
    cases q with
    |false =>
     dsimp only at h ⊢
     cases hz:aL P el with
     |none=>rw[hz]at h;exact aG h
     |some n =>
      rw[hz]at h
      match n,h with
      |0,h=>exact aG h
      |1,h=>exact afu (H:=H) (he x) (he ix) h
      |n+2,h=>exact aG h
    |true =>
     dsimp only at h ⊢
     cases hz:aL P el with
     |none=>rw[hz]at h;exact aG h
     |some n=>rw[hz]at h;exact aek (H:=H) (he x) (he ix) h
theorem X7(hH:HR E H M)(he:∀ z,SR E (ev (eX z) V T) (e z)){t:TypeId}{x:Operand}{lo hi mx:Option Operand}(hop:o.op=.slice t x lo hi mx)(h:iA (cV P o eX) V T H K=true):bi P o e M (RK E K):=by
 simp only[cV,hop]at h
 simp only[bi,hop]
 cases hu:P.underlying t with
 |none=>rw[hu]at h;exact aG h
 |some d =>
  rw[hu]at h
  cases d <;>try exact aG h
  ·cases mx with
   |none=>exact acS (H:=H) he (he x) h
   |some y=>exact aG h
  ·rename_i el
   dsimp only at h ⊢
   cases hs:aL P el with
   |none=>rw[hs]at h;exact aG h
   |some n=>rw[hs]at h;exact ajj hH he (he x) h
  ·rename_i len el
   dsimp only at h ⊢
   cases hs:aL P el with
   |none=>rw[hs]at h;exact aG h
   |some n =>
    rw[hs]at h
    cases mx with
    |none=>exact aiv (H:=H) he (he x) h
    |some y=>exact aG h
end
section
variable {P:Program} {E:En} {K:KV} {V:VS} {T:TS} {H:SH} {M:RM} {o:Oper} {eX:Operand→XO} {e:Operand→AV}
theorem apf(he:∀ z,SR E (ev (eX z) V T) (e z)){t:TypeId}{x:Operand}(hop:o.op=.sliceToArrayPointer t x)(h:iA (cV P o eX) V T H K=true):bi P o e M (RK E K):=by
 simp only[cV,hop]at h
 simp only[bi,hop]
 cases hu:P.underlying t with
 |none=>rw[hu]at h;exact aG h
 |some d =>
  rw[hu]at h
  cases d <;>try exact aG h
  exact afJ (H:=H) (he x) h
theorem aoZ(he:∀ z,SR E (ev (eX z) V T) (e z)){t:TypeId}{x:Operand}(hop:o.op=.makeInterface t x)(h:iA (cV P o eX) V T H K=true):bi P o e M (RK E K):=by
 simp only[cV,hop]at h
 simp only[bi,hop]
 cases hu:P.underlying t with
 |none=>rw[hu]at h;exact aG h
 |some d =>
  rw[hu]at h
  cases d<;>first|exact aG h|exact akR (H:=H) (he x) h
theorem apc(he:∀ z,SR E (ev (eX z) V T) (e z)){f:Fn}{xs ys:Array Operand}(hop:o.op=.makeFunc f xs ys)(h:iA (cV P o eX) V T H K=true):bi P o e M (RK E K):=by
 simp only[cV,hop]at h
 simp only[bi,hop]
 cases f <;>try exact aG h
 exact akI (H:=H) he h
theorem aeM(he:∀ z,SR E (ev (eX z) V T) (e z)){x:Operand}{s t:TypeId}{ok:Bool}(hop:o.op=.typeAssert x s t ok)(h:iA (cV P o eX) V T H K=true):bi P o e M (RK E K):=by
 simp only[cV,hop]at h
 simp only[bi,hop]
 cases hu:P.underlying t with
 |none=>rw[hu]at h;exact aG h
 |some d =>
  rw[hu]at h
  cases d<;>first|exact aG h|exact acd (H:=H) (he x) h
theorem akP(hH:HR E H M)(he:∀ z,SR E (ev (eX z) V T) (e z)){t:TypeId}{x:Operand}(hop:o.op=.load t x)(h:iA (cV P o eX) V T H K=true):bi P o e M (RK E K):=by
 simp only[cV,hop]at h
 simp only[bi,hop]
 cases hu:bK P t with
 |none=>rw[hu]at h;exact aG h
 |some d =>
  rw[hu]at h
  cases d with
  |false=>exact afP hH (he x) h
  |true =>
   dsimp only at h ⊢
   cases hz:aL P t with
   |none=>rw[hz]at h;exact aG h
   |some n=>rw[hz]at h;exact aen hH (he x) h
theorem afp(hH:HR E H M)(he:∀ z,SR E (ev (eX z) V T) (e z)){t:TypeId}{x k:Operand}{ok:Bool}(hop:o.op=.lookup t x k ok)(h:iA (cV P o eX) V T H K=true):bi P o e M (RK E K):=by
 simp only[cV,hop]at h
 simp only[bi,hop]
 cases hu:P.underlying t with
 |none=>rw[hu]at h;exact aG h
 |some d =>
  rw[hu]at h
  cases d <;>try exact aG h
  rename_i kt et
  dsimp only at h ⊢
  cases h1:il P 10 kt with
  |none=>rw[h1]at h;exact aG h
  |some ks =>
   cases h2:bK P kt with
   |none=>rw[h1,h2]at h;exact aG h
   |some a =>
    cases h3:Ug P et with
    |none=>rw[h1,h2,h3]at h;exact aG h
    |some z =>
     rw[h1,h2,h3]at h
     exact acD hH (Rp z) (he x) (he k) h
theorem asl(he:∀ z,SR E (ev (eX z) V T) (e z)){op:UnOp}{t:TypeId}{x:Operand}(hop:o.op=.unOp op t x)(h:iA (cV P o eX) V T H K=true):bi P o e M (RK E K):=by
 simp only[cV,hop]at h
 simp only[bi,hop]
 cases op<;>first|exact aG h|exact akS (H:=H) (he x) h|exact alA (H:=H) (he x) h|exact aej (H:=H) (he x) h
theorem arB(hH:HR E H M)(he:∀ z,SR E (ev (eX z) V T) (e z)){op:BinOp}{t u:TypeId}{x y:Operand}(hop:o.op=.binOp op t x y u)(h:iA (cV P o eX) V T H K=true):bi P o e M (RK E K):=by
 simp only[cV,hop]at h
 simp only[bi,hop]
 generalize xL P t=tag at h ⊢
 generalize hf:PI P t=fl at h ⊢
 cases hu:P.underlying t with
 |none =>
  rw[hu]at h
  cases tag with
  |zero=>cases op<;>exact aG h
  |succ tag=>cases op<;>first|exact aG h|exact ZQ hH rfl (he x) (he y) h
 |some d =>
  rw[hu]at h
  cases d
  case int k=>cases op<;>first|exact apg (H:=H) (he x) (he y) h|exact akB (H:=H) (he x) (he y) h
  case string=>exact alB (H:=H) (he x) (he y) h
  case bool=>cases op<;>first|exact aG h|exact als (H:=H) (he x) (he y) h
  case struct fs=>cases fl<;>cases op<;>first|exact aG h|exact alT (H:=H) (he x) (he y) h
  case array=>exact aG h
  all_goals
   cases tag with
   |zero=>cases op<;>exact aG h
   |succ tag=>cases op<;>first|exact aG h|exact ZQ hH rfl (he x) (he y) h
theorem alX(hH:HR E H M)(he:∀ z,SR E (ev (eX z) V T) (e z)){s d:TypeId}{x:Operand}(hop:o.op=.convert s d x)(h:iA (cV P o eX) V T H K=true):bi P o e M (RK E K):=by
 simp only[cV,hop]at h
 simp only[bi,hop]
 cases hs:P.underlying s with
 |none=>rw[hs]at h;exact aG h
 |some a =>
  cases hd:P.underlying d with
  |none=>rw[hs,hd]at h;cases a<;>exact aG h
  |some b =>
   rw[hs,hd]at h
   cases a
   case int k =>
    cases b<;>first|exact aG h|exact ald (H:=H) (he x) h
   case string =>
    cases b<;>first|exact aG h|exact alz (H:=H) (he x) h
   case slice el =>
    cases b <;>try exact aG h
    dsimp only at h ⊢
    cases hu:P.underlying el with
    |none=>rw[hu]at h;exact aG h
    |some u =>
     rw[hu]at h
     cases u <;>try exact aG h
     rename_i k
     cases k<;>first|exact aG h|exact ad2 hH (he x) h
   case pointer t =>
    cases b <;>try exact aG h
    dsimp only at h ⊢
    cases hz:aL P t with
    |none=>rw[hz]at h;exact aG h
    |some n =>
     rw[hz]at h
     cases n<;>first|exact aG h|exact ahC hH (he x) h
   case unsafePointer =>
    cases b <;>try exact aG h
    rename_i u
    dsimp only at h ⊢
    cases hz:aL P u with
    |none=>rw[hz]at h;exact aG h
    |some n =>
     rw[hz]at h
     cases n with
     |zero=>exact aG h
     |succ n =>
      cases h1:Nat.ble 1 (P.cellsOf u)<;>cases h2:liesAt P P.depth u 1 0 u 1<;>rw[h1,h2]at h<;>first|exact aG h|exact ah8 hH (he x) h
   all_goals (cases b<;>exact aG h)
theorem vB(hH:HR E H M)(he:∀ z,SR E (ev (eX z) V T) (e z))(hop:(∃ x,o.op=.move x∨o.op=.assign x)∨(∃ c x y,o.op=.pick c x y)∨(∃ x,o.op=.nilCheck x)∨(∃ x i,o.op=.extract x i)∨∃ x,o.op=.entry x)(h:iA (cV P o eX) V T H K=true):bi P o e M (RK E K):=by
 rcases hop with⟨x,hop|hop⟩|⟨c,x,y,hop⟩|⟨x,hop⟩|⟨x,i,hop⟩|⟨x,hop⟩<;>simp only[cV,hop]at h<;>simp only[bi,hop]
 ·exact ZU (H:=H) (he x) h
 ·exact ZU (H:=H) (he x) h
 ·exact ah1 (H:=H) (he c) (he x) (he y) h
 ·exact afr (H:=H) (he x) h
 ·exact alo (H:=H) (he x) h
 ·exact aeR hH (he x) h
end
section
variable {P:Program} {E:En} {K:KV} {V:VS} {T:TS} {H:SH} {M:RM} {o:Oper} {eX:Operand→XO} {e:Operand→AV}
theorem aan{pl:Nat→Option (Nat×Nat)}{gX:Nat×Operand→Option (Nat×Nat×XO)}{g:Nat×Operand→Option (Nat×Nat×AV)}(h1:∀ p,gX p=(pl p.1).map fun q=>(q.1,q.2,eX p.2))(h2:∀ p,g p=(pl p.1).map fun q=>(q.1,q.2,e p.2)) :
  ∀ (l:List (Nat×Operand)){ps:List (Nat×Nat×XO)},bW gX l=some ps→∃ qs:List (Nat×Nat×Operand),ps=qs.map (fun q=>(q.1,q.2.1,eX q.2.2))∧bW g l=some (qs.map fun q=>(q.1,q.2.1,e q.2.2))
 |[],ps,h=>by cases h;exact⟨[],rfl,rfl⟩
 |p::l,ps,h=>by
  simp only[bW,h1]at h
  cases hp:pl p.1 with
  |none=>rw[hp]at h;cases h
  |some q =>
   rw[hp]at h
   simp only[Option.map_some]at h
   split at h <;>try(cases h;done)
   rename_i ys hys
   cases h
   obtain⟨qs,e1,e2⟩:=aan h1 h2 l hys
   refine⟨(q.1,q.2,p.2)::qs,by rw[e1];rfl, ?_⟩
   simp only[bW,h2,hp,Option.map_some,e2,List.map]
theorem aiz(he:∀ z,SR E (ev (eX z) V T) (e z)){t:TypeId}{parts:Array (Nat×Operand)}(hop:o.op=.build t parts)(h:iA (cV P o eX) V T H K=true):bi P o e M (RK E K):=by
 simp only[cV,hop]at h
 simp only[bi,hop]
 cases hi:P.info? t with
 |none=>rw[hi]at h;exact aG h
 |some it =>
  cases hu:P.underlying t with
  |none=>rw[hi,hu]at h;exact aG h
  |some d =>
   rw[hi,hu]at h
   cases d <;>try exact aG h
   ·rename_i n el
    dsimp only at h ⊢
    cases hz:it.zero with
    |none=>rw[hz]at h;exact aG h
    |some z =>
     cases hl:P.info? el with
     |none=>rw[hz,hl]at h;exact aG h
     |some ie =>
      rw[hz,hl]at h
      dsimp only at h ⊢
      cases hv:gy z with
      |none=>rw[hv]at h;exact aG h
      |some av =>
       rw[hv]at h
       cases av <;>try exact aG h
       rename_i cs
       have key:=Td (H:=H) (K:=K) (cs:=cs.map Er) (vs:=cs) he (ps:=parts.toList.map fun p=>(p.1*ie.size,ie.size,p.2)) (AL cs)
       rw[List.map_map,List.map_map]at key
       exact key h
   ·rename_i fields
    dsimp only at h ⊢
    cases hz:it.zero with
    |none=>rw[hz]at h;exact aG h
    |some z =>
     cases hl:(fields.toList.mapM (fun f=>(P.info? f.type).map fun i=>(f.offset,i.size)))with
     |none=>rw[hz,hl]at h;exact aG h
     |some places =>
      rw[hz,hl]at h
      dsimp only at h ⊢
      cases hv:gy z with
      |none=>rw[hv]at h;exact aG h
      |some av =>
       rw[hv]at h
       cases av <;>try exact aG h
       rename_i cs
       split at h <;>try exact aG h
       rename_i cs2 ps hcs hps
       cases hcs
       obtain⟨qs,e1,h2⟩:=aan (pl:=nth places) (e:=e) (g:=fun(p:Nat×Operand)=>match nth places p.1 with|some pl=>some (pl.1,pl.2,e p.2)|none=>none) (fun p=>by cases nth places p.1<;>rfl) (fun p=>by cases nth places p.1<;>rfl) _ hps
       rw[e1]at h
       have key:=Td (H:=H) (K:=K) he (AL _) h
       split
       ·rename_i cs3 ps3 awr aAv
        cases awr
        have e3:=aAv.symm.trans h2
        cases e3
        exact key
       ·rename_i hno
        exact(hno _ _ rfl h2).elim
theorem al6(hH:HR E H M)(he:∀ z,SR E (ev (eX z) V T) (e z)){c:Call}(hop:o.op=.call c)(hne:∀ mx xs,cV P o eX≠.mnL mx xs)(h:iA (cV P o eX) V T H K=true):bi P o e M (RK E K):=by
 simp only[cV,hop]at h hne
 simp only[bi,hop]
 obtain⟨callee,args,ts⟩:=c
 cases callee <;>try exact aG h
 rename_i b
 cases b <;>try exact aG h
 case len =>
  dsimp only at h ⊢
  cases h1:ts[0]? with
  |none=>rw[h1]at h;exact aG h
  |some t =>
   cases h2:args[0]? with
   |none=>rw[h1,h2]at h;exact aG h
   |some x =>
    rw[h1,h2]at h
    dsimp only at h ⊢
    cases hu:P.underlying t with
    |none=>rw[hu]at h;exact aG h
    |some d =>
     rw[hu]at h
     cases d<;>first|exact aG h|exact alj hH (he x) h|exact aje (H:=H) (he x) h|exact agS hH (he x) h
 case cap =>
  dsimp only at h ⊢
  cases h1:ts[0]? with
  |none=>rw[h1]at h;exact aG h
  |some t =>
   cases h2:args[0]? with
   |none=>rw[h1,h2]at h;exact aG h
   |some x =>
    rw[h1,h2]at h
    dsimp only at h ⊢
    cases hu:P.underlying t with
    |none=>rw[hu]at h;exact aG h
    |some d =>
     rw[hu]at h
     cases d<;>first|exact aG h|exact alg (H:=H) (he x) h
 case unsafeSliceData =>
  obtain⟨l⟩:=args
  match l,h with
  |[],h=>exact aG h
  |[x],h=>exact afE hH (he x) h
  |_::_::_,h=>exact aG h
 case min =>
  obtain⟨l⟩:=args
  match l,h,hne with
  |[],h,hne=>exact absurd rfl (hne _ _)
  |[x],h,hne=>exact absurd rfl (hne _ _)
  |[x,y],h,hne=>exact aem (H:=H) (he x) (he y) h
  |_::_::_::_,h,hne=>exact absurd rfl (hne _ _)
 case max =>
  obtain⟨l⟩:=args
  match l,h,hne with
  |[],h,hne=>exact absurd rfl (hne _ _)
  |[x],h,hne=>exact absurd rfl (hne _ _)
  |[x,y],h,hne=>exact aem (H:=H) (he x) (he y) h
  |_::_::_::_,h,hne=>exact absurd rfl (hne _ _)
end
section
variable {P:Program} {E:En} {K:KV} {V:VS} {T:TS} {H:SH} {M:RM} {o:Oper} {eX:Operand→XO} {e:Operand→AV}
theorem eD{K:AV→Prop}(h:bi P o e M K):qW P o e M K:=wN h
theorem alk(he:∀ z,SR E (ev (eX z) V T) (e z)){x y z:Operand}{ts:Array TypeId}(hop:o.op=.call ⟨.builtin .min,⟨[x,y,z]⟩,ts⟩)(h:Qs false [eX x,eX y,eX z] V T H K=true):qW P o e M (RK E K):=by
 have hx:=he x;have hy:=he y;have hz:=he z
 unfold Qs at h
 dsimp only at h
 generalize ev (eX x) V T=sx at *
 generalize ev (eX y) V T=sy at *
 generalize ev (eX z) V T=sz at *
 split at h <;>try(cases h;done)
 split at h <;>try(cases h;done)
 rename_i k a l b m c _ _ h1 h2
 cases jM h1;cases jM h2
 generalize ha:e x=ax at *
 generalize hb:e y=ay at *
 generalize hc:e z=az at *
 cases hx;cases hy;cases hz
 rw[KG,KG]at h
 refine⟨_,aN ?_,iG h⟩
 simp only[aK,hop]
 refine ko (l:=[.int k a,.int k b,.int k c]) (by rw[hop];simp[Op.operands,Call.operands,bW,ha,hb,hc,bZ,toCell]) (u:=.int k (if c<(if b<a then b else a)then c else(if b<a then b else a))) ?_ rfl
 simp only[execOp,hop,resolve,invoke,builtin]
 rw[show(Array.map (fun x=>(bZ (e x)).getD default) ⟨[x,y,z]⟩) = #[.int k a,.int k b,.int k c] by simp[ha,hb,hc,bZ,toCell]]
 rfl
theorem ak2(he:∀ z,SR E (ev (eX z) V T) (e z)){x y z:Operand}{ts:Array TypeId}(hop:o.op=.call ⟨.builtin .max,⟨[x,y,z]⟩,ts⟩)(h:Qs true [eX x,eX y,eX z] V T H K=true):qW P o e M (RK E K):=by
 have hx:=he x;have hy:=he y;have hz:=he z
 unfold Qs at h
 dsimp only at h
 generalize ev (eX x) V T=sx at *
 generalize ev (eX y) V T=sy at *
 generalize ev (eX z) V T=sz at *
 split at h <;>try(cases h;done)
 split at h <;>try(cases h;done)
 rename_i k a l b m c _ _ h1 h2
 cases jM h1;cases jM h2
 generalize ha:e x=ax at *
 generalize hb:e y=ay at *
 generalize hc:e z=az at *
 cases hx;cases hy;cases hz
 rw[KG,KG]at h
 refine⟨_,aN ?_,iG h⟩
 simp only[aK,hop]
 refine ko (l:=[.int k a,.int k b,.int k c]) (by rw[hop];simp[Op.operands,Call.operands,bW,ha,hb,hc,bZ,toCell]) (u:=.int k (if c>(if b>a then b else a)then c else(if b>a then b else a))) ?_ rfl
 simp only[execOp,hop,resolve,invoke,builtin]
 rw[show(Array.map (fun x=>(bZ (e x)).getD default) ⟨[x,y,z]⟩) = #[.int k a,.int k b,.int k c] by simp[ha,hb,hc,bZ,toCell]]
 rfl
theorem ap3(he:∀ z,SR E (ev (eX z) V T) (e z)){mx:Bool}{xs:List Operand}{ts:Array TypeId}(hop:o.op=.call ⟨.builtin (match mx with|true=>.max|false=>.min),⟨xs⟩,ts⟩)(h:Qs mx (xs.map eX) V T H K=true):qW P o e M (RK E K):=by
 match xs,h,hop with
 |[],h,hop=>exact(Bool.false_ne_true h).elim
 |[x],h,hop=>exact(Bool.false_ne_true h).elim
 |[x,y],h,hop=>exact(Bool.false_ne_true h).elim
 |[x,y,z],h,hop=>cases mx with
  |true=>exact ak2 he hop h
  |false=>exact alk he hop h
 |_::_::_::_::_,h,hop=>exact(Bool.false_ne_true h).elim
theorem acH(hH:HR E H M)(he:∀ z,SR E (ev (eX z) V T) (e z)){c:Call}(hop:o.op=.call c)(h:iA (cV P o eX) V T H K=true):qW P o e M (RK E K):=by
 by_cases hne:∀ mx xs,cV P o eX≠.mnL mx xs
 ·exact eD (al6 hH he hop hne h)
 ·obtain⟨callee,args,ts⟩:=c
  obtain⟨l⟩:=args
  have two:∀ mx:Bool,callee=.builtin (match mx with|true=>.max|false=>.min)→iA (.mnL mx (l.map eX)) V T H K=true→qW P o e M (RK E K):=fun mx e1 hh=>ap3 (H:=H) (mx:=mx) he (by rw[hop,e1]) hh
  simp only[cV,hop]at h hne
  cases callee <;>try exact aG h
  rename_i b
  cases b <;>try exact aG h
  case len=>exfalso;apply hne;intro mx xs hc;dsimp only at hc;split at hc <;>try(cases hc;done)
            split at hc<;>cases hc
  case cap=>exfalso;apply hne;intro mx xs hc;dsimp only at hc;split at hc <;>try(cases hc;done)
            split at hc<;>cases hc
  case unsafeSliceData=>exfalso;apply hne;intro mx xs hc;dsimp only at hc;split at hc<;>cases hc
  case min =>
   match l,h,hne,two with
   |[],h,hne,two=>exact two false rfl h
   |[x],h,hne,two=>exact two false rfl h
   |[x,y],h,hne,two=>exact(hne fun _ _ hc=>by cases hc).elim
   |_::_::_::_,h,hne,two=>exact two false rfl h
  case max =>
   match l,h,hne,two with
   |[],h,hne,two=>exact two true rfl h
   |[x],h,hne,two=>exact two true rfl h
   |[x,y],h,hne,two=>exact(hne fun _ _ hc=>by cases hc).elim
   |_::_::_::_,h,hne,two=>exact two true rfl h
theorem abK(hH:HR E H M)(he:∀ z,SR E (ev (eX z) V T) (e z))(h:iA (cV P o eX) V T H K=true):qW P o e M (RK E K):=by
 have hh:=h
 cases hop:o.op
 case move x=>exact eD (vB hH he (.inl ⟨x,.inl hop⟩) h)
 case assign x=>exact eD (vB hH he (.inl ⟨x,.inr hop⟩) h)
 case pick c x y=>exact eD (vB hH he (.inr (.inl ⟨c,x,y,hop⟩)) h)
 case nilCheck x=>exact eD (vB hH he (.inr (.inr (.inl ⟨x,hop⟩))) h)
 case extract x i=>exact eD (vB hH he (.inr (.inr (.inr (.inl ⟨x,i,hop⟩)))) h)
 case entry x=>exact eD (vB hH he (.inr (.inr (.inr (.inr ⟨x,hop⟩)))) h)
 case fieldAddr s x f=>exact eD (Vn he hop h)
 case indexAddr t x i=>exact eD (VZ hH he hop h)
 case field t x f=>exact eD (ahS he hop h)
 case index t x i=>exact eD (ai5 he hop h)
 case slice t x lo hi mx=>exact eD (X7 hH he hop h)
 case sliceToArrayPointer t x=>exact eD (apf he hop h)
 case makeInterface t x=>exact eD (aoZ he hop h)
 case makeFunc f xs ys=>exact eD (apc he hop h)
 case build t ps=>exact eD (aiz he hop h)
 case binOp op t x y u=>exact eD (arB hH he hop h)
 case convert s d x=>exact eD (alX hH he hop h)
 case unOp op t x=>exact eD (asl he hop h)
 case lookup t x k ok=>exact eD (afp hH he hop h)
 case typeAssert x s t ok=>exact eD (aeM he hop h)
 case load t x=>exact eD (akP hH he hop h)
 case call c=>exact acH hH he hop h
 all_goals (simp only[cV,hop]at hh;exact aG hh)
end
section
variable {P:Program} {E:En} {K:KV} {V:VS} {T:TS} {H:SH} {M:RM} {o:Oper} {eX:Operand→XO} {e:Operand→AV}
def NOk(E:En)(x:Bk)(mks:Ky→SV)(rb:RB)(mk:Nat→AV):Prop :=
 ∀ H M,HR E H M→∃ E',E.le E'∧HR E' (hpush H x) (M.push rb)∧SR E' (mks H.nx) (mk M.next)∧E'.bl H.nx=some M.next
inductive NR(E:En):Bk→(Ky→SV)→RB→(Nat→AV)→Prop
 |row (l:List SV) (cs:List AV) (el:Nat) (mks:Ky→SV) (mk:Nat→AV):aP E l cs→cs.all oneCell=true→(∀ (E' : En)(k:Ky)(b:Nat),E'.bl k=some b→SR E' (mks k) (mk b))→(∀ k,mks k≠.undef)→NR E (.row l false el) mks (.row cs false el 0) mk
 |map:NR E (.map [] 0) .map (.map [] 0) .map
 |byt (x:SB) (l:bQ) (el:Nat):bG E.g x l→NR E (.byt x true el) .bs (.row (fM l) true el 0) (fun b=>.slc b 0 l.length (.op 1))
theorem mR(M:RM)(rb:RB):(M.push rb).heap M.next=some rb:=by simp[RM.push]
theorem wE(M:RM)(rb:RB){b:Nat}(h:b<M.next):(M.push rb).heap b=M.heap b:=by
 simp only[RM.push];rw[if_neg (by omega)]
theorem dh(E:En)(k:Ky)(b:Nat):(E.kU k b).bl k=some b:=by simp[En.kU]
theorem alJ{l:List SV}{cs:List AV}{el:Nat}{mks:Ky→SV}{mk:Nat→AV}(hl:aP E l cs)(ho:cs.all oneCell=true)(hm:∀ (E' : En)(k:Ky)(b:Nat),E'.bl k=some b→SR E' (mks k) (mk b)):NOk E (.row l false el) mks (.row cs false el 0) mk:=by
 intro H M h
 have hle:E.le (E.kU H.nx M.next):=En.vG (h.new _ (Nat.le_refl _)).1
 have hr:=h.push (M':=M.push (.row cs false el 0)) (y:=.row l false el) rfl rfl (fun b hb=>wE _ _ hb) ⟨M.next,cs,dh _ _ _,Nat.lt_succ_self _,mR _ _,hl.mono hle,ho⟩ (by intro c hc;simp only[bR,dh]at hc;simpa using hc)
 exact⟨_,hr.1,hr.2,hm _ _ _ (dh _ _ _),dh _ _ _⟩
theorem alm:NOk E (.map [] 0) .map (.map [] 0) .map:=by
 intro H M h
 have hr:=h.push (M':=M.push (.map [] 0)) (y:=.map [] 0) rfl rfl (fun b hb=>wE _ _ hb) ⟨M.next,[],dh _ _ _,Nat.lt_succ_self _,mR _ _,.nil⟩ (by intro c hc;simp only[bR,dh]at hc;simpa using hc)
 exact⟨_,hr.1,hr.2,.map _ _ (dh _ _ _),dh _ _ _⟩
theorem HR.as3{E' : En}{M' : RM}(h:HR E H M)(hle:E.le E')(hq:∀ q,q.nat≠H.nx.nat→E'.bl q=E.bl q∧E'.sl q=E.sl q){y:Bk}(hb:M'.base=M.base)(hn:M'.next=M.next+1)(hh:∀ b,b<M.next→M'.heap b=M.heap b)(hy:BR E' M' H.nx y)(ho:∀ c∈bR E' H.nx y,c=M.next):HR E' (hpush H y) M':=by
 refine⟨fun q=>?_,fun q q' b hq hq'=>?_,fun q b hq=>?_,fun q hq'=>?_,(hb.trans h.base).trans hle.bs.symm⟩
 ·rw[fq]
  split
  ·rename_i e;rw[bF _ _ e];exact hy
  ·exact(h.blk q).keep hle hb (by omega) fun b _ hlt=>hh b hlt
 ·rw[fq]at hq hq'
  split at hq<;>split at hq'
  ·rename_i e e';exact bF _ _ (by omega)
  ·rename_i e e'
   rw[bF _ _ e]at hq
   rw[dJ (h.blk q') hle]at hq'
   have:=ho b hq
   have:=h.lt q' b hq'
   omega
  ·rename_i e e'
   rw[bF _ _ e']at hq'
   rw[dJ (h.blk q) hle]at hq
   have:=ho b hq'
   have:=h.lt q b hq
   omega
  ·rw[dJ (h.blk q) hle]at hq
   rw[dJ (h.blk q') hle]at hq'
   exact h.sep q q' b hq hq'
 ·rw[fq]at hq
  split at hq
  ·rename_i e
   rw[bF _ _ e]at hq
   have:=ho b hq
   omega
  ·rw[dJ (h.blk q) hle]at hq
   have:=h.lt q b hq
   omega
 ·rw[uV]at hq'
  have:=h.new q (by omega)
  rw[(hq q (by omega)).1,(hq q (by omega)).2]
  exact this
def En.DW(E:En)(k:Ky)(b n:Nat):En :=
 { E with bl:=fun q=>if q.nat=k.nat then some b else E.bl q,sl:=fun q=>if q.nat=k.nat then some (.slc b 0 n (.op 1))else E.sl q,sl1:=fun q v h=>(by
     split at h
     ·cases h;exact⟨rfl,rfl,rfl⟩
     ·exact E.sl1 q v h) }
theorem En.alE{k:Ky}{b n:Nat}(h:E.bl k=none∧E.sl k=none):E.le (E.DW k b n):=⟨rfl,fun q c hq=>(by
 simp only[En.DW];rw[if_neg];exact hq
 intro e;rw[bF _ _ e,h.1]at hq;cases hq),fun q c hq=>(by
 simp only[En.DW];rw[if_neg];exact hq
 intro e;rw[bF _ _ e,h.2]at hq;cases hq),rfl⟩
theorem aeL{x:SB}{l:bQ}{el:Nat}(d:bG E.g x l):NOk E (.byt x true el) .bs (.row (fM l) true el 0) (fun b=>.slc b 0 l.length (.op 1)):=by
 intro H M h
 have hle:E.le (E.DW H.nx M.next l.length):=En.alE (h.new _ (Nat.le_refl _))
 have hbl:(E.DW H.nx M.next l.length).bl H.nx=some M.next:=by simp[En.DW]
 have hsl:(E.DW H.nx M.next l.length).sl H.nx=some (.slc M.next 0 l.length (.op 1)):=by simp[En.DW]
 have hown:Own (M.push (.row (fM l) true el 0)) 0 el 1 (.slc M.next 0 l.length (.op 1)) (fM l) l.length:=.op _ _ _ (Nat.zero_le _) (Nat.lt_succ_self _) (mR _ _) (by rw[Nat.mul_one];exact qd l)
 refine⟨_,hle,h.as3 hle (fun q hq=>⟨by simp only[En.DW];rw[if_neg hq],by simp only[En.DW];rw[if_neg hq]⟩) rfl rfl (fun b hb=>wE _ _ hb) ⟨_,l,hsl,d,fun _=>⟨hown,fun b hb=>?_⟩,hown.E5⟩ ?_,.bs _ _ hsl,hbl⟩
 ·have:b=M.next:=by simpa [aJ]using hb
  rw[this];exact hbl
 ·intro c hc
  simp only[bR,hsl]at hc
  simpa [aJ]using hc
theorem NR.nok{x:Bk}{mks:Ky→SV}{rb:RB}{mk:Nat→AV}(h:NR E x mks rb mk):NOk E x mks rb mk:=by
 cases h with
 |row l cs el _ _ h1 h2 h3 _=>exact alJ h1 h2 h3
 |map=>exact alm
 |byt x l el h1=>exact aeL h1
end
section
variable {P:Program} {E:En} {V:VS} {T:TS} {o:Oper} {eX:Operand→XO} {e:Operand→AV} {C:KN}
def NK(E:En)(C:KN)(rb:RB)(mk:Nat→AV):Prop:=∃ x mks,NR E x mks rb mk∧C x mks=true
theorem Ap:∀ l:List SV,iy l=l.length
 |[]=>rfl
 |_::l=>by simp only[iy,List.length_cons,Ap l]
theorem Jt{t:Nat}{zs:List SV}(h:Ve P t=some zs):∃ vs,gZ P t=some vs∧aP E zs vs∧vs.all oneCell=true:=by
 unfold Ve at h
 split at h <;>try(cases h;done)
 rename_i l hl
 split at h <;>try(cases h;done)
 rename_i h1
 cases h
 exact⟨l,hl,AL l,nu (AL (E:=E) l) h1⟩
theorem Fe{zs:List SV}{vs:List AV}(h:aP E zs vs):∀ n,aP E (AJ zs n) (eu vs n)
 |0=>.nil
 |n+1=>h.rZ (Fe h n)
theorem WM{vs:List AV}(h:vs.all oneCell=true):∀ n,(eu vs n).all oneCell=true
 |0=>rfl
 |n+1=>by simp only[eu,List.all_append,h,WM h n,Bool.and_self]
theorem Rz(he:∀ z,SR E (ev (eX z) V T) (e z)):∀ (ps:List (Nat×Nat×Operand)){cs:List SV}{vs:List AV}{ys:List SV},aP E cs vs→zK V T cs (ps.map fun p=>(p.1,p.2.1,eX p.2.2))=some ys→∃ us,wH vs (ps.map fun p=>(p.1,p.2.1,e p.2.2))=some us∧aP E ys us
 |[],cs,vs,ys,h,hf=>by simp only[List.map,zK]at hf;cases hf;exact⟨vs,rfl,h⟩
 |(off,size,z)::r,cs,vs,ys,h,hf=>by
  simp only[List.map,zK]at hf
  split at hf <;>try(cases hf;done)
  rename_i h1 h2 h3
  have hc:=SR.cells (he z) (Ie h1)
  have hs:=bB h2
  rw[hc.length]at hs
  obtain⟨g1,g2⟩:=aP.pz off h hc h3
  rw[hs]at g1 g2
  obtain⟨us,k1,k2⟩:=Rz he r g2 hf
  refine⟨us, ?_,k2⟩
  simp only[List.map,wH]
  rw[if_pos ⟨nu hc h1,hs,g1⟩]
  exact k1
theorem aab(E' : En)(k:Ky)(b:Nat)(h:E'.bl k=some b):SR E' (ab5 k) (.ptr b 0):=.ptr _ _ _ h
theorem Z5(k:Ky):ab5 k≠.undef:=by intro h;cases h
theorem fF{p:Prop}(h:runN .bad V T C=true):p:=(Bool.false_ne_true h).elim
theorem al3{t:Nat}{x:XO}{a:AV}(hx:SR E (ev x V T) a)(h:agh t x V T C=true):Bj t a (NK E C):=by
 unfold agh at h
 generalize ev x V T=sx at *
 split at h <;>try(cases h;done)
 rename_i v vs hv
 split at h <;>try(cases h;done)
 rename_i hl
 rw[← hv]at h hl
 have hc:=SR.cells hx (Ie hl)
 have ho:=nu hc hl
 refine⟨ho, ?_,_,_,NR.row _ _ _ _ _ hc ho aab Z5,h⟩
 rw[← hc.length,hv]
 exact Nat.succ_le_succ (Nat.zero_le _)
theorem ac2{elem bytes:Nat}{zs:List SV}{vs:List AV}{x y:XO}{a b:AV}(hz:aP E zs vs)(ho:vs.all oneCell=true)(hx:SR E (ev x V T) a)(hy:SR E (ev y V T) b)(h:Qu elem bytes zs x y V T C=true):ajI elem bytes vs a b (NK E C):=by
 unfold Qu at h
 generalize ev x V T=sx at *
 generalize ev y V T=sy at *
 split at h <;>try(cases h;done)
 rename_i l c hl hc
 split at h <;>try(cases h;done)
 rename_i h1 h2 h3
 obtain⟨kl,rfl⟩:=sO hl hx
 obtain⟨kc,rfl⟩:=sO hc hy
 have h1:=bP h1
 have h2:=bP h2
 have h3:=bP h3
 refine⟨kl,kc,l,c,rfl,rfl,by omega,by omega,by simpa using h2,by simpa using h3,_,_,NR.row _ _ _ _ _ (Fe hz c) (WM ho c) ?_ (fun k hk=>by cases hk),h⟩
 intro E' k b hb
 exact .slc _ _ _ _ _ hb
theorem acL(he:∀ z,SR E (ev (eX z) V T) (e z))(h:runN (cN P o eX) V T C=true):kK P o e (NK E C):=by
 have hh:=h
 cases hop:o.op
 case alloc t =>
  simp only[cN,hop]at h
  simp only[kK,hop]
  split at h <;>try exact fF h
  rename_i zs hz
  split at h <;>try exact fF h
  rename_i hl
  obtain⟨vs,h1,h2,h3⟩:=Jt (E:=E) hz
  rw[h1]
  dsimp only
  have:zs.length=vs.length:=by rw[← Ap,h2.length]
  rw[← this,hl]
  exact⟨_,_,NR.row _ _ _ _ _ h2 h3 aab Z5,h⟩
 case box t x =>
  simp only[cN,hop]at h
  simp only[kK,hop]
  exact al3 (he x) h
 case makeMap t r =>
  simp only[cN,hop]at h
  simp only[kK,hop]
  cases r with
  |none=>exact⟨_,_,NR.map,h⟩
  |some r=>exact fF h
 case convert s d x =>
  simp only[cN,hop]at h
  simp only[kK,hop]
  cases hs:P.underlying s with
  |none=>rw[hs]at h;exact fF h
  |some a =>
   cases hd:P.underlying d with
   |none=>rw[hs,hd]at h;cases a<;>exact fF h
   |some b =>
    rw[hs,hd]at h
    cases a <;>try exact fF h
    cases b <;>try exact fF h
    rename_i el
    dsimp only at h ⊢
    cases hu:P.underlying el with
    |none=>rw[hu]at h;exact fF h
    |some u =>
     cases hz:aL P el with
     |none=>rw[hu,hz]at h;cases u<;>first|exact fF h|(rename_i k;cases k<;>exact fF h)
     |some n =>
      rw[hu,hz]at h
      cases u <;>try exact fF h
      rename_i k
      cases k <;>try exact fF h
      match n,h with
      |0,h=>exact fF h
      |n+2,h=>exact fF h
      |1,h =>
       have h:YD el (eX x) V T C=true:=h
       have hx:=he x
       unfold YD at h
       generalize ev (eX x) V T=sx at *
       split at h <;>try(cases h;done)
       generalize e x=ax at *
       cases hx with|s _ l dd=>exact⟨l,rfl,_,_,NR.byt _ _ _ dd,h⟩
 case makeSlice t l c =>
  simp only[cN,hop]at h
  simp only[kK,hop]
  split at h <;>try exact fF h
  rename_i elem hu
  split at h <;>try exact fF h
  rename_i size bytes zs h1 h2 h3
  split at h <;>try exact fF h
  rename_i g1 g2
  obtain⟨vs,e1,e2,e3⟩:=Jt (E:=E) h3
  have e4:zs.length=vs.length:=by rw[← Ap,e2.length]
  rw[e4]at g2
  simp only[hu,h1,h2,e1,g1,g2]
  exact ac2 e2 e3 (he l) (he c) h
 case buildSlice t len parts =>
  simp only[cN,hop]at h
  simp only[kK,hop]
  split at h <;>try exact fF h
  rename_i elem hu
  split at h <;>try exact fF h
  rename_i size zs h1 h2
  split at h <;>try exact fF h
  rename_i g1 g2 g3
  obtain⟨vs,e1,e2,e3⟩:=Jt (E:=E) h2
  have e4:zs.length=vs.length:=by rw[← Ap,e2.length]
  rw[e4]at g2
  simp only[hu,h1,e1,g1,g2,g3]
  have h:QW elem len zs (parts.toList.map fun p=>(p.1*size,size,eX p.2)) V T C=true:=h
  unfold QW at h
  split at h <;>try(cases h;done)
  rename_i l hl
  split at h <;>try(cases h;done)
  rename_i ho
  have key:=fun ys=>Rz (E:=E) (e:=e) he (parts.toList.map fun p=>(p.1*size,size,p.2)) (ys:=ys) (Fe e2 len)
  simp only[List.map_map]at key
  obtain⟨us,k1,k2⟩:=key l hl
  exact⟨us,k1,_,_,NR.row _ _ _ _ _ k2 (nu k2 ho) (fun E' k b hb=>.slc _ _ _ _ _ hb) (fun k hk=>by cases hk),h⟩
 all_goals (simp only[cN,hop]at hh;exact fF hh)
end
section
variable {P:Program} {E:En} {V:VS} {T:TS} {H H' : SH} {M:RM} {K:KS} {o:Oper} {eX:Operand→XO} {e:Operand→AV}
def HK(E:En)(K:KS)(v:AV)(M:RM):Prop:=∃ E' sv H',E.le E'∧HR E' H' M∧SR E' sv v∧K sv H'=true
theorem dN{sv:SV}{v:AV}(hH:HR E H M)(hv:SR E sv v)(h:K sv H=true):HK E K v M:=⟨E,sv,H,.refl E,hH,hv,h⟩
theorem nz(M:RM)(b:Nat)(x:RB):(M.put b x).heap b=some x:=by simp[RM.put]
theorem PW(M:RM){b c:Nat}(x:RB)(h:c≠b):(M.put b x).heap c=M.heap c:=by simp only[RM.put];rw[if_neg h]
theorem tZ(hH:HR E H M){k:Ky}{p:Nat}{vs:List SV}{us:List AV}(h:zD H k p vs=some H')(hv:aP E vs us){b:Nat}(hb:E.bl k=some b):∃ M',M.stores b p us=some M'∧HR E H' M':=by
 unfold zD at h
 split at h <;>try(cases h;done)
 rename_i hl
 split at h <;>try(cases h;done)
 rename_i l opn el hk
 split at h <;>try(cases h;done)
 rename_i l' hp
 cases h
 have h1:=hH.blk k
 rw[hk]at h1
 obtain⟨b',cs,e1,e2,e3,e4,e5⟩:=h1
 rw[hb]at e1;cases e1
 obtain⟨g1,g2⟩:=aP.pz p e4 hv hp
 have ho:=nu hv hl
 refine⟨_,RM.Gg e3 g1 (Nat.zero_le _) ho,hH.put rfl rfl (fun c hc=>PW _ _ fun hcb=>hc (by rw[hk];simp[bR,hb,hcb])) ⟨b,_,hb,e2,nz _ _ _,g2, ?_⟩ (fun c hc=>by rw[hk];exact hc)⟩
 rw[List.all_append,List.all_append,ho]
 have t1:(cs.take p).all oneCell=true:=List.all_eq_true.2 fun x hx=>List.all_eq_true.1 e5 x (List.mem_of_mem_take hx)
 have t2:(cs.drop (p+us.length)).all oneCell=true:=List.all_eq_true.2 fun x hx=>List.all_eq_true.1 e5 x (List.mem_of_mem_drop hx)
 rw[t1,t2];rfl
theorem set_mid{cs us:List AV}{lo cnt n:Nat}{u:AV}(hu:us=(cs.drop lo).take cnt)(h1:lo≤n)(h2:n<lo+cnt)(h3:lo+cnt≤cs.length):cs.take lo++(us.set (n-lo) u)++cs.drop (lo+cnt)=cs.take n++[u]++cs.drop (n+1):=by
 subst hu
 apply List.ext_getElem?
 intro j
 by_cases c1:j<lo
 ·rw[List.append_assoc,List.getElem?_append_left (by simp;omega),List.append_assoc,List.getElem?_append_left (by simp;omega)]
  rw[List.getElem?_take,List.getElem?_take,if_pos c1,if_pos (by omega)]
 ·by_cases c2:j<lo+cnt
  ·rw[List.append_assoc,List.getElem?_append_right (by simp;omega),List.getElem?_append_left (by simp;omega)]
   by_cases c3:j=n
   ·subst c3
    rw[List.append_assoc,List.getElem?_append_right (by simp;omega)]
    rw[show j-(cs.take lo).length=j-lo by simp;omega,List.getElem?_set_self (by simp;omega)]
    simp[show min j cs.length=j by omega]
   ·rw[show j-(cs.take lo).length=j-lo by simp;omega,List.getElem?_set_ne (by omega),List.getElem?_take,if_pos (by omega),List.getElem?_drop,show lo+(j-lo)=j by omega]
    by_cases c4:j<n
    ·rw[List.append_assoc,List.getElem?_append_left (by simp;omega),List.getElem?_take,if_pos c4]
    ·rw[List.getElem?_append_right (by simp;omega),List.getElem?_drop]
     congr 1;simp;omega
  ·rw[List.getElem?_append_right (by simp;omega),List.getElem?_append_right (by simp;omega),List.getElem?_drop,List.getElem?_drop]
   congr 1;simp;omega
theorem al1{sv:SV}{v:AV}(hx:SR E sv v)(h:aiS sv=true):∃ n:Nat,n<256∧v=N .u8 (n:Int) :=
 Us (l:=[sv]) (us:=[v]) (.cons _ _ _ _ hx .nil) (by simp only[GI,h]) (j:=0) rfl
theorem arf(hH:HR E H M){k:Ky}{lo cnt n:Nat}{vs:List SV}{u:AV}(hv:qK H k lo cnt=some vs)(ha:GI vs=true)(hs:zD H k lo (AJ [.iv .u8 0 255] cnt)=some H')(h1:lo≤n)(h2:n<lo+cnt)(hu:∃ m:Nat,m<256∧u=N .u8 (m:Int)){b:Nat}(hb:E.bl k=some b):∃ M',M.stores b n [u]=some M'∧HR E H' M':=by
 obtain⟨us,l1,l2,_⟩:=lc hH hv hb
 have hlen:=lv l1
 have hj:∀ {j:Nat}{w:AV},us[j]?=some w→∃ m:Nat,m<256∧w=N .u8 (m:Int):=fun hw=>Us l2 ha hw
 have hset:∀ {j:Nat}{w:AV},(us.set (n-lo) u)[j]?=some w→∃ m:Nat,m<256∧w=N .u8 (m:Int):=by
  intro j w hw
  rw[List.getElem?_set]at hw
  split at hw
  ·split at hw <;>try(cases hw;done)
   cases hw;exact hu
  ·exact hj hw
 have hiv:∀ (ws:List AV),(∀ {j:Nat}{w:AV},ws[j]?=some w→∃ m:Nat,m<256∧w=N .u8 (m:Int))→aP E (AJ [.iv .u8 0 255] ws.length) ws:=by
  intro ws
  induction ws with
  |nil=>intro _;exact .nil
  |cons w ws ih =>
   intro hw
   obtain⟨m,hm,rfl⟩:=hw (j:=0) rfl
   exact .cons _ _ _ _ (.iv _ _ _ m (Nat.zero_le _) (by omega)) (ih fun {j w} h=>hw (j:=j+1) (by simpa using h))
 have hw:=hiv _ hset
 rw[List.length_set,hlen]at hw
 unfold zD at hs
 split at hs <;>try(cases hs;done)
 rename_i hl
 split at hs <;>try(cases hs;done)
 rename_i l opn el hk
 split at hs <;>try(cases hs;done)
 rename_i l' hp
 cases hs
 have hr:=hH.blk k
 rw[hk]at hr
 obtain⟨b',cs,e1,e2,e3,e4,e5⟩:=hr
 rw[hb]at e1;cases e1
 obtain⟨g1,g2⟩:=aP.pz lo e4 hw hp
 rw[List.length_set,hlen]at g1 g2
 have l1' : us=(cs.drop lo).take cnt:=by
  rw[gW e3 g1]at l1;cases l1;rfl
 rw[set_mid l1' h1 h2 g1]at g2
 obtain⟨m,_,hm⟩:=hu
 have ho:[u].all oneCell=true:=by rw[hm];rfl
 refine⟨_,RM.Gg e3 (by show n+1≤_;omega) (Nat.zero_le _) ho,hH.put rfl rfl (fun c hc=>PW _ _ fun hcb=>hc (by rw[hk];simp[bR,hb,hcb])) ⟨b,_,hb,e2,nz _ _ _,g2, ?_⟩ (fun c hc=>by rw[hk];exact hc)⟩
 rw[List.all_append,List.all_append,ho]
 have t1:(cs.take n).all oneCell=true:=List.all_eq_true.2 fun x hx=>List.all_eq_true.1 e5 x (List.mem_of_mem_take hx)
 have t2:(cs.drop (n+1)).all oneCell=true:=List.all_eq_true.2 fun x hx=>List.all_eq_true.1 e5 x (List.mem_of_mem_drop hx)
 rw[t1]
 show(true&&true&&(cs.drop (n+1)).all oneCell)=true
 rw[t2];rfl
theorem aeU(hH:HR E H M){C:aI}{a x:XO}{aa ax:AV}{n:Nat}(ha:SR E (ev a V T) aa)(hx:SR E (ev x V T) ax)(h:Yp a x n C V T H K=true):aR M aa ax n (HK E K .undef):=by
 unfold Yp at h
 generalize ev a V T=sa at *
 generalize ev x V T=sx at *
 split at h <;>try(cases h;done)
 ·dsimp only at h
  split at h <;>try(cases h;done)
  rename_i H' hl hs
  cases ha with|ptr _ _ b e =>
  have hl1:lone sx.cells=true:=by
   unfold zD at hs
   split at hs<;>first|(cases hs;done)|assumption
  have hc:=SR.cells hx (Ie hl1)
  obtain⟨M',s1,s2⟩:=tZ hH hs hc e
  have hl:=bB hl
  rw[hc.length]at hl
  exact⟨b,_,M',rfl,hl,s1,dN s2 (.tup _ _ .nil) h⟩
 ·rename_i lo hi
  split at h <;>try(cases h;done)
  rename_i vs hu hv
  split at h <;>try(cases h;done)
  rename_i H' hall hs
  cases ha with|pw _ _ _ m b e g1 g2 =>
  obtain⟨q,hq,rfl⟩:=al1 hx hu
  obtain⟨M',s1,s2⟩:=arf hH hv hall hs g1 (by show m<lo+(hi+1-lo);omega) ⟨q,hq,rfl⟩ e
  exact⟨b,m,M',rfl,rfl,s1,dN s2 (.tup _ _ .nil) h⟩
end
section
variable {P:Program} {E:En} {V:VS} {T:TS} {H H' : SH} {M:RM} {K:KS} {o:Oper} {eX:Operand→XO} {e:Operand→AV}
theorem aoW(hH:HR E H M){sv:SV}{v:AV}{s:SB}(hs:oq H sv=some s)(hx:SR E sv v)(zs:List AV):∃ l,bG E.g s l∧kP M 1 zs false v=some (l.length,fM l):=by
 unfold oq at hs
 split at hs <;>try(cases hs;done)
 ·rename_i k
  split at hs <;>try(cases hs;done)
  rename_i hk
  cases hs
  have h1:=hH.blk k
  rw[hk]at h1
  obtain⟨w,l,e1,e2,_,e4⟩:=h1
  cases hx with|bs _ _ e =>
  rw[e1]at e;cases e
  exact⟨l,e2,e4.kP zs⟩
 ·split at hs <;>try(cases hs;done)
  rename_i cs hc
  cases hx with|slc _ _ n b' _ e =>
  obtain⟨us,e1,e2,_⟩:=lc hH hc e
  obtain⟨l,f1,f2,f3⟩:=pO e2 hs
  have hl:=lv e1
  subst f3
  rw[qd]at hl
  refine⟨l,f2, ?_⟩
  simp only[kP,Nat.mul_one,e1,hl]
 ·cases hs;cases hx;exact⟨[],.nil,rfl⟩
 ·cases hs;cases hx;exact⟨[],.nil,rfl⟩
 ·cases hs
  cases hx with|s _ l d=>exact⟨l,d,by simp[kP]⟩
theorem FK(l:bQ):(fM l).all oneCell=true:=by
 rw[List.all_eq_true]
 intro x hx
 obtain⟨b,_,rfl⟩:=List.mem_map.1 hx
 rfl
theorem Ff(l m:bQ):fM l++fM m=fM (l++m):=by simp[fM]
def En.nW(E:En)(k:Ky)(v:AV)(h:v.cells=[v]∧oneCell v=true∧iZ v):En :=
 { E with bl:=fun q=>if q.nat=k.nat then(aJ v).head? else E.bl q,sl:=fun q=>if q.nat=k.nat then some v else E.sl q,sl1:=fun q u hu=>(by
     split at hu
     ·cases hu;exact h
     ·exact E.sl1 q u hu) }
theorem En.EK{k:Ky}{v:AV}{hv:v.cells=[v]∧oneCell v=true∧iZ v}(h:E.bl k=none∧E.sl k=none):E.le (E.nW k v hv):=⟨rfl,fun q c hq=>(by
 simp only[En.nW];rw[if_neg];exact hq
 intro e;rw[bF _ _ e,h.1]at hq;cases hq),fun q c hq=>(by
 simp only[En.nW];rw[if_neg];exact hq
 intro e;rw[bF _ _ e,h.2]at hq;cases hq),rfl⟩
theorem IG{v:AV}{b:Nat}(h:b∈aJ v):(aJ v).head?=some b:=by
 unfold aJ at h ⊢
 split at h
 ·simp at h;subst h;rfl
 ·cases h
theorem IM{el n:Nat}{v:AV}{cs:List AV}(h:Own M 0 el 1 v cs n):v.cells=[v]∧oneCell v=true∧iZ v:=by
 cases h with
 |nil=>exact⟨rfl,rfl,trivial⟩
 |ex0=>exact⟨rfl,rfl,Nat.le_refl _⟩
 |op=>exact⟨rfl,rfl,rfl⟩
theorem aga{n:Nat}{v:AV}{cs:List AV}(h:aW M 1 v cs n):v.cells=[v]∧oneCell v=true:=by
 cases h<;>exact⟨rfl,rfl⟩
theorem HR.move{E' : En}{M' : RM}{c:Ky}{y:Bk}(h:HR E H M)(hle:E.le E')(hq:∀ q,q.nat≠H.nx.nat→E'.bl q=E.bl q∧E'.sl q=E.sl q)(hb:M'.base=M.base)(hn:M.next≤M'.next)
  (hh:∀ b,b<M.next→b∉bR E c (hget H c)→M'.heap b=M.heap b) (hy:BR E' M' H.nx y) (ho:∀ d∈bR E' H.nx y,d<M'.next∧(M.next≤d∨d∈bR E c (hget H c))):HR E' (hpush (hput H c .gone) y) M':=by
 have get:∀ q,hget (hpush (hput H c .gone) y) q=if q.nat=H.nx.nat then y else if q.nat=c.nat then .gone else hget H q:=fun q=>by
  rw[fq,Aw]
  split
  ·rfl
  ·rw[nI]
 refine⟨fun q=>?_,fun q q' b hq hq'=>?_,fun q b hq=>?_,fun q hq'=>?_,(hb.trans h.base).trans hle.bs.symm⟩
 ·rw[get]
  split
  ·rename_i e;rw[bF _ _ e];exact hy
  ·split
   ·trivial
   ·rename_i e e'
    refine(h.blk q).keep hle hb hn fun b hbq hlt=>hh b hlt fun hc=>e' ?_
    rw[h.sep q c b hbq hc]
 ·rw[get]at hq hq'
  split at hq<;>split at hq'
  ·rename_i e e';exact bF _ _ (by omega)
  ·split at hq'
   ·cases hq'
   ·rename_i e e' e2
    rw[bF _ _ e]at hq
    rw[dJ (h.blk q') hle]at hq'
    rcases(ho b hq).2 with h1|h1
    ·have:=h.lt q' b hq';omega
    ·exact absurd (congrArg Ky.nat (h.sep q' c b hq' h1)) e2
  ·split at hq
   ·cases hq
   ·rename_i e e' e2
    rw[bF _ _ e']at hq'
    rw[dJ (h.blk q) hle]at hq
    rcases(ho b hq').2 with h1|h1
    ·have:=h.lt q b hq;omega
    ·exact absurd (congrArg Ky.nat (h.sep q c b hq h1)) e2
  ·split at hq
   ·cases hq
   ·split at hq'
    ·cases hq'
    ·rw[dJ (h.blk q) hle]at hq
     rw[dJ (h.blk q') hle]at hq'
     exact h.sep q q' b hq hq'
 ·rw[get]at hq
  split at hq
  ·rename_i e
   rw[bF _ _ e]at hq
   exact(ho b hq).1
  ·split at hq
   ·cases hq
   ·rw[dJ (h.blk q) hle]at hq
    exact Nat.lt_of_lt_of_le (h.lt q b hq) hn
 ·rw[uV,Aw]at hq'
  have:=h.new q (by omega)
  rw[(hq q (by omega)).1,(hq q (by omega)).2]
  exact this
theorem HR.move0{E' : En}{M' : RM}{y:Bk}(h:HR E H M)(hle:E.le E')(hq:∀ q,q.nat≠H.nx.nat→E'.bl q=E.bl q∧E'.sl q=E.sl q)(hb:M'.base=M.base)(hn:M.next≤M'.next)
  (hh:∀ b,b<M.next→M'.heap b=M.heap b) (hy:BR E' M' H.nx y) (ho:∀ d∈bR E' H.nx y,d<M'.next∧M.next≤d):HR E' (hpush H y) M':=by
 have h1:=h.move (c:=H.nx) (y:=y) hle hq hb hn (fun b hlt _=>hh b hlt) hy (fun d hd=>⟨(ho d hd).1,.inl (ho d hd).2⟩)
 have get:∀ q,hget (hpush (hput H H.nx .gone) y) q=hget (hpush H y) q:=fun q=>by
  rw[fq,fq,Aw,nI]
  split
  ·rfl
  ·rfl
 exact⟨fun k=>by rw[← get];exact h1.blk k,fun k k' b a1 a2=>by rw[← get]at a1 a2;exact h1.sep k k' b a1 a2,fun k b a=>by rw[← get]at a;exact h1.lt k b a,fun k hk=>h1.new k (by rw[uV,Aw];rw[uV]at hk;exact hk),h1.base⟩
theorem JF{k:Ky}{v:AV}{hv:v.cells=[v]∧oneCell v=true∧iZ v}:∀ q,q.nat≠k.nat→(E.nW k v hv).bl q=E.bl q∧(E.nW k v hv).sl q=E.sl q :=
 fun q hq=>⟨by simp only[En.nW];rw[if_neg hq],by simp only[En.nW];rw[if_neg hq]⟩
theorem iX{k:Ky}{v:AV}{hv:v.cells=[v]∧oneCell v=true∧iZ v}:(E.nW k v hv).sl k=some v:=by simp[En.nW]
theorem LF{k:Ky}{v:AV}{hv:v.cells=[v]∧oneCell v=true∧iZ v}:(E.nW k v hv).bl k=(aJ v).head?:=by simp[En.nW]
theorem PQ{E' : En}{k:Ky}{v:AV}{l:bQ}{x:SB}{el:Nat}(hs:E'.sl k=some v)(hd:bG E'.g x l)(ho:Own M 0 el 1 v (fM l) l.length)(hb:∀ b∈aJ v,E'.bl k=some b):BR E' M k (.byt x true el):=⟨v,l,hs,hd,fun _=>⟨ho,hb⟩,ho.E5⟩
theorem ad6{M' : RM}{c:Ky}{v' : AV}{l:bQ}{x:SB}{el:Nat}(hH:HR E H M)(hd:bG E.g x l)(ho:Own M' 0 el 1 v' (fM l) l.length)(hk:ah (bR E c (hget H c)) M M')(hor:∀ d∈aJ v',M.next≤d∨d∈bR E c (hget H c))
  (h:K (.bs H.nx) (hpush (hput H c .gone) (.byt x true el))=true):HK E K v' M':=by
 have hle:E.le (E.nW H.nx v' (IM ho)):=En.EK (hH.new _ (Nat.le_refl _))
 refine⟨_,_,_,hle,hH.move hle JF hk.base hk.next (fun b hlt hb=>hk.heap b hlt hb) (PQ iX hd ho fun b hb=>by rw[LF];exact IG hb) (fun d hd=>?_),.bs _ _ iX,h⟩
 simp only[bR,iX]at hd
 exact⟨(ho.blk d hd).2,hor d hd⟩
theorem aay{M' : RM}{v' : AV}{l:bQ}{x:SB}{el:Nat}(hH:HR E H M)(hd:bG E.g x l)(ho:Own M' 0 el 1 v' (fM l) l.length)(hk:ah [] M M')(hor:∀ d∈aJ v',M.next≤d)
  (h:K (.bs H.nx) (hpush H (.byt x true el))=true):HK E K v' M':=by
 have hle:E.le (E.nW H.nx v' (IM ho)):=En.EK (hH.new _ (Nat.le_refl _))
 refine⟨_,_,_,hle,hH.move0 hle JF hk.base hk.next (fun b hlt=>hk.heap b hlt (by simp)) (PQ iX hd ho fun b hb=>by rw[LF];exact IG hb) (fun d hd=>?_),.bs _ _ iX,h⟩
 simp only[bR,iX]at hd
 exact⟨(ho.blk d hd).2,hor d hd⟩
theorem ak3(hH:HR E H M){elem:Nat}{zs:List AV}{sv:SV}{s x:AV}{a b:SB}{lb:bQ}(hs:SR E sv s)(ha:oq H sv=some a)(hb:bG E.g b lb)(hx:kP M 1 zs false x=some (lb.length,fM lb))(hm:dP a+dP b≤140737488355328)
  (h:ahi elem H sv a b K=true):appW elem 1 1 zs false s x M (HK E K):=by
 have hlb:=(bJ hb).2
 have hcb:(fM lb).length=lb.length*1:=by rw[qd,Nat.mul_one]
 unfold ahi at h
 split at h <;>try(cases h;done)
 ·rename_i c
  split at h <;>try(cases h;done)
  rename_i a' el hk
  split at h <;>try(cases h;done)
  rename_i he
  have he:=bB he
  subst he
  simp only[oq,hk]at ha
  cases ha
  have h1:=hH.blk c
  rw[hk]at h1
  obtain⟨w,l,e1,e2,e3,_⟩:=h1
  cases hs with|bs _ _ e =>
  rw[e1]at e;cases e
  obtain⟨o1,o2⟩:=e3 rfl
  have hla:=(bJ e2).2
  have Gn:bR E c (hget H c)=aJ s:=by rw[hk];simp only[bR,e1]
  refine sZ o1 (Nat.zero_le _) (Nat.le_refl _) hx hcb (FK _) (by omega) (by omega) fun v' M' ho hk' hn hor=>?_
  rw[Ff,← List.length_append]at ho
  refine ad6 hH (pu e2 hb) ho (by rw[Gn];exact hk') (fun d hd=>?_) h
  rw[Gn]
  rcases hor with rfl|hor
  ·exact .inr hd
  ·exact .inl (hor d hd)
 ·cases hs
  simp only[oq]at ha
  cases ha
  refine sZ (n:=0) (cs:=[]) .nil (Nat.zero_le _) (Nat.le_refl _) hx hcb (FK _) (by omega) (by omega) fun v' M' ho hk' hn hor=>?_
  rw[List.nil_append,Nat.zero_add]at ho
  refine aay hH hb ho hk' (fun d hd=>?_) h
  rcases hor with rfl|hor
  ·cases hd
  ·exact hor d hd
 ·rename_i c o n cap
  cases hs with|slc _ _ _ b' _ e =>
  simp only[oq]at ha
  split at ha <;>try(cases ha;done)
  rename_i cs hc
  obtain⟨us,e1,e2,e4⟩:=lc hH hc e
  obtain⟨la,f1,f2,f3⟩:=pO e2 ha
  have hl:=lv e1
  have hla:=(bJ f2).2
  subst f3
  split at h
  ·split at h <;>try(cases h;done)
   rename_i l el hk
   split at h <;>try(cases h;done)
   rename_i he hn
   have he:=bB he
   subst he
   have hn:=bB hn
   have h1:=hH.blk c
   rw[hk]at h1
   obtain⟨b2,cs2,g1,g2,g3,g4,g5⟩:=h1
   rw[e]at g1;cases g1
   rw[g4.length]at hn
   subst hn
   rw[gW g3 (by omega)]at e1
   simp only[List.drop_zero,List.take_length,Option.some.injEq]at e1
   subst e1
   rw[qd]
   have ho:Own M 0 el 1 (.slc b' 0 la.length (.op 1)) (fM la) la.length:=.op _ _ _ (Nat.zero_le _) g2 g3 (by rw[qd,Nat.mul_one])
   have Gn:bR E c (hget H c)=[b']:=by rw[hk];simp only[bR,e]
   refine sZ ho (Nat.zero_le _) (Nat.le_refl _) hx hcb (FK _) (by omega) (by omega) fun v' M' ho hk' hn hor=>?_
   rw[Ff,← List.length_append]at ho
   refine ad6 hH (pu f2 hb) ho (by rw[Gn];exact hk') (fun d hd=>?_) h
   rw[Gn]
   rcases hor with rfl|hor
   ·exact .inr hd
   ·exact .inl (hor d hd)
  ·rename_i m
   split at h <;>try(cases h;done)
   rename_i hn hmin
   have hn:=bB hn
   subst hn
   have hmin:=bP hmin
   have h0:=(bJ hb).1
   rw[qd]at hl
   have hlen:n+lb.length=(la++lb).length:=by rw[List.length_append];omega
   have happ:j6 elem 1 1 lb.length (fM lb) (.slc b' o n (.ex n)) M=some (.slc M.next 0 (n+lb.length) (.op 1),M.push (.row (fM la++fM lb) true elem 0)):=by
    simp only[j6]
    rw[if_neg (by omega),if_neg (by omega),Nat.mul_one,e1]
    dsimp only
    rw[if_pos]
    refine⟨by omega,by omega, ?_⟩
    rw[Ff];exact FK _
   refine⟨_,_,hx,by omega,by omega,_,_,happ, ?_⟩
   rw[Ff,hlen]
   refine aay hH (pu f2 hb) (.op _ _ _ (Nat.zero_le _) (Nat.lt_succ_self _) (mR _ _) (by rw[qd,Nat.mul_one])) ((ah.refl _ _).push _) (fun d hd=>?_) h
   simp[aJ]at hd
   omega
theorem aaw(hH:HR E H M){elem size bytes:Nat}{zs:List AV}{sv xv:SV}{s x:AV}(hs:SR E sv s)(hx:SR E xv x)(h:aa8 elem size bytes H sv xv K=true):appW elem size bytes zs false s x M (HK E K):=by
 unfold aa8 at h
 split at h <;>try(cases h;done)
 rename_i a b h1 h2 ha hb
 split at h <;>try(cases h;done)
 rename_i hm
 have h1:=bB h1
 have h2:=bB h2
 subst h1 h2
 obtain⟨lb,d,hn⟩:=aoW hH hb hx zs
 exact ak3 hH hs ha d hn (bP hm) h
end
section
variable {P:Program} {E:En} {V:VS} {T:TS} {H H' : SH} {M:RM} {K:KS} {o:Oper} {eX:Operand→XO} {e:Operand→AV}
theorem WI{n bytes:Nat}(h:small n bytes=true):n*bytes≤140737488355328∧n≤140737488355328:=by
 unfold small at h
 split at h <;>try(cases h;done)
 rename_i h1
 exact⟨bP h1,bP h⟩
theorem anq{k:Ky}{b:Nat}:∀ q,q.nat≠k.nat→(E.kU k b).bl q=E.bl q∧(E.kU k b).sl q=E.sl q:=fun q hq=>⟨by simp only[En.kU];rw[if_neg hq],rfl⟩
theorem aeV(hH:HR E H M){l:List SV}{cs:List AV}{opn:Bool}{el n:Nat}{cap:Cap}(hl:aP E l cs)(ho:cs.all oneCell=true)(h:K (.slc H.nx 0 n cap) (hpush H (.row l opn el))=true):HK E K (.slc M.next 0 n cap) (M.push (.row cs opn el 0)):=by
 have hle:E.le (E.kU H.nx M.next):=En.vG (hH.new _ (Nat.le_refl _)).1
 have hr:=hH.push (M':=M.push (.row cs opn el 0)) (y:=.row l opn el) rfl rfl (fun b hb=>wE _ _ hb) ⟨M.next,cs,dh _ _ _,Nat.lt_succ_self _,mR _ _,hl.mono hle,ho⟩ (by intro c hc;simp only[bR,dh]at hc;simpa using hc)
 exact⟨_,_,_,hle,hr.2,.slc _ _ _ _ _ (dh _ _ _),h⟩
theorem ZN(hH:HR E H M){elem size bytes n:Nat}{ai8:List SV}{new:List AV}{sv:SV}{s:AV}(hs:SR E sv s)(hn:aP E ai8 new)(hl:new.length=n*size)(h:acE elem size bytes n ai8 sv H K=true) :
  n*bytes≤140737488355328∧n≤140737488355328∧∃ v M',j6 elem size bytes n new s M=some (v,M')∧HK E K v M':=by
 unfold acE at h
 split at h
 ·refine⟨by omega,by omega, ?_⟩
  split at h <;>try(cases h;done)
  ·split at h <;>try(cases h;done)
   rename_i hle
   have hs':=hs
   cases hs with|slc _ _ _ b' _ e =>
   exact⟨_,_,by simp only[j6,if_pos,bP hle],dN hH hs' h⟩
  ·have hs':=hs
   cases hs with|slc _ _ _ b' _ e =>
   exact⟨_,_,by simp only[j6,if_pos],dN hH hs' h⟩
  ·have hs':=hs
   cases hs
   exact⟨_,_,by simp only[j6,if_pos],dN hH hs' h⟩
  ·have hs':=hs
   cases hs
   exact⟨_,_,by simp only[j6,if_pos],dN hH hs' h⟩
 ·rename_i m
  split at h <;>try(cases h;done)
  rename_i hone
  have ho:=nu hn hone
  split at h <;>try(cases h;done)
  ·split at h <;>try(cases h;done)
   rename_i hsm
   have hsm:=WI hsm
   cases hs
   refine⟨hsm.1,hsm.2,_,_,by simp only[j6];rw[if_neg (by omega),if_pos ho],aeV hH hn ho h⟩
  ·rename_i k o len cap
   split at h <;>try(cases h;done)
   rename_i hsm
   have hsm:(len+(m+1))*bytes≤140737488355328∧len+(m+1)≤140737488355328:=WI hsm
   have hb1:(m+1)*bytes≤140737488355328:=Nat.le_trans (Nat.mul_le_mul_right _ (by omega)) hsm.1
   refine⟨hb1,by show m+1≤_;omega, ?_⟩
   cases hs with|slc _ _ _ b' _ e =>
   split at h
   ·rename_i c
    split at h
    ·rename_i hle
     have hle:len+(m+1)≤c:=bP hle
     split at h <;>try(cases h;done)
     rename_i H' hst
     obtain⟨M',s1,s2⟩:=tZ hH hst hn e
     have s1:M.stores b' (o+len*size) new=some M':=s1
     refine⟨_,_, ?_,dN s2 (.slc _ _ _ _ _ e) h⟩
     simp only[j6]
     rw[if_neg (by omega),if_pos hle,s1]
     rfl
    ·rename_i hle
     have hle:c<len+(m+1):=WB hle
     split at h <;>try(cases h;done)
     rename_i old hold
     split at h <;>try(cases h;done)
     rename_i hlo
     obtain⟨us,l1,l2,_⟩:=lc hH hold e
     have l1:M.loads b' o (len*size)=some us:=l1
     have hall:(us++new).all oneCell=true:=by rw[List.all_append,nu l2 hlo,ho];rfl
     refine⟨_,_, ?_,aeV hH (l2.rZ hn) hall h⟩
     simp only[j6]
     rw[if_neg (by omega),if_neg (by omega),l1]
     dsimp only
     rw[if_pos ⟨hsm.1,hsm.2,hall⟩]
     rfl
   ·rename_i esz
    split at h <;>try(cases h;done)
    rename_i l el hsz hk
    have hsz:=bB hsz
    subst hsz
    have h1:=hH.blk k
    rw[hk]at h1
    obtain⟨b2,cs,g1,g2,g3,g4,g5⟩:=h1
    rw[e]at g1;cases g1
    have hll:=g4.length
    split at h
    ·rename_i hle
     have hle:o+(len+(m+1))*esz≤iy l:=bP hle
     split at h <;>try(cases h;done)
     rename_i H' hst
     obtain⟨M',s1,s2⟩:=tZ hH hst hn e
     have s1:M.stores b' (o+len*esz) new=some M':=s1
     refine⟨_,_, ?_,dN s2 (.slc _ _ _ _ _ e) h⟩
     simp only[j6,g3]
     rw[if_neg (by omega),if_pos ⟨trivial,trivial⟩,if_pos (show o+(len+m.succ)*esz≤cs.length by rw[← hll];exact hle),s1]
     rfl
    ·rename_i hle
     have hle:iy l<o+(len+(m+1))*esz:=WB hle
     split at h <;>try(cases h;done)
     rename_i he hq _
     have he:=bB he
     subst he
     have hq:iy l=len*esz:=bB hq
     have hle3:¬ 0+(len+(m+1))*esz≤cs.length:=by rw[← hll];omega
     have hall:(cs++new).all oneCell=true:=by rw[List.all_append,g5,ho];rfl
     have Gn:bR E k (hget H k)=[b']:=by rw[hk];simp only[bR,e]
     have Hq:E.le (E.kU H.nx M.next):=En.vG (hH.new _ (Nat.le_refl _)).1
     refine⟨_,_, ?_,⟨_,_,_,Hq,hH.move (M':=(M.del b').push (.row (cs++new) true el 0)) (c:=k) (y:=.row (rZ l ai8) true el) Hq anq rfl (Nat.le_succ _) (fun d hd hb=>?_) ⟨M.next,cs++new,dh _ _ _,Nat.lt_succ_self _,mR _ _,(g4.rZ hn).mono Hq,hall⟩ (fun d hd=>?_),.slc _ _ _ _ _ (dh _ _ _),h⟩⟩
     ·simp only[j6,g3]
      rw[if_neg (by omega),if_pos ⟨trivial,trivial⟩,if_neg (show ¬ 0+(len+m.succ)*esz≤cs.length from hle3),if_pos ⟨trivial,hsm.1,hsm.2,trivial,by omega,Nat.zero_le _,ho⟩]
      rfl
     ·rw[Gn]at hb
      rw[wE _ _ (show d<(M.del b').next from hd)]
      simp only[RM.del]
      rw[if_neg (by simpa using hb)]
     ·simp only[bR,dh]at hd
      have:d=M.next:=by simpa using hd
      subst this
      exact⟨Nat.lt_succ_self _,.inl (Nat.le_refl _)⟩
theorem XM(hH:HR E H M){sv:SV}{v:AV}{size n:Nat}{vs:List SV}(hx:SR E sv v)(h:rowOf sv H size=some (n,vs))(zs:List AV):∃ us,kP M size zs false v=some (n,us)∧aP E vs us∧us.length=n*size∧Br v=some n∧∀ k,k≤n→1≤k→firstM M size k v=some (us.take (k*size)):=by
 unfold rowOf at h
 split at h <;>try(cases h;done)
 ·split at h <;>try(cases h;done)
  rename_i us hl
  cases h
  cases hx with|slc _ _ _ b' _ e =>
  obtain⟨us,e1,e2,_⟩:=lc hH hl e
  have e1:M.loads b' _ (n*size)=some us:=e1
  refine⟨us,by simp only[kP,e1],e2,lv e1,rfl,fun k hk _=>?_⟩
  exact abb e1 (k*size) (Nat.mul_le_mul_right _ hk)
 ·cases h
  cases hx
  exact⟨[],rfl,.nil,(Nat.zero_mul _).symm,rfl,fun k h1 h2=>by omega⟩
 ·cases h
  cases hx
  exact⟨[],rfl,.nil,(Nat.zero_mul _).symm,rfl,fun k h1 h2=>by omega⟩
theorem alc(hH:HR E H M){C:aI}{elem size bytes:Nat}{zs:List SV}{vs:List AV}{zeros:Bool}{s x:XO}{a b:AV}(hz:aP E zs vs)(hl:vs.length=size)(hs:SR E (ev s V T) a)(hx:SR E (ev x V T) b)
  (h:ahf elem size bytes zs zeros s x C V T H K=true):appW elem size bytes vs zeros a b M (HK E K):=by
 unfold ahf at h
 generalize ev s V T=ss at *
 generalize ev x V T=sx at *
 split at h
 ·split at h <;>try(cases h;done)
  rename_i n hn
  obtain⟨k,rfl⟩:=sO hn hx
  have hlen:∀ n,(eu vs n).length=n*size:=fun n=>by
   induction n with
   |zero=>simp[eu]
   |succ n ih=>rw[eu,List.length_append,ih,hl,Nat.succ_mul,Nat.add_comm]
  obtain⟨h1,h2,h3⟩:=ZN hH hs (Fe hz n) (hlen n) h
  refine⟨n,eu vs n, ?_,h1,h2,h3⟩
  simp only[kP]
  rw[if_pos (Int.natCast_nonneg _),Int.toNat_natCast]
 ·split at h
  ·exact aaw hH hs hx h
  ·split at h
   ·rename_i n new hr
    obtain⟨us,e1,e2,e3,_⟩:=XM hH (BV hH hx) hr vs
    obtain⟨h1,h2,h3⟩:=ZN hH hs e2 e3 h
    exact⟨n,us,e1,h1,h2,h3⟩
   ·split at h <;>try(cases h;done)
    exact aaw hH hs hx h
theorem U1(hH:HR E H M){sv:SV}{v:AV}(hx:SR E sv v)(h:acT H sv=true):∃ n,Br v=some n:=by
 unfold acT at h
 split at h <;>try(cases h;done)
 ·cases hx;exact⟨_,rfl⟩
 ·cases hx;exact⟨_,rfl⟩
 ·cases hx;exact⟨_,rfl⟩
 ·cases hx;exact⟨_,rfl⟩
 ·rename_i k
  split at h <;>try(cases h;done)
  rename_i hk
  have h1:=hH.blk k
  rw[hk]at h1
  obtain⟨w,l,e1,e2,_,e4⟩:=h1
  cases hx with|bs _ _ e =>
  rw[e1]at e;cases e
  generalize fM l=cs at e4
  generalize l.length=n at e4
  cases e4<;>exact⟨_,rfl⟩
theorem aho(hH:HR E H M){C:aI}{size:Nat}{d x:XO}{a b:AV}(hd:SR E (ev d V T) a)(hx:SR E (ev x V T) b)(h:aco size d x C V T H K=true):ajS size a b M (HK E K):=by
 unfold aco at h
 generalize ev d V T=sd at *
 generalize ev x V T=sx at *
 split at h <;>try(cases h;done)
 ·rename_i k o dn cap
  split at h <;>try(cases h;done)
  rename_i n vs hr
  obtain⟨us,_,e2,e3,e4,e5⟩:=XM hH (BV hH hx) hr []
  cases hd with|slc _ _ _ b' _ e =>
  split at h
  ·rename_i hmin
   refine⟨_,_, ?_,dN hH (.i _ _) h⟩
   simp only[Gs,e4]
   rw[if_pos hmin]
  ·rename_i m hmin
   split at h <;>try(cases h;done)
   rename_i us' ht
   split at h <;>try(cases h;done)
   rename_i H' hst
   obtain⟨g1,g2⟩:=aP.kL _ e2 ht
   obtain⟨M',s1,s2⟩:=tZ hH hst g2 e
   have hmin:Nat.min n dn=m+1:=hmin
   have hle:m+1≤n:=by rw[← hmin];exact Nat.min_le_left _ _
   refine⟨_,_, ?_,dN s2 (.i _ _) h⟩
   simp only[Gs,e4]
   rw[if_neg (by omega),hmin,e5 (m+1) hle (by omega)]
   dsimp only
   have s1:M.stores b' o (us.take ((m+1)*size))=some M':=s1
   rw[s1]
   rfl
 ·split at h <;>try(cases h;done)
  rename_i hq
  obtain⟨n,hn⟩:=U1 hH hx hq
  cases hd
  refine⟨_,_, ?_,dN hH (.i _ _) h⟩
  simp only[Gs,hn]
 ·split at h <;>try(cases h;done)
  rename_i hq
  obtain⟨n,hn⟩:=U1 hH hx hq
  cases hd
  refine⟨_,_, ?_,dN hH (.i _ _) h⟩
  simp only[Gs,hn]
theorem ae7(hH:HR E H M){C:aI}{zs:List SV}{vs:List AV}{x:XO}{a:AV}(hz:aP E zs vs)(hx:SR E (ev x V T) a)(h:UA zs x C V T H K=true):VG vs a M (HK E K):=by
 unfold UA at h
 generalize ev x V T=sx at *
 split at h <;>try(cases h;done)
 ·split at h <;>try(cases h;done)
  rename_i H' hst
  cases hx with|slc _ _ _ b' _ e =>
  obtain⟨M',s1,s2⟩:=tZ hH hst (Fe hz _) e
  exact .inl ⟨b',_,_,_,M',rfl,s1,dN s2 (.tup _ _ .nil) h⟩
 ·cases hx
  exact .inr (.inl ⟨_,rfl,dN hH (.tup _ _ .nil) h⟩)
 ·cases hx
  exact .inr (.inr ⟨rfl,dN hH (.tup _ _ .nil) h⟩)
theorem akC(hH:HR E H M){k:Ky}{l:List SV}(h:NN H k=some l){b:Nat}(hb:E.bl k=some b):∃ cs opn fz,M.heap b=some (.row cs opn (elH H k) fz)∧aP E l cs∧bR E k (hget H k)=[b]:=by
 have h1:=hH.blk k
 unfold NN at h
 unfold elH
 split at h <;>try(cases h;done)
 ·rename_i hk
  cases h
  rw[hk]at h1
  obtain⟨c,cs,e1,e2,e3,e4,e5⟩:=h1
  rw[hb]at e1;cases e1
  rw[hk]
  exact⟨cs,_,0,e3,e4,by simp only[bR,hb]⟩
 ·rename_i hk
  cases h
  rw[hk]at h1
  obtain⟨c,cs,fz,e1,e2,e3,e4,e5⟩:=h1
  rw[hb]at e1;cases e1
  rw[hk]
  exact⟨cs,_,fz,e3,e4,by simp only[bR,hb]⟩
 ·rename_i hk
  split at h <;>try(cases h;done)
  rename_i c r hc
  cases h
  rw[hk]at h1
  obtain⟨v,s,e1,e2,e3,_⟩:=h1
  obtain⟨o1,o2⟩:=e3 rfl
  have hs:=CW e2 hc
  cases hq:fM s with
  |nil=>rw[hq]at hs;cases hs
  |cons u us =>
   rw[hq]at o1 hs
   obtain⟨b',rfl,f1,f2,f3⟩:=EU o1
   have:=o2 b' (by simp[aJ])
   rw[hb]at this;cases this
   rw[hk]
   exact⟨_,_,0,f2,hs,by simp only[bR,e1,aJ]⟩
theorem aiB(hH:HR E H M){C:aI}{el:Nat}{x n:XO}{a b:AV}(hx:SR E (ev x V T) a)(hn:SR E (ev n V T) b)(h:abM el x n C V T H K=true):ajF el a b M (HK E K):=by
 unfold abM at h
 generalize ev x V T=sx at *
 generalize ev n V T=sn at *
 split at h <;>try(cases h;done)
 ·rename_i k m
  split at h <;>try(cases h;done)
  rename_i l hl he hm
  have he:=bB he
  subst he
  split at h <;>try(cases h;done)
  rename_i us ht
  split at h <;>try(cases h;done)
  rename_i s hs
  cases hx with|ptr _ _ b' e =>
  cases hn
  obtain⟨cs,opn,fz,e1,e2,e3⟩:=akC hH hl e
  obtain⟨g1,g2⟩:=aP.kL _ e2 ht
  obtain⟨q,q1,q2,q3⟩:=pO g2 hs
  refine .inl ⟨b',m,cs,opn,fz,q,rfl,rfl,bP hm,e1,g1,q1,E,_,_,.refl E, ?_,.s _ _ q2,h⟩
  refine hH.put rfl rfl (fun c hc=>?_) trivial (fun c hc=>by cases hc)
  rw[e3]at hc
  simp only[RM.del]
  rw[if_neg (by simpa using hc)]
 ·cases hx
  cases hn
  exact .inr ⟨rfl,rfl,dN hH (.s _ _ .nil) h⟩
theorem ag1(hH:HR E H M){C:aI}{x:XO}{a:AV}(hx:SR E (ev x V T) a)(h:acV x C V T H K=true):PE a M (HK E K):=by
 unfold acV at h
 generalize ev x V T=sx at *
 split at h <;>try(cases h;done)
 rename_i k p n c
 split at h <;>try(cases h;done)
 rename_i l el hk
 cases hx with|slc _ _ _ b' _ e =>
 have h1:=hH.blk k
 rw[hk]at h1
 obtain⟨b2,cs,e1,e2,e3,e4,e5⟩:=h1
 rw[e]at e1;cases e1
 refine⟨b',p,n,c,cs,el,rfl,e3,E,_,_,.refl E, ?_,.slc _ _ _ _ _ e,h⟩
 refine hH.put rfl rfl (fun d hd=>PW _ _ fun hc=>hd ?_) ⟨b',cs,_,e,e2,nz _ _ _,e4,e5⟩ (fun d hd=>?_)
 ·rw[hk];simp[bR,e,hc]
 ·rw[hk];simpa [bR,e]using hd
end
section
variable {P:Program} {E:En} {V:VS} {T:TS} {H H' : SH} {M:RM} {K:KS} {o:Oper} {eX:Operand→XO} {e:Operand→AV}
theorem IL{n:Nat}:∀ {l:List Nat},JG n l=true↔n∈l
 |[]=>by simp[JG]
 |m::r=>by
  simp only[JG,List.mem_cons]
  split
  ·rename_i h;have:=bB h;simp[this]
  ·rename_i h;have:=AU h;rw[IL];simp[this]
theorem aqX{n:Nat}{l:List Nat}(h:JG n l=false):n∉l:=fun hc=>by rw[IL.2 hc]at h;cases h
theorem Yn:∀ (l:List Nat)(n:Nat),Uo l n=l++[n]
 |[],n=>rfl
 |a::r,n=>by simp only[Uo,Yn r,List.cons_append]
theorem O8{seen:List Nat}:∀ {es:List (SV×SV×Nat)}{fs:List (AV×AV×Nat)},mK E es fs→LM seen es=true→∀ n∈fs,n.2.2∈seen
 |_,_,.nil,_=>fun n h=>by cases h
 |_,_,.cons k v n a b x y p q r,h=>by
  simp only[LM]at h
  split at h <;>try(cases h;done)
  rename_i h1
  intro m hm
  rcases List.mem_cons.1 hm with rfl|hm
  ·exact IL.1 h1
  ·exact O8 r h m hm
theorem NH{seen:List Nat}{C:SV→SV→Nat→Bool}:∀ {es:List (SV×SV×Nat)}{fs:List (AV×AV×Nat)},mK E es fs→nexts seen C es=true→∀ n∈fs,n.2.2∉seen→∃ k v,SR E k n.1∧SR E v n.2.1∧C k v n.2.2=true
 |_,_,.nil,_=>fun n h=>by cases h
 |_,_,.cons k v n a b x y p q r,h=>by
  simp only[nexts]at h
  intro m hm hs
  split at h
  ·rename_i h1
   rcases List.mem_cons.1 hm with rfl|hm
   ·exact absurd (IL.1 h1) hs
   ·exact NH r h m hm hs
  ·split at h <;>try(cases h;done)
   rename_i h2
   rcases List.mem_cons.1 hm with rfl|hm
   ·exact⟨k,v,p,q,h2⟩
   ·exact NH r h m hm hs
theorem Vb{st:Nat}:∀ {es:List (SV×SV×Nat)}{fs:List (AV×AV×Nat)},mK E es fs→TV st es=true→∃ n∈fs,n.2.2<st
 |_,_,.nil,h=>by cases h
 |_,_,.cons k v n a b x y p q r,h=>by
  simp only[TV]at h
  split at h
  ·rename_i h1;exact⟨_,List.mem_cons_self ..,eH h1⟩
  ·obtain⟨m,h1,h2⟩:=Vb r h;exact⟨m,List.mem_cons_of_mem _ h1,h2⟩
theorem adD{seen:List Nat}{st:Nat}{es:List (SV×SV×Nat)}{fs:List (AV×AV×Nat)}(hm:mK E es fs)(h:Xj seen st es=true):seen=[]∨fs=[]∨∃ n∈fs,n.2.2<st:=by
 unfold Xj at h
 split at h
 ·exact .inl rfl
 ·split at h
  ·cases hm;exact .inr (.inl rfl)
  ·exact .inr (.inr (Vb hm h))
theorem Ig{since:Nat}{seen:List Nat}:∀ {es:List (SV×SV×Nat)}{fs:List (AV×AV×Nat)},mK E es fs→FY since seen es=true→∃ n∈fs,n.2.2∉seen∧n.2.2<since
 |_,_,.nil,h=>by cases h
 |_,_,.cons k v n a b x y p q r,h=>by
  simp only[FY]at h
  split at h
  ·obtain⟨m,h1,h2⟩:=Ig r h;exact⟨m,List.mem_cons_of_mem _ h1,h2⟩
  ·rename_i hs
   split at h
   ·rename_i h1;exact⟨_,List.mem_cons_self ..,aqX hs,eH h1⟩
   ·obtain⟨m,h1,h2⟩:=Ig r h;exact⟨m,List.mem_cons_of_mem _ h1,h2⟩
theorem adb(hH:HR E H M){C:aI}{x:XO}{a:AV}(hx:SR E (ev x V T) a)(h:Qe x C V T H K=true):KP a M (HK E K):=by
 unfold Qe at h
 generalize ev x V T=sx at *
 split at h <;>try(cases h;done)
 rename_i m
 split at h <;>try(cases h;done)
 rename_i es cl hk
 cases hx with|map _ b' e =>
 obtain⟨fs,h1,h2,h3⟩:=map_ok hH hk e
 have hle:E.le (E.kU H.nx M.next):=En.vG (hH.new _ (Nat.le_refl _)).1
 have hr:=hH.push (M':=M.push (.iter (some b') cl [] cl)) (y:=.iter m cl [] cl) rfl rfl (fun b hb=>wE _ _ hb) ⟨M.next,b',dh _ _ _,Nat.lt_succ_self _,hle.bl _ _ e,mR _ _⟩ (by intro c hc;simp only[bR,dh]at hc;simpa using hc)
 exact⟨b',fs,cl,rfl,h1,_,_,_,hle,hr.2,.ptr _ _ _ (dh _ _ _),h⟩
theorem akK(hH:HR E H M){k m:Ky}{since st:Nat}{seen:List Nat}(hk:hget H k=.iter m since seen st){b' : Nat}(hb:E.bl k=some b'):∃ bm,E.bl m=some bm∧M.heap b'=some (.iter (some bm) since seen st)∧b'<M.next:=by
 have h1:=hH.blk k
 rw[hk]at h1
 obtain⟨c,bm,e1,e2,e3,e4⟩:=h1
 rw[hb]at e1;cases e1
 exact⟨bm,e3,e4,e2⟩
theorem HR.apW(hH:HR E H M){k:Ky}{b:Nat}{x:RB}{y:Bk}(hb:E.bl k=some b)(ho:bR E k (hget H k)=[b])(hy:BR E (M.put b x) k y)(ho2:bR E k y=[b]):HR E (hput H k y) (M.put b x) :=
 hH.put rfl rfl (fun d hd=>PW _ _ fun hc=>hd (by rw[ho];simp[hc])) hy (fun d hd=>by rw[ho];rw[ho2]at hd;exact hd)
theorem HR.ah2(hH:HR E H M){k:Ky}{b c:Nat}{es:List (SV×SV×Nat)}{fs:List (AV×AV×Nat)}(hb:E.bl k=some b)(hl:b<M.next)(ho:bR E k (hget H k)=[b])(hm:mK E es fs):HR E (hput H k (.map es c)) (M.put b (.map fs c)) :=
 hH.apW (y:=.map es c) hb ho ⟨b,fs,hb,hl,nz _ _ _,hm⟩ (by simp only[bR,hb])
theorem HR.aCh(hH:HR E H M){k m:Ky}{b bm since st:Nat}{seen:List Nat}(hb:E.bl k=some b)(hl:b<M.next)(ho:bR E k (hget H k)=[b])(hm:E.bl m=some bm):HR E (hput H k (.iter m since seen st)) (M.put b (.iter (some bm) since seen st)) :=
 hH.apW (y:=.iter m since seen st) hb ho ⟨b,bm,hb,hl,hm,nz _ _ _⟩ (by simp only[bR,hb])
theorem af5(hH:HR E H M){C:aI}{x:XO}{a:AV}(hx:SR E (ev x V T) a)(h:Vq x C V T H K=true):PN a M (HK E K):=by
 unfold Vq at h
 generalize ev x V T=sx at *
 split at h <;>try(cases h;done)
 rename_i k
 split at h <;>try(cases h;done)
 rename_i m since seen st hk
 split at h <;>try(cases h;done)
 rename_i es cl hm
 split at h <;>try(cases h;done)
 rename_i hst
 cases hx with|ptr _ _ b' e =>
 obtain⟨bm,e1,e2,e3⟩:=akK hH hk e
 obtain⟨fs,f1,f2,f3⟩:=map_ok hH hm e1
 refine⟨b',bm,since,seen,st,fs,cl,rfl,e2,f1,adD f3 hst, ?_⟩
 split at h
 ·rename_i hall
  have:=O8 f3 hall
  refine⟨fun n hn hs=>absurd (this n hn) hs,fun _=>dN hH (.tup _ _ (.cons _ _ _ _ (.b false) .nil)) h⟩
 ·split at h <;>try(cases h;done)
  rename_i hold
  refine⟨fun n hn hs=>?_,fun hc=>?_⟩
  ·obtain⟨sk,sv,g1,g2,g3⟩:=NH f3 h n hn hs
   refine⟨E,_,_,.refl E,hH.aCh e e3 (by rw[hk];simp only[bR,e]) e1,.tup _ _ (.cons _ _ _ _ (.b true) (.cons _ _ _ _ g1 (.cons _ _ _ _ g2 .nil))), ?_⟩
   rw[← Yn];exact g3
  ·obtain⟨n,h1,h2,h3⟩:=Ig f3 hold
   have:=hc n h1 h2
   omega
theorem XI:∀ {es:List (SV×SV×Nat)}{fs:List (AV×AV×Nat)},mK E es fs→∀ {k v:SV}{a b:AV}{n:Nat},SR E k a→SR E v b→mK E (abJ es (k,v,n)) (fs++[(a,b,n)])
 |_,_,.nil,_,_,_,_,_,h1,h2=>.cons _ _ _ _ _ _ _ h1 h2 .nil
 |_,_,.cons k v n a b x y p q r,_,_,_,_,_,h1,h2=>.cons _ _ _ _ _ _ _ p q (XI r h1 h2)
theorem ZV{k v:SV}{a b:AV}(h1:SR E k a)(h2:SR E v b):∀ {es:List (SV×SV×Nat)}{fs:List (AV×AV×Nat)},mK E es fs→∀ i,mK E (adz k v es i) (MN a b fs i)
 |_,_,.nil,i=>by simp only[adz,MN];exact .nil
 |_,_,.cons _ _ n _ _ x y p q r,0=>.cons _ _ _ _ _ _ _ h1 h2 r
 |_,_,.cons _ _ n _ _ x y p q r,i+1=>.cons _ _ _ _ _ _ _ p q (ZV h1 h2 r i)
theorem XK:∀ {es:List (SV×SV×Nat)}{fs:List (AV×AV×Nat)},mK E es fs→∀ i,mK E (TW es i) (fs.eraseIdx i)
 |_,_,.nil,i=>by simp only[TW,List.eraseIdx_nil];exact .nil
 |_,_,.cons _ _ n _ _ x y p q r,0=>r
 |_,_,.cons _ _ n _ _ x y p q r,i+1=>.cons _ _ _ _ _ _ _ p q (XK r i)
theorem aiW(hH:HR E H M){C:aI}{a' : Bool}{ks:List Nat}{m k v:XO}{am ak av:AV}(hm:SR E (ev m V T) am)(hk:SR E (ev k V T) ak)(hv:SR E (ev v V T) av)(h:acG a' ks m k v C V T H K=true):QP a' ks M am ak av (HK E K .undef):=by
 unfold acG at h
 generalize ev m V T=sm at *
 generalize ev k V T=sk at *
 generalize ev v V T=sv at *
 split at h <;>try(cases h;done)
 rename_i kb
 split at h <;>try(cases h;done)
 rename_i es c kc hg hkc
 split at h <;>try(cases h;done)
 rename_i hl
 cases hm with|map _ b' e =>
 obtain⟨fs,h1,h2,h3⟩:=map_ok hH hg e
 obtain⟨us,g1,g2⟩:=KW hkc hk
 have hl:=(FX g2 g2 hl).1
 obtain⟨r,f1,f2⟩:=Hu g2 h3 h
 refine⟨b',fs,c,us,r,rfl,h1,g1,hl,f1, ?_⟩
 have ho:bR E kb (hget H kb)=[b']:=by rw[hg];simp only[bR,e]
 rcases f2 with⟨rfl,f3⟩|⟨_,j,va,sva,rfl,_,f4⟩
 ·exact⟨E,_,_,.refl E,hH.ah2 e h2 ho (XI h3 hk hv),.tup _ _ .nil,f3⟩
 ·exact⟨E,_,_,.refl E,hH.ah2 e h2 ho (ZV hk hv h3 j),.tup _ _ .nil,f4⟩
theorem amA{b:Nat}{x:RB}(h:M.heap b=some x):M.put b x=M:=by
 unfold RM.put
 have:(fun c=>if c=b then some x else M.heap c)=M.heap:=by
  funext c;split
  ·rename_i e;rw[e,h]
  ·rfl
 rw[this]
theorem ahm(hH:HR E H M){C:aI}{a' : Bool}{ks:List Nat}{m k:XO}{am ak:AV}(hm:SR E (ev m V T) am)(hk:SR E (ev k V T) ak)(h:adh a' ks m k C V T H K=true):Qr a' ks M am ak (HK E K):=by
 unfold adh at h
 generalize ev m V T=sm at *
 generalize ev k V T=sk at *
 split at h <;>try(cases h;done)
 rename_i kb
 split at h <;>try(cases h;done)
 rename_i es c kc hg hkc
 split at h <;>try(cases h;done)
 rename_i hl
 cases hm with|map _ b' e =>
 obtain⟨fs,h1,h2,h3⟩:=map_ok hH hg e
 obtain⟨us,g1,g2⟩:=KW hkc hk
 have hl:=(FX g2 g2 hl).1
 obtain⟨r,f1,f2⟩:=Hu g2 h3 h
 refine⟨b',fs,c,us,r,rfl,h1,g1,hl,f1, ?_⟩
 have ho:bR E kb (hget H kb)=[b']:=by rw[hg];simp only[bR,e]
 rcases f2 with⟨rfl,f3⟩|⟨_,j,va,sva,rfl,_,f4⟩
 ·simp only[aqw]
  rw[amA h1]
  exact dN hH (.tup _ _ .nil) f3
 ·exact⟨E,_,_,.refl E,hH.ah2 e h2 ho (XK h3 j),.tup _ _ .nil,f4⟩
end
def fO(P:Program)(G:Gd)(B:Base)(C:aI):Prop:=∀ f args H K E M avs,E.g=G→E.bs=B→HR E H M→aP E args avs→C f args H K=true→dL P f avs M (HK E K)
def GR(P:Program)(g:FuncId)(avs:List AV)(M:RM)(Q:aj):Prop :=
 match P.funcs[g]? with
 |some fn=>match fn.body with
  |some _=>dL P g avs M Q
  |none=>iT P g avs M Q
 |none=>False
def kJ(P:Program)(G:Gd)(B:Base)(N:Nat→Option NC)(X:jA):Prop :=
 ∀ g c,N g=some c→∀ C,fO P G B C→∀ args H K E M avs,E.g=G→E.bs=B→HR E H M→aP E args avs→X c C args H K=true→GR P g avs M (HK E K)
section
variable {P:Program} {G:Gd} {B:Base} {N:Nat→Option NC} {X:jA} {E:En} {V:VS} {T:TS} {H H' : SH} {M:RM} {K:KS} {C:aI} {o:Oper} {eX:Operand→XO} {e:Operand→AV}
theorem FI(he:∀ z,SR E (ev (eX z) V T) (e z)):∀ (l:List Operand),aP E (IQ V T (l.map eX)) (l.map e)
 |[]=>.nil
 |x::l=>.cons _ _ _ _ (he x) (FI he l)
theorem dO{p:Prop}(h:vO X uo .bad C V T H K=true):p:=(Bool.false_ne_true h).elim
theorem dS{g:FuncId}{avs:List AV}{Q:aj}(h:dL P g avs M Q):GR P g avs M Q:=by
 obtain⟨fn,c,h1,h2⟩:=h.1
 simp only[GR,h1,h2]
 exact h
theorem abm{g:FuncId}{args:Array Operand}{ts:Array TypeId}(hop:o.op=.call ⟨.value (.func g),args,ts⟩){Q:aj}(h:GR P g (args.toList.map e) M Q):dC P o e M Q:=by
 simp only[dC,hop]
 exact h
theorem akA(hC:fO P G B C)(hN:kJ P G B N X)(hg:E.g=G)(hbs:E.bs=B)(hH:HR E H M)(he:∀ z,SR E (ev (eX z) V T) (e z)){g:FuncId}{args:Array Operand}{ts:Array TypeId}(hop:o.op=.call ⟨.value (.func g),args,ts⟩)(h:vO X uo (cE P N o eX) C V T H K=true):dC P o e M (HK E K):=by
 refine abm (e:=e) hop ?_
 simp only[cE,hop]at h
 split at h
 ·rename_i c hc
  exact hN g c hc C hC _ _ _ _ _ _ hg hbs hH (FI he args.toList) h
 ·exact dS (hC g _ _ _ _ _ _ hg hbs hH (FI he args.toList) h)
theorem air(hC:fO P G B C)(hg:E.g=G)(hbs:E.bs=B)(hH:HR E H M){f:XO}{xs:List XO}{a:AV}{us:List AV}(hf:SR E (ev f V T) a)(hx:aP E (IQ V T xs) us)(h:AO uo f xs C V T H K=true):GX (dL P) a us M (HK E K):=by
 unfold AO at h
 generalize ev f V T=sf at *
 split at h <;>try(cases h;done)
 rename_i g fs cs
 cases hf with|fn _ _ _ us1 us2 h1 h2 =>
 refine⟨g,us1,us2,rfl, ?_⟩
 rw[List.append_assoc]
 exact hC g _ _ _ _ _ _ hg hbs hH (h1.rZ (hx.rZ h2)) h
theorem ae0(hH:HR E H M)(he:∀ z,SR E (ev (eX z) V T) (e z)){args:Array Operand}{ts:Array TypeId}(hop:o.op=.call ⟨.builtin .append,args,ts⟩)(h:vO X uo (cE P N o eX) C V T H K=true):dC P o e M (HK E K):=by
 simp only[cE,hop]at h
 simp only[dC,hop]
 split at h <;>try exact dO h
 rename_i t s x h1
 rw[h1]
 dsimp only
 split at h <;>try exact dO h
 rename_i elem zeros h2 h3
 rw[h2,h3]
 dsimp only
 split at h <;>try exact dO h
 rename_i size bytes zs h4 h5 h6
 split at h <;>try exact dO h
 rename_i g1 g2
 obtain⟨vs,e1,e2,e3⟩:=Jt (E:=E) h6
 have e4:zs.length=vs.length:=by rw[← Ap,e2.length]
 rw[e4]at g2
 simp only[h4,h5,e1,g1,g2]
 exact alc (C:=C) hH e2 (Nat.eq_of_beq_eq_true g2) (he s) (he x) h
theorem alO(hH:HR E H M)(he:∀ z,SR E (ev (eX z) V T) (e z)){args:Array Operand}{ts:Array TypeId}(hop:o.op=.call ⟨.builtin .copy,args,ts⟩)(h:vO X uo (cE P N o eX) C V T H K=true):dC P o e M (HK E K):=by
 simp only[cE,hop]at h
 simp only[dC,hop]
 split at h <;>try exact dO h
 rename_i t s x h1
 rw[h1]
 dsimp only
 split at h <;>try exact dO h
 rename_i elem h2
 rw[h2]
 dsimp only
 split at h <;>try exact dO h
 rename_i size h4
 rw[h4]
 exact aho (C:=C) hH (he s) (he x) h
theorem agG(hH:HR E H M)(he:∀ z,SR E (ev (eX z) V T) (e z)){args:Array Operand}{ts:Array TypeId}(hop:o.op=.call ⟨.builtin .clear,args,ts⟩)(h:vO X uo (cE P N o eX) C V T H K=true):dC P o e M (HK E K):=by
 simp only[cE,hop]at h
 simp only[dC,hop]
 split at h <;>try exact dO h
 rename_i t x h1
 rw[h1]
 dsimp only
 split at h <;>try exact dO h
 rename_i elem h2
 rw[h2]
 dsimp only
 split at h <;>try exact dO h
 rename_i size zs h4 h6
 split at h <;>try exact dO h
 rename_i g1 g2
 obtain⟨vs,e1,e2,e3⟩:=Jt (E:=E) h6
 have e4:zs.length=vs.length:=by rw[← Ap,e2.length]
 rw[e4]at g2
 simp only[h4,e1,g1,g2]
 exact ae7 (C:=C) hH e2 (he x) h
theorem akJ(hH:HR E H M)(he:∀ z,SR E (ev (eX z) V T) (e z)){args:Array Operand}{ts:Array TypeId}(hop:o.op=.call ⟨.builtin .unsafeString,args,ts⟩)(h:vO X uo (cE P N o eX) C V T H K=true):dC P o e M (HK E K):=by
 simp only[cE,hop]at h
 simp only[dC,hop]
 split at h <;>try exact dO h
 rename_i t s x h1
 rw[h1]
 dsimp only
 split at h <;>try exact dO h
 rename_i el h2
 rw[h2]
 dsimp only
 split at h <;>try exact dO h
 rename_i h3 h4
 rw[h3,h4]
 exact aiB (C:=C) hH (he s) (he x) h
theorem aer(hH:HR E H M)(he:∀ z,SR E (ev (eX z) V T) (e z)){args:Array Operand}{ts:Array TypeId}(hop:o.op=.call ⟨.builtin .delete,args,ts⟩)(h:vO X uo (cE P N o eX) C V T H K=true):dC P o e M (HK E K):=by
 simp only[cE,hop]at h
 simp only[dC,hop]
 split at h <;>try exact dO h
 rename_i t m k h1
 rw[h1]
 dsimp only
 split at h <;>try exact dO h
 rename_i kt et h2
 rw[h2]
 dsimp only
 split at h <;>try exact dO h
 rename_i ks a h3 h4
 rw[h3,h4]
 exact ahm (C:=C) hH (he m) (he k) h
theorem ajH(hC:fO P G B C)(hN:kJ P G B N X)(hg:E.g=G)(hbs:E.bs=B)(hH:HR E H M)(he:∀ z,SR E (ev (eX z) V T) (e z))(h:vO X uo (cE P N o eX) C V T H K=true):dC P o e M (HK E K):=by
 have hh:=h
 cases hop:o.op
 case store t a x =>
  simp only[cE,hop]at h
  simp only[dC,hop]
  split at h <;>try exact dO h
  rename_i n hs
  rw[hs]
  exact aeU (C:=C) hH (he a) (he x) h
 case next it s =>
  cases s with
  |true=>simp only[cE,hop]at h;exact dO h
  |false =>
   simp only[cE,hop]at h
   simp only[dC,hop]
   exact af5 (C:=C) hH (he it) h
 case range t x =>
  simp only[cE,hop]at h
  simp only[dC,hop]
  split at h <;>try exact dO h
  rename_i kt et h2
  rw[h2]
  exact adb (C:=C) hH (he x) h
 case mapUpdate t m k x =>
  simp only[cE,hop]at h
  simp only[dC,hop]
  split at h <;>try exact dO h
  rename_i kt et h2
  rw[h2]
  dsimp only
  split at h <;>try exact dO h
  rename_i ks a h3 h4
  rw[h3,h4]
  exact aiW (C:=C) hH (he m) (he k) (he x) h
 case convert s d x =>
  simp only[cE,hop]at h
  simp only[dC,hop]
  split at h <;>try exact dO h
  rename_i el h1 h2
  rw[h1,h2]
  dsimp only
  split at h <;>try exact dO h
  rename_i h3
  rw[h3]
  exact ag1 (C:=C) hH (he x) h
 case call c =>
  obtain⟨callee,args,ts⟩:=c
  cases callee with
  |builtin b =>
   cases b
   case append=>exact ae0 hH he hop h
   case copy=>exact alO hH he hop h
   case clear=>exact agG hH he hop h
   case unsafeString=>exact akJ hH he hop h
   case delete=>exact aer hH he hop h
   all_goals (simp only[cE,hop]at hh;exact dO hh)
  |value f =>
   cases f
   case func g=>exact akA hC hN hg hbs hH he hop h
   all_goals
    simp only[cE,hop]at h
    simp only[dC,hop]
    exact air hC hg hbs hH (he _) (FI he _) h
  |invoke r m=>simp only[cE,hop]at hh;exact dO hh
 all_goals (simp only[cE,hop]at hh;exact dO hh)
end
end Go.Ab.Sy
namespace Go.Ab.Sy
open Go Go.Ab Go.RowKit
def fP(E:En)(U:Tree Ky)(S:TS)(T:Tree AV):Prop:=∀ t k,U.get t=some k→SR E (qm .top k S) ((T.get t).getD .top)
def Bq(U:Tree Ky):Prop:=∀ t t' k,U.get t=some k→U.get t'=some k→t=t'
section
variable {P:Program} {G:Gd} {B:Base} {N:Nat→Option NC} {X:jA} {E:En} {V:VS} {T:TS} {H H' : SH} {M:RM} {K:KV} {C:aI} {o:Oper} {eX:Operand→XO} {e:Operand→AV}
theorem aaE(he:∀ z,SR E (ev (eX z) V T) (e z)){d n:Nat}{y:Option Operand}(h:uy d (y.map eX) V T=some n):gM e d y=some n:=by
 cases y with
 |none=>exact h
 |some z =>
  obtain⟨k,hk⟩:=sO (show BD (ev (eX z) V T)=some n from h) (he z)
  simp only[gM,hk]
  rfl
theorem alI(hH:HR E H M)(he:∀ z,SR E (ev (eX z) V T) (e z)){t elem size:Nat}{x:Operand}{lo hi:Option Operand}(hop:o.op=.slice t x lo hi none)(hu:P.underlying t=some (.slice elem))(hs:aL P elem=some size)
  (h:abV size (eX x) (lo.map eX) (hi.map eX) V T H K=true):∃ v,gH P o e M v∧RK E K v:=by
 unfold abV at h
 split at h
 ·rename_i hb
  have hx:=he x
  unfold arG at h
  unfold beyond at hb
  generalize hex:ev (eX x) V T=sx at *
  split at h <;>try(cases h;done)
  rename_i k p len esz
  split at h <;>try(cases h;done)
  rename_i l hh cs el hl hhi hk
  split at h <;>try(cases h;done)
  rename_i c1 c2 c3
  have c1:=bB c1
  subst c1
  have c2:=eH c2
  have c3:=bP c3
  dsimp only at hb
  rw[hhi]at hb
  have hb:Nat.blt len hh=true:=hb
  have hb:=eH hb
  generalize hax:e x=ax at *
  cases hx with|slc _ _ _ b' _ eb =>
  refine⟨_,fun ρ w c M' hsub hw hev=>?_,_,.slc _ _ _ _ _ eb,h⟩
  have h1:=hH.blk k
  rw[hk]at h1
  obtain⟨b2,ds,g1,g2,g3,g4,g5⟩:=h1
  rw[eb]at g1;cases g1
  have g3:=hsub.2 _ _ g3
  obtain⟨A,hA⟩:=hw
  cases hi with
  |none =>
   have hh2:hh=len:=by
    have:some len=some hh:=hhi
    cases this;rfl
   omega
  |some y =>
   have hy:gm (e y)=some hh:=aaE (e:=e) he (y:=some y) hhi
   have hlo:gM e 0 lo=some l:=aaE he hl
   rcases hA.blk b' _ g3 with⟨yb,hyb,hle⟩|⟨cc,e2,_⟩
   ·cases yb <;>try exact hle.elim
    rename_i n tr zs opn el' fz
    obtain⟨q1,rfl,rfl,rfl,_⟩:=hle
    refine Be hA.rel hev ?_
    simp only[j4,hop,hu,hax,hlo,hy]
    have hnb:Nat.ble hh len=false:=by
     cases hc:Nat.ble hh len with
     |false=>rfl
     |true=>have:=bP hc;omega
    rw[hnb]
    dsimp only
    rw[hyb,hs]
    dsimp only
    have e1:Nat.ble (l+1) hh=true:=Nat.ble_eq_true_of_le c2
    have e2:Nat.beq size size=true:=by simp
    have e3:Nat.ble (p+hh*size) n=true:=Nat.ble_eq_true_of_le (by rw[← q1,← g4.length];exact c3)
    simp only[e1,e2,e3,Bool.and_self]
    rfl
   ·cases e2
 ·have h1:iA (cV P o eX) V T H K=true:=by
   simp only[cV,hop,hu,hs]
   exact h
  obtain⟨v,hg,hk⟩:=wN (X7 (M:=M) hH he hop h1)
  exact⟨v,by rcases hg with hg|⟨_,hg⟩<;>first|exact hg M|exact hg,hk⟩
theorem apB(hH:HR E H M)(he:∀ z,SR E (ev (eX z) V T) (e z))(h:iA (cVp P o eX) V T H K=true):∃ v,gH P o e M v∧RK E K v:=by
 have old:iA (cV P o eX) V T H K=true→∃ v,gH P o e M v∧RK E K v:=by
  intro h
  obtain⟨v,hg,hk⟩:=abK (M:=M) hH he h
  exact⟨v,by rcases hg with hg|⟨_,hg⟩<;>first|exact hg M|exact hg,hk⟩
 unfold cVp at h
 split at h
 ·rename_i t x lo hi hop
  split at h
  ·rename_i elem hu
   split at h
   ·rename_i size hs
    exact alI hH he hop hu hs h
   ·exact aG h
  ·exact old h
 ·exact old h
theorem asM(hP:POk P)(hC:fO P G B C)(hN:kJ P G B N X)(hg:E.g=G)(hbs:E.bs=B)(hH:HR E H M)(he:∀ z,SR E (ev (eX z) V T) (e z))(he0:∀ g,e (.func g)=.fn (.func g) [] []){K:KS}(h:Np X uo (cO P N o eX) C V T H K=true):iU P o e M (HK E K):=by
 have val:(kindOf P o=.pure∨kindOf P o=.read)→iU P o e M (HK E K):=by
  intro hk
  have h:iA (cVp P o eX) V T H (fun v=>K v H)=true:=by
   unfold cO at h
   rcases hk with hk|hk<;>rw[hk]at h<;>exact h
  obtain⟨v,hgv,sv,h1,h2⟩:=apB hH he h
  intro ρ w c hw hev
  obtain⟨v',k1,k2⟩:=hgv ρ w c M (RM.Sub.refl M) hw hev
  exact⟨M,ρ,w,After.refl hw,.inl ⟨v',v,k1,k2,dN hH h1 h2⟩⟩
 cases hk:kindOf P o with
 |pure=>exact val (.inl hk)
 |read=>exact val (.inr hk)
 |alloc =>
  unfold cO at h
  rw[hk]at h
  have h:runN (cN P o eX) V T (fun x mk=>K (mk H.nx) (hpush H x))=true:=h
  obtain⟨x,mk,hm,bk,mks,h4,h5⟩:=qL (acL (E:=E) he h)
  intro ρ w c hw hev
  obtain⟨ρ',w',u,k1,k2,k3⟩:=Mw hw hev hm
  obtain⟨E',g1,g2,g3,_⟩:=h4.nok H M hH
  exact⟨_,ρ',w',k2,.inl ⟨u,_,k1,k3,E',_,_,g1,g2,g3,h5⟩⟩
 |nS =>
  refine V5 hP he0 ?_
  unfold opW
  unfold cO at h
  rw[hk]at h ⊢
  exact ajH hC hN hg hbs hH he h
end
set_option maxRecDepth 10000
def RY(P:Program)(G:Gd)(B:Base)(r:Option Nat)(n:Nat)(Y:YS)(E0:En)(M0:RM)(ρ0:Ren)(w0:World):Prop :=
 ∀ E H M k av args avs K,E0.le E→E.g=G→E.bs=B→HR E H M→E.sl k=some av→aP E args avs→Y k args H K=true →
   ∀ (ρ:Ren)(w:World)(uf:Value)(us:List Value),After P M0 ρ0 w0 M ρ w→ai ρ av uf→aQ ρ avs us →
     ∃ l u,uf=.func (.yield l) #[] #[]∧us=[u]∧YieldAt (xW r) (n-1) P l #[u] w (fun e w'=>∃ v',e=.returned v'∧∃ M' ρ' vv,After P M ρ w M' ρ' w'∧ai ρ' vv v'∧HK E K vv M')
theorem XD{P:Program}{G:Gd}{B:Base}{r:Option Nat}{n:Nat}{E0:En}{M0:RM}{ρ0:Ren}{w0:World}:RY P G B r n uo E0 M0 ρ0 w0:=fun _ _ _ _ _ _ _ _ _ _ _ _ _ _ h=>(Bool.false_ne_true h).elim
theorem RY.mono{P:Program}{G:Gd}{B:Base}{r:Option Nat}{n:Nat}{Y:YS}{E0 E1:En}{M0 M1:RM}{ρ0 ρ1:Ren}{w0 w1:World}(h:RY P G B r n Y E0 M0 ρ0 w0)(hle:E0.le E1)(ha:After P M0 ρ0 w0 M1 ρ1 w1):RY P G B r n Y E1 M1 ρ1 w1 :=
 fun E H M k av args avs K p1 p2 p3 p4 p5 p6 p7 ρ w uf us q1 q2 q3=>h E H M k av args avs K (hle.trans p1) p2 p3 p4 p5 p6 p7 ρ w uf us (ha.trans q1) q2 q3
section
variable {P:Program} {G:Gd} {B:Base} {N:Nat→Option NC} {X:jA} {E:En} {U:Tree Ky} {S:TS} {T:Tree AV} {H H' : SH} {M:RM} {C:aI}
theorem fP.mono{E' : En}(h:fP E U S T)(k:E.le E'):fP E' U S T:=fun t q ht=>(h t q ht).mono k
theorem fP.set(hU:Bq U)(h:fP E U S T){d:Nat}{k:Ky}{sv:SV}{v:AV}(hk:U.get d=some k)(hv:SR E sv v):fP E U (ru .top k S sv) (T.set d v):=by
 intro t q ht
 rw[Tree.bn]
 by_cases e:t=d
 ·subst e
  rw[hk]at ht;cases ht
  rw[if_pos rfl,CJ]
  exact hv
 ·rw[if_neg e,LQ _ _ _ _ _ (fun hq=>e (hU _ _ _ ht (by rw[hk,hq])))]
  exact h t q ht
theorem fP.skip(h:fP E U S T){d:Nat}{v:AV}(hk:U.get d=none):fP E U S (T.set d v):=by
 intro t q ht
 rw[Tree.bn]
 by_cases e:t=d
 ·subst e;rw[hk]at ht;cases ht
 ·rw[if_neg e];exact h t q ht
theorem adA(v:Value):SR E (kS v) ((gy v).getD .top):=by
 unfold kS
 cases gy v with
 |none=>exact .top _
 |some a=>exact Rp a
theorem FZ(h:fP E U S T)(V:VS)(t:Nat):SR E (ev (QQ U t) V S) ((T.get t).getD .top):=by
 unfold QQ
 cases hu:U.get t with
 |none=>exact .top _
 |some k=>exact h t k hu
theorem Yc(h:fP E U S T)(V:VS)(z:Operand):SR E (ev (yF U z) V S) (wQ M (lG T) z):=by
 cases z with
 |tmp t=>exact FZ h V t
 |const v=>exact adA v
 |global g=>exact .top _
 |func f=>exact .fn _ _ _ _ _ .nil .nil
theorem UZ{sv:SV}{u:AV}(hs:SR E sv u){want yes no:Bool}(h:acs sv want yes no=true):(u=Bo want∧yes=true)∨((u=.undef∨∃ b,u=Bo b∧b≠want)∧no=true):=by
 unfold acs at h
 split at h <;>try(cases h;done)
 ·rename_i b
  cases hs
  split at h
  ·rename_i e
   rw[pG]at e
   exact .inl ⟨by rw[eq_of_beq e],h⟩
  ·rename_i e
   rw[pG]at e
   exact .inr ⟨.inr ⟨b,rfl,fun hc=>by rw[hc]at e;simp at e⟩,h⟩
 ·cases hs with|tup _ _ k=>cases k;exact .inr ⟨.inl rfl,h⟩
theorem aiU{Y:YS}{x:XF}(h:∀ f xs,x≠.Uk f xs):vO X Y x=vO X uo x:=by
 cases x <;>try rfl
 rename_i f xs
 exact absurd rfl (h f xs)
theorem agx{o:Oper}{eX:Operand→XO}{f:XO}{xs:List XO}(h:cE P N o eX=.Uk f xs):∃ f0 args ts,o.op=.call ⟨.value f0,args,ts⟩∧f=eX f0∧xs=args.toList.map eX:=by
 cases hop:o.op
 case call c =>
  obtain⟨callee,args,ts⟩:=c
  cases callee with
  |value f0 =>
   cases f0
   case func g =>
    simp only[cE,hop]at h
    split at h<;>cases h
   all_goals
    simp only[cE,hop]at h
    cases h
    exact⟨_,_,_,rfl,rfl,rfl⟩
  |builtin b =>
   exfalso
   cases b
   case append =>
    simp only[cE,hop]at h
    repeat' (first|(cases h;done)|split at h)
   case copy =>
    simp only[cE,hop]at h
    repeat' (first|(cases h;done)|split at h)
   case clear =>
    simp only[cE,hop]at h
    repeat' (first|(cases h;done)|split at h)
   case unsafeString =>
    simp only[cE,hop]at h
    repeat' (first|(cases h;done)|split at h)
   case delete =>
    simp only[cE,hop]at h
    repeat' (first|(cases h;done)|split at h)
   all_goals (simp only[cE,hop]at h;cases h)
  |invoke r m=>simp only[cE,hop]at h;cases h
 case store t a x =>
  simp only[cE,hop]at h
  split at h<;>cases h
 case next it s=>cases s<;>(simp only[cE,hop]at h;cases h)
 case range t x =>
  simp only[cE,hop]at h
  split at h<;>cases h
 case mapUpdate t m k x =>
  simp only[cE,hop]at h
  repeat' (first|(cases h;done)|split at h)
 case convert s d x =>
  simp only[cE,hop]at h
  repeat' (first|(cases h;done)|split at h)
 all_goals (simp only[cE,hop]at h;cases h)
theorem abT{Y:YS}{o:Oper}{eX:Operand→XO}{V:VS}{K:KS}(h:Np X Y (cO P N o eX) C V S H K=true) :
  Np X uo (cO P N o eX) C V S H K=true∨∃ f0 args ts k,o.op=.call ⟨.value f0,args,ts⟩∧ev (eX f0) V S=.bs k∧Y k (IQ V S (args.toList.map eX)) H K=true:=by
 unfold cO at h ⊢
 cases hk:kindOf P o with
 |pure=>rw[hk]at h;exact .inl h
 |read=>rw[hk]at h;exact .inl h
 |alloc=>rw[hk]at h;exact .inl h
 |nS =>
  rw[hk]at h
  dsimp only at h ⊢
  have h:vO X Y (cE P N o eX) C V S H K=true:=h
  by_cases hc:∃ f xs,cE P N o eX=.Uk f xs
  ·obtain⟨f,xs,hc⟩:=hc
   obtain⟨f0,args,ts,hop,rfl,rfl⟩:=agx hc
   rw[hc]at h ⊢
   have h:AO Y (eX f0) (args.toList.map eX) C V S H K=true:=h
   unfold AO at h
   split at h <;>try(cases h;done)
   ·rename_i g fs cs he
    refine .inl ?_
    show AO uo (eX f0) (args.toList.map eX) C V S H K=true
    unfold AO
    rw[he]
    exact h
   ·rename_i k he
    exact .inr ⟨f0,args,ts,k,hop,he,h⟩
  ·rw[aiU (fun f xs he=>hc ⟨f,xs,he⟩)]at h
   exact .inl h
theorem CF(hP:POk P)(hC:fO P G B C)(hN:kJ P G B N X)(hU:Bq U){nt:Nat}{ops:Array Oper}{r:Option Nat}{n:Nat}{Y:YS}{ds:List Deferred}{Q' : Exit→Act→World→Prop}{K:TS→SH→Bool}{M0:RM}{ρ0:Ren}{w0:World}{E0:En}(hY:RY P G B r n Y E0 M0 ρ0 w0)(hg:E0.g=G)(hbs:E0.bs=B)(hnd:ops.toList.all Dh=true)
  (hQ:∀ E' S' H' T' M' ρ' a' w',E0.le E'→HR E' H' M'→fP E' U S' T'→After P M0 ρ0 w0 M' ρ' w'→fo ρ' nt T' a'→K S' H'=true→Q' .normal (wd ds a') w') :
  ∀ (l:List Oper)(i:Nat)(xs:List XS){E:En}{S:TS}{H:SH}{ρ:Ren}{M:RM}{w:World}{T:Tree AV}{a:Act},ops.toList.drop i=l→abq P N U nt ops l=some xs→E0.le E→HR E H M→fP E U S T→fo ρ nt T a→After P M0 ρ0 w0 M ρ w→FP X Y xs C S H K=true →
    wpOpsIn (xW r) n P ops Q' (List.range' i l.length) (wd ds a) w
 |[],i,xs,E,S,H,ρ,M,w,T,a,_,hc,hle,hH,hT,hA,hw,h=>by
  cases hc
  exact hQ _ _ _ _ _ _ _ _ hle hH hT hw hA h
 |o::rest,i,xs,E,S,H,ρ,M,w,T,a,hl,hc,hle,hH,hT,hA,hw,h=>by
  have ho:ops[i]?=some o:=by
   have:ops.toList[i]?=some o:=by
    have h0:(ops.toList.drop i)[0]?=some o:=by rw[hl];rfl
    rw[List.getElem?_drop]at h0;exact h0
   rw[← Array.getElem?_toList];exact this
  have hdo:Dh o=true:=List.all_eq_true.1 hnd o (by
   have:ops.toList[i]?=some o:=by rw[Array.getElem?_toList];exact ho
   exact List.mem_of_getElem? this)
  have hl' : ops.toList.drop (i+1)=rest:=by
   rw[← List.drop_drop (i:=1) (j:=i)]<;>rw[hl];rfl
  rw[List.length_cons,List.range'_succ,wpOpsIn_cons]
  unfold wpOpIn
  simp only[ho]
  simp only[abq]at hc
  split at hc <;>try(cases hc;done)
  rename_i g hgd
  split at hc <;>try(cases hc;done)
  rename_i rr hr
  have hgE:E.g=G:=hle.g.trans hg
  have hbE:E.bs=B:=hle.bs.trans hbs
  have he:∀ x∈o.op.operands,ai ρ (wQ M (lG T) x) (a.eval x):=fun x _=>CX hw.rel (oJ hA) x
  -- what is owed behind a value
  have fin:∀ (d:Option Tmp),o.dst=d→(match d with
    |none=>some (XS.x (cO P N o (yF U)) g::rr)
    |some d=>match Nat.blt d nt with
     |true=>match U.get d with
      |some k=>some (XS.w (cO P N o (yF U)) g k::rr)
      |none=>some (XS.x (cO P N o (yF U)) g::rr)
     |false=>none)=some xs →
    ∃ Kop:SV→SH→Bool,(∀ E' sv H' v v' M' ρ' w',E.le E'→HR E' H' M'→SR E' sv v→After P M0 ρ0 w0 M' ρ' w'→ρ.le ρ'→ai ρ' v v'→Kop sv H'=true→wpOpsIn (xW r) n P ops Q' (List.range' (i+1) rest.length) (wd ds (a.put o.dst v')) w') ∧
      pX g [] S (Np X Y (cO P N o (yF U)) C [] S H Kop) (Kop .undef H)=true:=by
   intro d hd hx
   cases d with
   |none =>
    cases hx
    refine⟨fun _ H'=>FP X Y rr C S H' K,fun E' sv H' v v' M' ρ' w' k1 k2 k3 k4 k5 k6 k7=>?_,h⟩
    rw[hd]
    exact CF hP hC hN hU hY hg hbs hnd hQ rest (i+1) rr hl' hr (hle.trans k1) k2 (hT.mono k1) (hA.mono k5) k4 k7
   |some d =>
    dsimp only at hx
    split at hx <;>try(cases hx;done)
    rename_i hdn
    have hdn:=eH hdn
    have hput:∀ {v:AV}{v' : Value}{ρ' : Ren},ρ.le ρ'→ai ρ' v v'→fo ρ' nt (T.set d v) (a.put o.dst v'):=by
     intro v v' ρ' k5 k6
     rw[hd]
     exact LG (hA.mono k5) k6 (by simp only[QG];rw[aU.2 hdn])
    split at hx
    ·rename_i k hk
     cases hx
     refine⟨fun v H'=>FP X Y rr C (ru .top k S v) H' K,fun E' sv H' v v' M' ρ' w' k1 k2 k3 k4 k5 k6 k7=>?_,h⟩
     exact CF hP hC hN hU hY hg hbs hnd hQ rest (i+1) rr hl' hr (hle.trans k1) k2 ((hT.mono k1).set hU hk k3) (hput k5 k6) k4 k7
    ·rename_i hk
     cases hx
     refine⟨fun _ H'=>FP X Y rr C S H' K,fun E' sv H' v v' M' ρ' w' k1 k2 k3 k4 k5 k6 k7=>?_,h⟩
     exact CF hP hC hN hU hY hg hbs hnd hQ rest (i+1) rr hl' hr (hle.trans k1) k2 ((hT.mono k1).skip hk) (hput k5 k6) k4 k7
  obtain⟨Kop,aiw,hrun⟩:=fin o.dst rfl hc
  have next:Np X Y (cO P N o (yF U)) C [] S H Kop=true→o.wpIn (xW r) n P (wd ds a) w (wpOpsIn (xW r) n P ops Q' (List.range' (i+1) rest.length)) Q':=by
   intro h
   rcases abT h with h|⟨f0,args,ts,k,hop,hev,hy⟩
   ·refine akq (Q0:=fun _ _=>True) (K:=fun a' w'=>a'.defers=[]∧wpOpsIn (xW r) n P ops Q' (List.range' (i+1) rest.length) (wd ds a') w') hdo (fun _ _ _ h=>h.2) (fun _ _ h k=>h k.1) hA.defers ?_
    refine Qi (asM (M:=M) hP hC hN hgE hbE hH (fun z=>Yc hT [] z) (fun _=>rfl) h) hw.rel he fun v v' M' ρ' w' haft hv hk=>?_
    obtain⟨E',sv,H',k1,k2,k3,k4⟩:=hk
    exact⟨by rw[put_defers];exact hA.defers,aiw E' sv H' v v' M' ρ' w' k1 k2 k3 (hw.trans haft) (haft.le hw.rel) hv k4⟩
   ·have hf:=Yc (M:=M) hT [] f0
    rw[hev]at hf
    generalize hav:wQ M (lG T) f0=av at hf
    cases hf with|bs _ _ esl =>
    have hfv:=CX hw.rel (oJ hA) f0
    rw[hav]at hfv
    have hargs:aP E (IQ [] S (args.toList.map (yF U))) (args.toList.map (wQ M (lG T))):=FI (fun z=>Yc hT [] z) args.toList
    have hus:aQ ρ (args.toList.map (wQ M (lG T))) (args.toList.map a.eval):=by
     generalize args.toList=l
     induction l with
     |nil=>exact .nil
     |cons z zs ih=>exact .cons _ _ _ _ (CX hw.rel (oJ hA) z) ih
    obtain⟨l,u,e1,e2,fn,tmps,assign,bd,hyr,hR⟩:=hY E H M k av _ _ Kop hle hgE hbE hH esl hargs hy ρ w _ _ hw hfv hus
    have aqN:args.map a.eval = #[u]:=by
     apply Array.ext'
     rw[Array.toList_map,e2]
    refine⟨fun _ _=>trivial, ?_⟩
    rw[Oper.semAt_eq _ _ _ (YJ hdo),LD]
    have hx:(execOp a.eval o).run P w=.ok (.round l fn tmps assign bd) w:=by
     simp only[execOp,hop,resolve,Deferred.ofValue,e1,aqN,Sem.run_bind,Sem.run_pure,Result.andThen_ok,invoke]
     exact hyr
    rw[hx,Oper.uponIn_round]
    refine⟨fun h=>(by cases h),hR.mono ?_⟩
    rintro e w' ⟨v',rfl,M',ρ',vv,haft,hv,hk⟩
    obtain⟨E',sv,H',k1,k2,k3,k4⟩:=hk
    dsimp only
    rw[Bp]
    exact aiw E' sv H' vv v' M' ρ' w' k1 k2 k3 (hw.trans haft) (haft.le hw.rel) hv k4
  have skip:Kop .undef H=true→wpOpsIn (xW r) n P ops Q' (List.range' (i+1) rest.length) (wd ds (a.put o.dst undef)) w:=by
   intro h
   exact aiw E .undef H .undef undef M ρ w (.refl E) hH (.tup _ _ .nil) hw (fun _ _ h=>h) (.tup _ _ .nil) h
  have hyd:yielded ops (wd ds a).tmps=yielded ops a.tmps:=rfl
  rw[hyd]
  cases hgu:o.guard with
  |none =>
   rw[hgu]at hgd
   cases hgd
   have:Region.wanted o (yielded ops a.tmps)=true:=by simp[Region.wanted,hgu]
   rw[if_pos this]
   exact next hrun
  |some jw =>
   obtain⟨j,want⟩:=jw
   rw[hgu]at hgd
   dsimp only at hgd
   split at hgd <;>try(cases hgd;done)
   rename_i d hd
   cases hgd
   have hyv:yielded ops a.tmps j=match a.tmps[d]? with|some (.bool b)=>some b|_=>none:=by
    unfold yielded;rw[hd];rfl
   have hget:∀ t:Bool,a.tmps.getD d undef=.bool t↔a.tmps[d]?=some (.bool t):=by
    intro t
    rw[Array.getD_eq_getD_getElem?]
    cases hx:a.tmps[d]? with
    |none=>simp[undef]
    |some y=>simp
   have hv:=hA.val d
   rcases UZ (FZ hT [] d) hrun with⟨hu,hf⟩|⟨hn,hk⟩
   ·rw[hu]at hv
    have:Region.wanted o (yielded ops a.tmps)=true:=by
     simp only[Region.wanted,hgu,hyv,(hget want).1 (aH hv).1];simp
    rw[if_pos this]
    exact next hf
   ·have hn:∀ b,a.tmps.getD d undef=.bool b→b≠want:=by
     intro b hb
     rcases hn with hn|⟨b',hn,hne⟩
     ·rw[hn]at hv
      obtain⟨vs,hc,_⟩:=EZ hv
      rw[hc]at hb;cases hb
     ·rw[hn]at hv
      rw[(aH hv).1]at hb;cases hb;exact hne
    have:Region.wanted o (yielded ops a.tmps)=false:=by
     simp only[Region.wanted,hgu,hyv]
     cases hx:a.tmps[d]? with
     |none=>rfl
     |some y =>
      cases y<;>try rfl
      rename_i b
      have:=hn b ((hget b).2 hx)
      simpa using this
    rw[if_neg (by rw[this];simp)]
    exact⟨fun _ _=>trivial,by rw[Bp];exact skip hk⟩
end
section
variable {E:En}
theorem VT{c d:Cap}(h:aaG c d=true):c=d:=by
 cases c<;>cases d<;>first|(cases h;done)|(rw[bB (show Nat.beq _ _=true from h)])
theorem adL{a b:Int}(h:DC a b=true):a=b:=by rw[EX]at h;exact eq_of_beq h
mutual
theorem Aj:∀ {x:SV}{u:AV},SR E x u→∀ {y:SV}{w:AV},SR E y w→rA x y=true→u=w
 |_,_,.top v,_,_,k,h=>by cases k<;>cases h
 |_,_,.b x,_,_,k,h=>by
  cases k <;>try(cases h;done)
  rename_i y
  have h:IR x y=true:=h
  rw[pG]at h
  rw[eq_of_beq h]
 |_,_,.i a n,_,_,k,h=>by
  cases k <;>try(cases h;done)
  rename_i b m
  simp only[rA]at h
  split at h <;>try(cases h;done)
  rename_i h1
  rw[jM h1,adL h]
 |_,_,.iv a lo hi n _ _,_,_,k,h=>by cases k<;>cases h
 |_,_,.s x l d,_,_,k,h=>by
  cases k <;>try(cases h;done)
  rename_i y m d'
  rw[EY (show rO x y=true from h) d d']
 |_,_,.ln x l d,_,_,k,h=>by
  cases k <;>try(cases h;done)
  rename_i y m d'
  rw[EY (show rO x y=true from h) d d']
 |_,_,.ns,_,_,k,h=>by cases k<;>first|(cases h;done)|rfl
 |_,_,.o v,_,_,k,h=>by
  cases k <;>try(cases h;done)
  rename_i w
  simp only[rA]at h
  split at h<;>first|(cases h;done)|rfl
 |_,_,.ptr a o b e,_,_,k,h=>by
  cases k <;>try(cases h;done)
  rename_i c p d e'
  simp only[rA]at h
  split at h <;>try(cases h;done)
  rename_i h1
  cases(jE _ _).1 h1
  rw[e]at e';cases e'
  rw[bB h]
 |_,_,.pw a lo hi n b e _ _,_,_,k,h=>by cases k<;>cases h
 |_,_,.slc a o n b c e,_,_,k,h=>by
  cases k <;>try(cases h;done)
  rename_i a2 o2 n2 b2 c2 e2
  simp only[rA]at h
  split at h <;>try(cases h;done)
  rename_i h1 h2 h3
  cases(jE _ _).1 h1
  rw[e]at e2;cases e2
  rw[bB h2,bB h3,VT h]
 |_,_,.emp a b,_,_,k,h=>by cases k<;>cases h
 |_,_,.bs a v e,_,_,k,h=>by
  cases k <;>try(cases h;done)
  rename_i c e'
  cases(jE _ _).1 (show mU a c=true from h)
  rw[e]at e';cases e';rfl
 |_,_,.map a b e,_,_,k,h=>by
  cases k <;>try(cases h;done)
  rename_i c d e'
  cases(jE _ _).1 (show mU a c=true from h)
  rw[e]at e';cases e';rfl
 |_,_,.fn f xs ys us vs p q,_,_,k,h=>by
  cases k <;>try(cases h;done)
  rename_i g xs2 ys2 us2 vs2 p2 q2
  simp only[rA]at h
  split at h <;>try(cases h;done)
  rename_i h1 h2
  rw[bB h1,vY p p2 h2,vY q q2 h]
 |_,_,.ifc t x v p,_,_,k,h=>by
  cases k <;>try(cases h;done)
  rename_i t2 x2 v2 p2
  simp only[rA]at h
  split at h <;>try(cases h;done)
  rename_i h1
  rw[bB h1,Aj p p2 h]
 |_,_,.agg l vs p,_,_,k,h=>by
  cases k <;>try(cases h;done)
  rename_i l2 vs2 p2
  rw[vY p p2 (show wS l l2=true from h)]
 |_,_,.tup l vs p,_,_,k,h=>by
  cases k <;>try(cases h;done)
  rename_i l2 vs2 p2
  rw[vY p p2 (show wS l l2=true from h)]
theorem vY:∀ {xs:List SV}{us:List AV},aP E xs us→∀ {ys:List SV}{ws:List AV},aP E ys ws→wS xs ys=true→us=ws
 |_,_,.nil,_,_,k,h=>by cases k<;>first|(cases h;done)|rfl
 |_,_,.cons x v xs vs p q,_,_,k,h=>by
  cases k <;>try(cases h;done)
  rename_i y w ys ws p2 q2
  simp only[wS]at h
  split at h <;>try(cases h;done)
  rename_i h1
  rw[Aj p p2 h1,vY q q2 h]
end
theorem alq{H:SH}{M:RM}(hH:HR E H M){x:Bk}{mks:Ky→SV}{rb:RB}{mk:Nat→AV}(hn:NR E x mks rb mk){k:Ky}{b:Nat}(hb:E.bl k=some b){sv:SV}{v:AV}(hv:SR E sv v)(h1:Xw x (hget H k)=true)(h2:rA (mks k) sv=true):M.heap b=some rb∧mk b=v:=by
 have hr:=hH.blk k
 cases hn with
 |row l cs el _ _ g1 g2 g3 g4 =>
  generalize hget H k=y at *
  cases y <;>try(cases h1;done)
  rename_i l2 o2 e2
  simp only[Xw]at h1
  split at h1 <;>try(cases h1;done)
  rename_i q1 q2
  rw[pG]at q1
  have q1:=eq_of_beq q1
  have q2:=bB q2
  subst q1 q2
  obtain⟨b2,cs2,f1,f2,f3,f4,f5⟩:=hr
  rw[hb]at f1;cases f1
  rw[vY g1 f4 h1]
  exact⟨f3,Aj (g3 E k b hb) hv h2⟩
 |map =>
  generalize hget H k=y at *
  cases y <;>try(cases h1;done)
  rename_i es c
  cases es <;>try(cases h1;done)
  have h1:=bB (show Nat.beq 0 c=true from h1)
  subst h1
  obtain⟨b2,fs,f1,f2,f3,f4⟩:=hr
  rw[hb]at f1;cases f1
  cases f4
  exact⟨f3,Aj (.map k b hb) hv h2⟩
 |byt s l el d =>
  generalize hget H k=y at *
  cases y <;>try(cases h1;done)
  rename_i s2 o2 e2
  simp only[Xw]at h1
  split at h1 <;>try(cases h1;done)
  rename_i q1 q2 q3
  rw[pG]at q1
  have q1:=eq_of_beq q1
  have q2:=bB q2
  have q3:=bP q3
  subst q1 q2
  obtain⟨v2,l2,f1,f2,f3,f4⟩:=hr
  have hl:=EY h1 d f2
  subst hl
  have hp:1≤l.length:=Nat.le_trans q3 (bJ d).1
  obtain⟨o1,o2⟩:=f3 rfl
  have hv2:=Aj (.bs k v2 f1) hv h2
  subst hv2
  cases hq:fM l with
  |nil=>have:=congrArg List.length hq;rw[List.length_map,List.length_nil]at this;omega
  |cons u us =>
   rw[hq]at o1
   obtain⟨b',rfl,g1,g2,g3⟩:=EU o1
   have:=o2 b' (by simp[aJ])
   rw[hb]at this;cases this
   exact⟨g2,rfl⟩
end
def yY:oh:=⟨qW,fun P o e K=>∃ x mk,Bz P o e x mk∧K x mk,iU⟩
theorem alP(P:Program):qO P yY:=⟨fun h=>h,fun h=>h,fun _ h=>h⟩
theorem iU.mono{P:Program}{o:Oper}{e:Operand→AV}{M:RM}{K K' : aj}(h:iU P o e M K)(hk:∀ v M',K v M'→K' v M'):iU P o e M K':=by
 intro ρ w c hw he
 obtain⟨M',ρ',w',h1,h2⟩:=h ρ w c hw he
 refine⟨M',ρ',w',h1, ?_⟩
 rcases h2 with⟨v',v,a,b,d⟩|⟨a,d⟩|⟨f,args,us,a,b,d⟩
 ·exact .inl ⟨v',v,a,b,hk _ _ d⟩
 ·exact .inr (.inl ⟨a,hk _ _ d⟩)
 ·exact .inr (.inr ⟨f,args,us,a,b,d.mono hk⟩)
theorem qW.mono{P:Program}{o:Oper}{e:Operand→AV}{M:RM}{K K' : AV→Prop}(h:qW P o e M K)(hk:∀ v,K v→K' v):qW P o e M K':=by
 obtain⟨v,h1,h2⟩:=h;exact⟨v,h1,hk v h2⟩
def Av(E:En)(V:VS)(ord:List Nat)(vals:Tree AV):Prop:=∀ j k,rD j ord 0=some k→SR E (Kj k V) ((vals.get j).getD .top)
def Cu(E:En)(rows:List Row)(V:VS)(B:List Ky)(ord:List Nat)(aX:Tree (Option Nat)):Prop :=
 ∀ j r k,rows[j]?=some r→r.kd=.alloc→rD j ord 0=some k→Kj k V=.undef∨∃ b,aX.get j=some (some b)∧E.bl (WL k B)=some b
theorem Oa(j:Nat):∀ (l:List Nat)(n:Nat),rD j l n=(rD j l 0).map (· + n)
 |[],n=>rfl
 |a::r,n=>by
  simp only[rD]
  split
  ·simp
  ·rw[Oa j r (Nat.succ n),Oa j r (Nat.succ 0)]
   cases rD j r 0 with
   |none=>rfl
   |some k=>simp only[Option.map_some,Nat.succ_eq_add_one];congr 1;omega
theorem JM{j i k:Nat}{l:List Nat}(h:rD j (i::l) 0=some k):(j=i∧k=0)∨(j≠i∧∃ m,k=m+1∧rD j l 0=some m):=by
 simp only[rD]at h
 split at h
 ·rename_i e;cases h;exact .inl ⟨(bB e).symm,rfl⟩
 ·rename_i e
  rw[Oa]at h
  cases hq:rD j l 0 with
  |none=>rw[hq]at h;cases h
  |some m =>
   rw[hq]at h
   simp only[Option.map_some,Option.some.injEq]at h
   exact .inr ⟨fun hc=>AU e hc.symm,m,by omega,rfl⟩
section
variable {P:Program} {G:Gd} {B:Base} {N:Nat→Option NC} {X:jA} {E E' : En} {U:Tree Ky} {S:TS} {T0:Tree AV} {H H' : SH} {M:RM} {C:aI} {V:VS} {Bs:List Ky} {ord:List Nat} {vals:Tree AV} {aX:Tree (Option Nat)} {nt:Nat} {ops:Array Oper} {ri:RI}
theorem Av.mono(h:Av E V ord vals)(k:E.le E'):Av E' V ord vals:=fun j i hj=>(h j i hj).mono k
theorem Cu.mono{rows:List Row}(h:Cu E rows V Bs ord aX)(k:E.le E'):Cu E' rows V Bs ord aX:=fun j r i h1 h2 h3=>(h j r i h1 h2 h3).imp id fun⟨b,p,q⟩=>⟨b,p,k.bl _ _ q⟩
theorem Av.push(h:Av E V ord vals){sv:SV}{v:AV}(hv:SR E sv v)(i:Nat):Av E (sv::V) (i::ord) (vals.set i v):=by
 intro j k hj
 rw[Tree.bn]
 rcases JM hj with⟨rfl,rfl⟩|⟨hne,m,rfl,hm⟩
 ·rw[if_pos rfl];exact hv
 ·rw[if_neg hne];exact h j m hm
theorem Cu.push{rows:List Row}(h:Cu E rows V Bs ord aX){sv:SV}{i:Nat}{kb:Ky}{ob:Option Nat}(hi:∀ r,rows[i]?=some r→r.kd=.alloc→sv=.undef∨∃ b,ob=some b∧E.bl kb=some b):Cu E rows (sv::V) (kb::Bs) (i::ord) (aX.set i ob):=by
 intro j r k h1 h2 hj
 rcases JM hj with⟨rfl,rfl⟩|⟨hne,m,rfl,hm⟩
 ·rcases hi r h1 h2 with h3|⟨b,rfl,h3⟩
  ·exact .inl h3
  ·exact .inr ⟨b,by rw[Tree.bn,if_pos rfl],h3⟩
 ·rcases h j r m h1 h2 hm with h3|⟨b,h3,h4⟩
  ·exact .inl h3
  ·exact .inr ⟨b,by rw[Tree.bn,if_neg hne];exact h3,h4⟩
theorem Cu.skip{rows:List Row}(h:Cu E rows V Bs ord aX){sv:SV}{i:Nat}{kb:Ky}(hi:∀ r,rows[i]?=some r→r.kd≠.alloc):Cu E rows (sv::V) (kb::Bs) (i::ord) aX:=by
 intro j r k h1 h2 hj
 rcases JM hj with⟨rfl,rfl⟩|⟨hne,m,rfl,hm⟩
 ·exact absurd h2 (hi r h1)
 ·exact h j r m h1 h2 hm
theorem afN(h:Av E V ord vals)(j:Nat):SR E (ev (xoI j ord) V S) ((vals.get j).getD .top):=by
 unfold xoI
 cases hk:rD j ord 0 with
 |none=>exact .top _
 |some k=>exact h j k hk
theorem JH(h:Av E V ord vals)(hT:fP E U S T0)(wr:Tree Nat)(m:Nat)(z:Operand):SR E (ev (Jf U wr m ord z) V S) (jI T0 wr vals m z):=by
 cases z with
 |tmp t =>
  simp only[Jf,jI]
  cases hw:wr.get t with
  |none=>exact FZ hT V t
  |some j =>
   dsimp only
   cases hb:Nat.testBit m j with
   |true=>exact afN h j
   |false=>exact FZ hT V t
 |const v=>exact adA v
 |global g=>exact .top _
 |func f=>exact .fn _ _ _ _ _ .nil .nil
theorem O5{wr:Tree Nat}{r:Row}{g:XG}(hg:cG ops wr ord r=some g)(hv:Av E V ord vals){yes no:Bool}(h:pX g V S yes no=true){α:Type}{f skip:α→Prop}{k:α}(hy:yes=true→f k)(hn:no=true→skip k):qJ (guardOf ops wr vals r) f skip k:=by
 unfold cG at hg
 unfold guardOf
 split at hg
 ·rename_i he
  rw[he]
  cases hg
  exact hy h
 ·rename_i j want he
  rw[he]
  dsimp only
  split at hg <;>try(cases hg;done)
  rename_i d hd
  rw[hd]
  dsimp only
  split at hg <;>try(cases hg;done)
  rename_i j' hb hw
  rw[hb,hw]
  dsimp only
  split at hg <;>try(cases hg;done)
  rename_i hj
  rw[hj]
  cases hg
  dsimp only[qJ]
  rcases UZ (afN hv j) h with⟨h1,h2⟩|⟨h1,h2⟩
  ·rw[h1]
   simp only[kC,if_true]
   exact hy h2
  ·rcases h1 with h1|⟨b,h1,h3⟩
   ·rw[h1]
    exact hn h2
   ·rw[h1]
    simp only[kC]
    rw[if_neg h3]
    exact hn h2
theorem XY(ht:mD P nt ops ri){r:Row}(hr:r∈ri.rows):ri.rows[r.i]?=some r:=by
 obtain⟨q,hq⟩:=List.mem_iff_getElem?.1 hr
 have:=(ht.row hq).1
 rw[this];exact hq
theorem CP(ht:mD P nt ops ri){lev:Nat}{Kb:KB}{K:lC→Prop}:∀ (rows:List Row)(ord:List Nat)(l:List XR)(ma:List Nat){E:En}{V:VS}{Bs:List Ky}{H:SH}{s:lC},(∀ r∈rows,r∈ri.rows)→NM P ops U ri.wr lev rows ord=some (l,ma) →
  Av E V ord s.vals→Cu E ri.rows V Bs ord s.aX→HR E H s.M→fP E U S T0→uk l S V Bs H Kb=true →
  (∀ E' V' B' H' s',E.le E'→HR E' H' s'.M→Av E' V' ma s'.vals→Cu E' ri.rows V' B' ma s'.aX→Kb V' B' H'=true→K s')→tN yY P ops T0 ri.wr lev rows s K
 |[],ord,l,ma,E,V,Bs,H,s,_,hc,hv,hb,hH,hT,h,hK=>by
  simp only[NM]at hc
  cases hc
  exact hK E V Bs H s (.refl E) hH hv hb h
 |r::rest,ord,l,ma,E,V,Bs,H,s,hin,hc,hv,hb,hH,hT,h,hK=>by
  simp only[NM]at hc
  simp only[tN]
  have hin' : ∀ r∈rest,r∈ri.rows:=fun r hr=>hin r (List.mem_cons_of_mem _ hr)
  split at hc
  ·rename_i vJ
   rw[vJ]
   exact CP ht rest ord l ma hin' hc hv hb hH hT h hK
  ·rename_i vJ
   rw[vJ]
   dsimp only
   split at hc <;>try(cases hc;done)
   rename_i x xs ahx hx hxs
   cases hc
   unfold aql at hx
   split at hx <;>try(cases hx;done)
   rename_i g hg
   have hself:=XY ht (hin r (List.mem_cons_self ..))
   have hkd:=(ht.row hself).2.2.2.2
   -- behind a value
   have go:∀ {E' : En}{sv:SV}{v:AV}{kb:Ky}{ob:Option Nat}{H' : SH}{M' : RM},E.le E'→HR E' H' M'→SR E' sv v→(r.kd=.alloc→sv=.undef∨∃ b,ob=some b∧E'.bl kb=some b)→uk xs S (sv::V) (kb::Bs) H' Kb=true →
     tN yY P ops T0 ri.wr lev rest { vals:=s.vals.set r.i v,M:=M',aX:=s.aX.set r.i ob } K:=by
    intro E' sv v kb ob H' M' k1 k2 k3 k4 k5
    refine CP ht rest (r.i::ord) xs ma hin' hxs ((hv.mono k1).push k3 r.i) ((hb.mono k1).push fun r' h1 h2=>?_) k2 (hT.mono k1) k5 (fun E2 V2 B2 H2 s2 q1=>hK E2 V2 B2 H2 s2 (k1.trans q1))
    rw[hself]at h1;cases h1
    exact k4 h2
   have skip:uk xs S (.undef::V) (.h::Bs) H Kb=true→tN yY P ops T0 ri.wr lev rest { vals:=s.vals.set r.i .undef,M:=s.M,aX:=s.aX.set r.i none } K :=
    fun h=>go (.refl E) hH (.tup _ _ .nil) (fun _=>.inl rfl) h
   have val:(r.kd=.pure∨r.kd=.read)→x=.v g (cV P r.o (Jf U ri.wr r.m ord))→qJ (guardOf ops ri.wr s.vals r) (Yq yY P r (jI T0 ri.wr s.vals r.m) s.M) (fun k=>k .undef s.M none) (fun v M' b=>tN yY P ops T0 ri.wr lev rest { vals:=s.vals.set r.i v,M:=M',aX:=s.aX.set r.i b } K):=by
    intro hkr hxe
    subst hxe
    have h:pX g V S (iA (cV P r.o (Jf U ri.wr r.m ord)) V S H fun v=>uk xs S (v::V) (.h::Bs) H Kb) (uk xs S (.undef::V) (.h::Bs) H Kb)=true:=h
    refine O5 hg hv h (fun hy=>?_) skip
    have h2:qW P r.o (jI T0 ri.wr s.vals r.m) s.M (fun v=>tN yY P ops T0 ri.wr lev rest { vals:=s.vals.set r.i v,M:=s.M,aX:=s.aX.set r.i none } K):=by
     refine(abK hH (fun z=>JH hv hT ri.wr r.m z) hy).mono fun v hk=>?_
     obtain⟨sv,k1,k2⟩:=hk
     exact go (.refl E) hH k1 (fun ha=>by rcases hkr with e|e<;>rw[e]at ha<;>cases ha) k2
    unfold Yq
    rcases hkr with e|e<;>rw[e]<;>exact h2
   cases hk:r.kd with
   |pure=>rw[hk]at hx;cases hx;exact val (.inl hk) rfl
   |read=>rw[hk]at hx;cases hx;exact val (.inr hk) rfl
   |alloc =>
    rw[hk]at hx
    cases hx
    have h:pX g V S (runN (cN P r.o (Jf U ri.wr r.m ord)) V S fun x mk=>uk xs S (mk H.nx::V) (H.nx::Bs) (hpush H x) Kb) (uk xs S (.undef::V) (.h::Bs) H Kb)=true:=h
    refine O5 hg hv h (fun hy=>?_) skip
    unfold Yq
    rw[hk]
    obtain⟨x,mk,hm,bk,mks,h4,h5⟩:=qL (acL (E:=E) (fun z=>JH hv hT ri.wr r.m z) hy)
    obtain⟨E',g1,g2,g3,g4⟩:=h4.nok H s.M hH
    exact⟨x,mk,hm,go g1 g2 g3 (fun _=>.inr ⟨_,rfl,g4⟩) h5⟩
   |nS=>rw[hk]at hx;cases hx
theorem vU(ht:mD P nt ops ri){lev:Nat}{s:lC}(hv:Av E V ord s.vals)(hb:Cu E ri.rows V Bs ord s.aX)(hH:HR E H s.M)(hT:fP E U S T0){K:Prop}{Kb:Bool}(hK:Kb=true→K):∀ (rows:List Row)(l:List XQ),(∀ r∈rows,r∈ri.rows)→ML P ops U ri lev ord rows=some l →
  Dc l S V Bs H Kb=true→J8 yY P ops T0 ri lev rows s K
 |[],l,_,hc,h=>by
  simp only[ML]at hc
  cases hc
  exact hK h
 |r::rest,l,hin,hc,h=>by
  simp only[ML]at hc
  simp only[J8]
  have hin' : ∀ r∈rest,r∈ri.rows:=fun r hr=>hin r (List.mem_cons_of_mem _ hr)
  split at hc
  ·rename_i vJ
   rw[vJ]
   exact vU ht hv hb hH hT hK rest l hin' hc h
  ·rename_i vJ
   rw[vJ]
   dsimp only
   unfold Uc
   have hself:=XY ht (hin r (List.mem_cons_self ..))
   cases hk:r.kd with
   |pure=>rw[hk]at hc;exact vU ht hv hb hH hT hK rest l hin' hc h
   |nS=>rw[hk]at hc;exact vU ht hv hb hH hT hK rest l hin' hc h
   |read =>
    rw[hk]at hc
    dsimp only at hc ⊢
    split at hc <;>try(cases hc;done)
    rename_i x xs hx hxs
    cases hc
    unfold cQ at hx
    split at hx <;>try(cases hx;done)
    rename_i g k hg hi
    rw[hk]at hx
    cases hx
    have h:pX g V S (iA (cV P r.o (Jf U ri.wr r.m ord)) V S H fun v=>match rA v (Kj k V)with
     |true=>Dc xs S V Bs H Kb
     |false=>false) (Dc xs S V Bs H Kb)=true:=h
    have ih:=vU ht hv hb hH hT hK rest xs hin' hxs
    refine O5 hg hv h (fun hy=>?_) ih
    refine(abK hH (fun z=>JH hv hT ri.wr r.m z) hy).mono fun v hkv=>?_
    obtain⟨sv,k1,k2⟩:=hkv
    dsimp only at k2
    split at k2 <;>try(cases k2;done)
    rename_i he
    exact⟨Aj k1 (hv _ _ hi) he,ih k2⟩
   |alloc =>
    rw[hk]at hc
    dsimp only at hc ⊢
    split at hc <;>try(cases hc;done)
    rename_i x xs hx hxs
    cases hc
    unfold cQ at hx
    split at hx <;>try(cases hx;done)
    rename_i g k hg hi
    rw[hk]at hx
    cases hx
    have h:pX g V S (runN (cN P r.o (Jf U ri.wr r.m ord)) V S fun x mks=>match Xw x (hget H (WL k Bs))with
     |true=>match rA (mks (WL k Bs)) (Kj k V)with
      |true=>Dc xs S V Bs H Kb
      |false=>false
     |false=>false) (Dc xs S V Bs H Kb)=true:=h
    have ih:=vU ht hv hb hH hT hK rest xs hin' hxs
    refine O5 hg hv h (fun hy=>?_) ih
    obtain⟨x,mk,hm,bk,mks,h4,h5⟩:=qL (acL (E:=E) (fun z=>JH hv hT ri.wr r.m z) hy)
    dsimp only at h5
    split at h5 <;>try(cases h5;done)
    rename_i e1
    split at h5 <;>try(cases h5;done)
    rename_i e2
    refine⟨x,mk,hm, ?_,ih h5⟩
    rcases hb _ r k hself hk hi with hu|⟨b,hb1,hb2⟩
    ·exfalso
     rw[hu]at e2
     have nt:∀ {z:SV},rA z .undef=true→z=.undef:=by
      intro z hz
      cases z <;>try(cases hz;done)
      rename_i zs
      cases zs<;>first|rfl|(cases hz;done)
     have:=nt e2
     cases h4 with
     |row _ _ _ _ _ _ _ _ g4=>exact g4 _ this
     |map=>cases this
     |byt=>cases this
    ·obtain⟨q1,q2⟩:=alq hH h4 hb2 (hv _ _ hi) e1 e2
     simp only[hb1,Option.getD_some,abD]
     exact⟨q1,q2⟩
theorem KJ(hP:POk P)(hC:fO P G B C)(hN:kJ P G B N X)(ht:mD P nt ops ri){fin:List (Ky×Nat)}{Kb:KT}{K:lC→Prop}{NE:List Nat}:∀ (es:List Nat)(lev:Nat)(ord:List Nat)(l:List yG){E:En}{V:VS}{Bs:List Ky}{H:SH}{s:lC},(∀ x∈es,x∈ri.es) →
  Fy P N ops U ri lev es ord=some (l,NE)→E.g=G→E.bs=B→Av E V ord s.vals→Cu E ri.rows V Bs ord s.aX→HR E H s.M→fP E U S T0→xR X fin l C S V Bs H Kb=true →
  (∀ E' V' (B' : List Ky) H' s',E.le E'→HR E' H' s'.M→Av E' V' NE s'.vals→Kb (agC V' fin S) H'=true→K s')→nQ yY P ops T0 ri lev es s K
 |[],lev,ord,l,E,V,Bs,H,s,_,hc,hg,hbs,hv,hb,hH,hT,h,hK=>by
  simp only[Fy]at hc
  split at hc <;>try(cases hc;done)
  rename_i non ma agl
  cases hc
  rw[nQ]
  exact CP ht ri.rows ord non NE (fun _ h=>h) agl hv hb hH hT h fun E' V' B' H' s' k1 k2 k3 _ k5=>hK E' V' B' H' s' k1 k2 k3 k5
 |x::rest,lev,ord,l,E,V,Bs,H,s,hes,hc,hg,hbs,hv,hb,hH,hT,h,hK=>by
  simp only[Fy]at hc
  split at hc <;>try(cases hc;done)
  rename_i non ma agl
  split at hc <;>try(cases hc;done)
  rename_i r hr
  split at hc <;>try(cases hc;done)
  rename_i g re more ahx hcg hre hmore
  cases hc
  rw[nQ]
  have hr' : ri.rows[x]?=some r:=by rw[← cB];exact hr
  have heff:=(ht.nS hr').1 (hes x (List.mem_cons_self ..))
  refine CP ht ri.rows ord non ma (fun _ h=>h) agl hv hb hH hT h fun E1 V1 B1 H1 s1 k1 k2 k3 k4 k5=>?_
  rw[hr]
  dsimp only
  have hT1:=hT.mono k1
  -- behind the effect
  have go:∀ {E2:En}{sv:SV}{v:AV}{H2:SH}{M2:RM},E1.le E2→HR E2 H2 M2→SR E2 sv v→Dc re S (sv::V1) (.h::B1) H2 (xR X fin more C S (sv::V1) (.h::B1) H2 Kb)=true →
    J8 yY P ops T0 ri lev ri.rows { vals:=s1.vals.set x v,M:=M2,aX:=s1.aX } (nQ yY P ops T0 ri (lev+1) rest { vals:=s1.vals.set x v,M:=M2,aX:=s1.aX } K):=by
   intro E2 sv v H2 M2 q1 q2 q3 q4
   have hv2:=(k3.mono q1).push q3 x
   have hb2:Cu E2 ri.rows (sv::V1) (.h::B1) (x::ma) s1.aX:=(k4.mono q1).skip fun r2 e1 e2=>by
    rw[hr']at e1;cases e1
    rw[e2]at heff;cases heff
   refine vU ht (s := { vals:=s1.vals.set x v,M:=M2,aX:=s1.aX }) hv2 hb2 q2 (hT1.mono q1) (fun hk=>?_) ri.rows re (fun _ h=>h) hre q4
   exact KJ hP hC hN ht rest (lev+1) (x::ma) more (fun y hy=>hes y (List.mem_cons_of_mem _ hy)) hmore ((k1.trans q1).g.trans hg) ((k1.trans q1).bs.trans hbs) hv2 hb2 q2 (hT1.mono q1) hk fun E' V' B' H' s' p1=>hK E' V' B' H' s' ((k1.trans q1).trans p1)
  refine O5 hcg k3 k5 (fun hy=>?_) (fun hn=>go (.refl E1) k2 (.tup _ _ .nil) hn)
  refine(Eg hP (fun _=>rfl) (ajH hC hN (k1.g.trans hg) (k1.bs.trans hbs) k2 (fun z=>JH k3 hT1 ri.wr r.m z) hy)).mono fun v M' hk=>?_
  obtain⟨E2,sv,H2,q1,q2,q3,q4⟩:=hk
  exact go q1 q2 q3 q4
theorem LW(hU:Bq U){NE:List Nat}{vals:Tree AV}(hv:Av E V NE vals):∀ (rows:List Row)(fin:List (Ky×Nat)){S:TS}{T:Tree AV},WR U NE rows=some fin→fP E U S T→fP E U (agC V fin S) (Ey T vals rows)
 |[],fin,S,T,hf,h=>by
  simp only[WR]at hf
  cases hf
  exact h
 |r::rest,fin,S,T,hf,h=>by
  simp only[WR]at hf
  split at hf <;>try(cases hf;done)
  rename_i l hl
  simp only[Ey]
  split at hf
  ·rename_i hd
   rw[hd]
   cases hf
   exact LW hU hv rest fin hl h
  ·rename_i d hd
   rw[hd]
   dsimp only
   split at hf
   ·rename_i hk
    cases hf
    exact LW hU hv rest fin hl (h.skip hk)
   ·rename_i k hk
    split at hf <;>try(cases hf;done)
    rename_i i hi
    cases hf
    exact LW hU hv rest l hl (h.set hU hk (hv _ _ hi))
theorem akM(hP:POk P)(hC:fO P G B C)(hN:kJ P G B N X)(hU:Bq U)(hg:E.g=G)(hbs:E.bs=B)(hH:HR E H M)(hT:fP E U S T0){l:List yG}{fin:List (Ky×Nat)}{Kb:KT}(hc:Ox P N U nt ops=.draw l fin)(h:xR X fin l C S [] [] H Kb=true) :
  wP yY P nt ops T0 M (fun T' M'=>∃ E' S' H',E.le E'∧HR E' H' M'∧fP E' U S' T'∧Kb S' H'=true):=by
 unfold Ox at hc
 unfold wP
 split at hc <;>try(cases hc;done)
 rename_i ri hri
 rw[hri]
 dsimp only
 split at hc <;>try(cases hc;done)
 rename_i hs
 rw[hs]
 dsimp only
 split at hc <;>try(cases hc;done)
 rename_i l2 NE hl
 split at hc <;>try(cases hc;done)
 rename_i fin2 hf
 cases hc
 have ht:=vH hri
 refine KJ (E:=E) hP hC hN ht ri.es 0 [] l (fun _ h=>h) hl hg hbs (fun j k hj=>by cases hj) (fun j r k _ _ hj=>by cases hj) hH hT h fun E' V' B' H' s' k1 k2 k3 k4=>?_
 exact⟨E',_,H',k1,k2,LW hU k3 ri.rows fin hf (hT.mono k1),k4⟩
end
def akl(P:Program)(gf:FuncId)(nM:List AV)(M:RM)(Yd:AV→RM→(RM→Prop)→Prop)(Fin:RM→Prop):Prop :=
 ∀ (l:Nat)(ρ:Ren)(W1:World)(us:List Value),bu P ρ M W1→aQ ρ nM us →
   (∀ v M' Nx ρ' W u,Yd v M' Nx→After P M ρ W1 M' ρ' W→ai ρ' v u→YieldAt Fence.wide 0 P l #[u] W (fun e W'=>e=.returned (.bool true)∧∃ M'' ρ'',After P M' ρ' W M'' ρ'' W'∧Nx M'')) →
   CallsIn Fence.wide 0 P gf ⟨.func (.yield l) #[] #[]::us⟩ W1 (fun e W'=>(∃ v,e=.returned v)∧∃ M' ρ',After P M ρ W1 M' ρ' W'∧Fin M')
section
variable {P:Program} {nt:Nat}
theorem Vv{n0 n:Nat}{g:Operand}{p:Tmp}{assign body:Code}{T:Tree AV}{M:RM}{ρ:Ren}{a:Act}{w:World}{Ds:List Nat}{gf:FuncId}{nM:List AV}{Yd:AV→RM→(RM→Prop)→Prop}{Fin:RM→Prop}{Q:Exit→Act→World→Prop}
  (hx:lG T g=.fn (.func gf) [] nM) (hB:Ak P gf) (hS:akl P gf nM M Yd Fin) (hw:bu P ρ M w) (hA:fo ρ nt T a) (hD:uw n0 ρ w Ds) (hn0:n0≤w.heap.size) (hP:POk P)
  (hr:∀ (l:Nat)(v:AV)(u:Value)(M1:RM)(Nx:RM→Prop)(ρ1:Ren)(W1:World),Yd v M1 Nx→bu P ρ1 M1 W1→ai ρ1 v u→ρ.le ρ1→assign.wpIn (xW (some l)) 0 P (Exit.then (fun a2 W2=>∃ (M2:RM)(ρ2:Ren),After P M1 ρ1 W1 M2 ρ2 W2 ∧
      ∀ W2',bu P ρ2 M2 W2'→body.wpIn (xW (some l)) 0 P (fun e a3 W3=>e=.normal∧∃ M3 ρ3,After P M2 ρ2 W2' M3 ρ3 W3∧Nx M3) a2 W2') (fun _ _ _=>False))
      { tmps:=a.tmps.setIfInBounds p u,defers:=[] } W1)
  (hQ:∀ M' ρ' w' Ds',Fin M'→After P M ρ w M' ρ' w'→uw n0 ρ' w' Ds'→Q .normal (wd (Ds'.map vF) a) w') :
  (Code.rangeFunc g #[p] assign body).wpIn (xW none) n P Q (wd (Ds.map vF) a) w:=by
 have hg:=oJ hA g
 rw[hx]at hg
 generalize hgv:a.eval g=gv at hg
 obtain⟨us,hus,rfl⟩ : ∃ us,aQ ρ nM us∧gv=.func (.func gf) #[] ⟨us⟩:=by
  cases hg with
  |fn f xs ys us vs hpl hxs hys =>
   cases hxs
   exact⟨vs,hys,rfl⟩
 have eg:∀ args w,(callFunc gf args).run P w=.ok (.enter gf args) w:=fun args w=>by
  obtain⟨fn,c,h1,h2⟩:=hB
  exact IK h1 (hP.ng _ _ h1) h2 w
 refine wpIn_rangeFunc fun fn _=>?_
 obtain⟨rec,hrec⟩ : ∃ rec:LoopState→Option Code→Loop,rec=fun st pe => { state:=st,pending:=pe,fn,tmps:=a.tmps,params := #[p],assign,body,defers:=w.heap.size } := ⟨_,rfl⟩
 obtain⟨W1,hW1⟩ : ∃ W1,(w.alloc (.deferred (some []))).alloc (.loop (rec .ready none))=W1:=⟨_,rfl⟩
 have hsz:W1.heap.size=w.heap.size+2:=by rw[← hW1];simp
 have hL1:W1.heap[w.heap.size+1]?=some (.loop (rec .ready none)):=by
  rw[← hW1];have:=World.alloc_heap_new (w.alloc (.deferred (some []))) (.loop (rec .ready none));rwa [World.size_alloc]at this
 have hK1:W1.heap[w.heap.size]?=some (.deferred (some [])):=by
  rw[← hW1,alloc_old (by simp)];exact World.alloc_heap_new w _
 have hw1:bu P ρ M W1:=by rw[← hW1];exact(hw.alloc _).alloc _
 have hlo:=hw.Lc
 have hS1:Step M.lo M.next ρ w ρ W1:=by rw[← hW1];exact((Step.refl _ _ _).alloc hlo _).alloc hlo _
 have hnl:Dp ρ (w.heap.size+1):=hw.q8 (by omega)
 have hnd:Dp ρ w.heap.size:=hw.q8 (by omega)
 refine⟨w.heap.size+1,[{ target:=.collected w.heap.size,args := #[] }],W1,{ target:=.fn (.func gf) ⟨us⟩,args := #[.func (.yield (w.heap.size+1)) #[] #[]] },W1,gf,
  ⟨.func (.yield (w.heap.size+1)) #[] #[]::us⟩,W1, ?_, ?_,fun _ _=>trivial, ?_,fun h=>(by cases h), ?_⟩
 ·rw[← hW1,hrec];exact run_enterLoop_outer _ _ _ _ _
 ·have:(wd (Ds.map vF) a).eval g=.func (.func gf) #[] ⟨us⟩:=by rw[LD];exact hgv
  simp only[resolve,this]
  simp[go_sem]
 ·simp[invoke,go_sem,eg]
 ·refine Wx (callsIn_wide.1 ((hS (w.heap.size+1) ρ W1 us hw1 hus ?_).mono ?_))
  ·intro v M' Nx ρ' W u k2 k1 hu
   have hl1:=k1.step.kept hnl hL1
   have hn1:=k1.step.q8 hnl (by omega)
   refine⟨fn,a.tmps.setIfInBounds p u,assign,body, ?_,roundIn_of_wpIn (n:=0) trivial ?_⟩
   ·have:=run_yield (P:=P) (args := #[u]) hl1 (by rw[hrec];rfl)
    rw[hrec]at this
    simpa using this
   ·refine wpIn_mono (hr (w.heap.size+1) v u M' Nx ρ' W k2 k1.rel hu (k1.le hw1)) fun e a2 W2 hp=>?_
    cases e with
    |normal =>
     obtain⟨M2,ρ2,q1,q2⟩:=hp
     have hl2:=q1.step.kept hn1 hl1
     have hn2:=q1.step.q8 hn1 (Array.getElem?_eq_some_iff.1 hl1).1
     have hlo2:M2.lo≤w.heap.size:=by rw[q1.lo,k1.lo];exact hlo
     refine⟨_,run_beginRound hl2 (by rw[hrec]), ?_⟩
     have hm2:bu P ρ2 M2 (W2.putObj (w.heap.size+1) (.loop { rec .ready none with state:=.busy })):=q1.rel.putObj _ hn2 (by omega)
     refine wpIn_mono (q2 _ hm2) fun e a3 W3 hp=>?_
     obtain⟨rfl,M3,ρ3,r1,r2⟩:=hp
     have hs2:=(Array.getElem?_eq_some_iff.1 hl2).1
     have hl3:=r1.step.kept (o:=.loop { rec .ready none with state:=.busy }) hn2 (World.putObj_heap_same hs2)
     have hn3:=r1.step.q8 hn2 (by simp only[World.putObj_size];exact hs2)
     have hend:=run_endRound (P:=P) none hl3
     rw[hrec]at hend
     refine⟨_,_,hend,rfl, ?_⟩
     have hst:Step M2.lo M2.next ρ2 W2 ρ3 (W3.putObj (w.heap.size+1) (.loop (rec .ready none))):=Step.turned (by omega) hl2 r1.step
     have hlo3:M3.lo≤w.heap.size:=by rw[r1.lo];exact hlo2
     have hA3:After P M2 ρ2 W2 M3 ρ3 (W3.putObj (w.heap.size+1) (.loop (rec .ready none))):=⟨hst,r1.rel.putObj _ hn3 (by omega),r1.base,r1.next⟩
     have hA4:=q1.trans hA3
     rw[hrec]at hA4
     exact⟨M3,ρ3,hA4,r2⟩
    |exit id=>exact hp.elim
    |goto t=>exact hp.elim
    |ret=>exact hp.elim
    |panic c=>exact hp.elim
    |outgrown=>exact hp.elim
  ·rintro e W ⟨⟨v,rfl⟩,M',ρ',k1,k2⟩
   have hl1:=k1.step.kept hnl hL1
   have hn1:=k1.step.q8 hnl (by omega)
   have hd1:=k1.step.kept hnd hK1
   have ayu:=k1.step.q8 hnd (by omega)
   refine⟨none,_,by have:=run_endLoop (P:=P) hl1 (by rw[hrec];simp);rw[hrec]at this;exact this, ?_⟩
   have hA5:After P M ρ w M' ρ' W:=⟨(hS1.trans k1.step (Nat.le_refl _)),k1.rel,k1.base,k1.next⟩
   refine hQ M' ρ' _ (w.heap.size::Ds) k2 ⟨hA5.step.putObj hlo (by omega) _,k1.rel.putObj _ hn1 (by rw[k1.lo];omega),k1.base,k1.next⟩ ⟨?_, ?_⟩
   ·refine List.nodup_cons.2 ⟨fun hin=>?_,hD.nodup⟩
    have:=(Array.getElem?_eq_some_iff.1 (hD.all _ hin).2.1).1
    omega
   ·intro D hin
    rcases List.mem_cons.1 hin with rfl|hin
    ·exact⟨hn0,by rw[World.putObj_heap_other (by omega)];exact hd1,ayu⟩
    ·obtain⟨g1,g2,g3⟩:=hD.all D hin
     have hDs:=(Array.getElem?_eq_some_iff.1 g2).1
     exact⟨g1,by rw[World.putObj_heap_other (by omega)];exact hA5.step.kept g3 g2,hA5.step.q8 g3 hDs⟩
end
def aDn(E:En)(round:SV→SH→(SH→Bool)→Bool)(v:AV)(M' : RM)(Nx:RM→Prop):Prop :=
 ∃ E' sv H' nx,E.le E'∧HR E' H' M'∧SR E' sv v∧round sv H' nx=true∧∀ E2 H2 M2,E'.le E2→HR E2 H2 M2→nx H2=true→Nx M2
def ah3(E:En)(fin:SH→Bool)(M' : RM):Prop:=∃ E' H',E.le E'∧HR E' H' M'∧fin H'=true
def KD(P:Program)(G:Gd)(B:Base)(R:gK):Prop :=
 ∀ C,fO P G B C→∀ x H E M xa (round:SV→SH→(SH→Bool)→Bool) (fin:SH→Bool),E.g=G→E.bs=B→HR E H M→SR E x xa→R C x H round fin=true →
   ∃ (gf:FuncId)(nM:List AV),xa=.fn (.func gf) [] nM∧Ak P gf∧akl P gf nM M (aDn E round) (ah3 E fin)
theorem acY{P:Program}{G:Gd}{B:Base}:KD P G B Qj:=fun _ _ _ _ _ _ _ _ _ _ _ _ _ h=>(Bool.false_ne_true h).elim
def exS:XE→Exit
 |.normal=>.normal
 |.exit i=>.exit i
 |.ret=>.ret
section
variable {P:Program} {G:Gd} {B:Base} {N:Nat→Option NC} {X:jA} {U:Tree Ky} {C:aI} {R:gK} {nt:Nat}
def wG(P:Program)(U:Tree Ky)(nt n0:Nat)(rg:Bool)(Ds:List Nat)(E0:En)(M:RM)(ρ:Ren)(w:World)(K:KC)(e:Exit)(a' : Act)(w' : World):Prop :=
 ∃ x E S H T M' ρ' a0 Ds',e=exS x∧a'=wd (Ds'.map vF) a0∧(rg=false→Ds'=Ds)∧uw n0 ρ' w' Ds'∧After P M ρ w M' ρ' w'∧fo ρ' nt T a0∧E0.le E∧HR E H M'∧fP E U S T∧K x S H=true
theorem wG.trans{n0:Nat}{rg:Bool}{Ds Ds1:List Nat}{E0 E1:En}{M M1:RM}{ρ ρ1:Ren}{w w1:World}{K:KC}(h:After P M ρ w M1 ρ1 w1)(hds:rg=false→Ds1=Ds)(hle:E0.le E1){e:Exit}{a' : Act}{w' : World}
  (q:wG P U nt n0 rg Ds1 E1 M1 ρ1 w1 K e a' w'):wG P U nt n0 rg Ds E0 M ρ w K e a' w':=by
 obtain⟨x,E,S,H,T,M',ρ',a0,Ds',h1,h2,h3,h4,h5,h6,h7,h8,h9,h10⟩:=q
 exact⟨x,E,S,H,T,M',ρ',a0,Ds',h1,h2,fun hr=>(h3 hr).trans (hds hr),h4,h.trans h5,h6,hle.trans h7,h8,h9,h10⟩
theorem Yh:∀ {l:List Oper},TQ l=true→l.all Dh=true
 |[],_=>rfl
 |o::r,h=>by
  simp only[TQ]at h
  split at h <;>try(cases h;done)
  rename_i h1
  rw[List.all_cons,Yh h,Bool.and_true]
  exact h1
theorem ZJ{E:En}{S:TS}{T:Tree AV}(h:fP E U S T)(V:VS)(z:Operand):SR E (ev (yF U z) V S) (lG T z):=by
 cases z with
 |tmp t=>exact FZ h V t
 |const v=>exact adA v
 |global g=>exact .top _
 |func f=>exact .fn _ _ _ _ _ .nil .nil
theorem IW{F:Fence}{n:Nat}{c:Code}{Q Q' : Exit→Act→World→Prop}(hq:∀ e a w,Q e a w→Q' e a w):∀ (m:Nat)(a:Act)(w:World),Code.roundsIn F n P c Q m a w→Code.roundsIn F n P c Q' m a w
 |0,_,_,h=>h.elim
 |m+1,a,w,h=>by
  rw[roundsIn_succ]at h ⊢
  refine wpIn_mono h fun e a' w' hp=>?_
  cases e with
  |normal=>exact IW hq m _ _ hp
  |exit id=>exact hq _ _ _ hp
  |ret=>exact hq _ _ _ hp
  |goto l=>exact hq _ _ _ hp
  |panic c=>exact hq _ _ _ hp
  |outgrown=>exact hq _ _ _ hp
theorem qh{p:Prop}{Y:YS}{K:KC}{S:TS}{H:SH}(h:pK X Y .bad R C S H K=true):p:=(Bool.false_ne_true h).elim
theorem aaq(hP:POk P)(hC:fO P G B C)(hN:kJ P G B N X)(hI:KD P G B R)(hU:Bq U){Y:YS}(hYR:Y=uo∨R=Qj):∀ (c:Code)(rg:Bool){E:En}{S:TS}{H:SH}{T:Tree AV}{M:RM}{K:KC},pK X Y (cC P N U nt rg c) R C S H K=true→E.g=G→E.bs=B→HR E H M→fP E U S T →
  ∀ (n0:Nat)(r:Option Nat)(n:Nat)(Ds:List Nat)(ρ:Ren)(a:Act)(w:World),RY P G B r n Y E M ρ w→(rg=true→r=none)→n0≤w.heap.size→bu P ρ M w→fo ρ nt T a→uw n0 ρ w Ds→c.wpIn (xW r) n P (wG P U nt n0 rg Ds E M ρ w K) (wd (Ds.map vF) a) w:=by
 intro c
 have fin:∀ {rg:Bool}{E:En}{S:TS}{H:SH}{T:Tree AV}{M:RM}{K:KC}(x:XE){n0:Nat}{Ds:List Nat}{ρ:Ren}{a:Act}{w:World},HR E H M→fP E U S T→bu P ρ M w→fo ρ nt T a→uw n0 ρ w Ds→K x S H=true→wG P U nt n0 rg Ds E M ρ w K (exS x) (wd (Ds.map vF) a) w :=
  fun {rg E S H T M K} x {n0 Ds ρ a w} hH hT hM hA hD h=>⟨x,E,S,H,T,M,ρ,a,Ds,rfl,rfl,fun _=>rfl,hD,After.refl hM,hA,.refl E,hH,hT,h⟩
 induction c with
 |skip =>
  intro rg E S H T M K h hg hbs hH hT n0 r n Ds ρ a w hY hr hn0 hM hA hD
  simp only[cC]at h
  exact wpIn_skip (fin .normal hH hT hM hA hD h)
 |region id ops d =>
  intro rg E S H T M K h hg hbs hH hT n0 r n Ds ρ a w hY hr hn0 hM hA hD
  simp only[cC]at h
  split at h <;>try exact qh h
  rename_i hnd
  have hnd:=Yh hnd
  have hQ:∀ a' w',a'.defers=[]→(∃ E' S' H' T' M' ρ',E.le E'∧HR E' H' M'∧fP E' U S' T'∧After P M ρ w M' ρ' w'∧fo ρ' nt T' a'∧K .normal S' H'=true) →
    wG P U nt n0 rg Ds E M ρ w K .normal (wd (Ds.map vF) a') w':=by
   rintro a' w' - ⟨E',S',H',T',M',ρ',k0,k1,k2,k3,k4,k5⟩
   exact⟨.normal,E',S',H',T',M',ρ',a',Ds,rfl,rfl,fun _=>rfl,hD.step k3.step,k3,k4,k0,k1,k2,k5⟩
  cases d with
  |false =>
   dsimp only at h
   split at h <;>try exact qh h
   rename_i l hl
   have h:FP X Y l C S H (K .normal)=true:=h
   refine wpIn_region ?_
   have:=CF (X:=X) (Q':=wG P U nt n0 rg Ds E M ρ w K) (K:=K .normal) (M0:=M) (ρ0:=ρ) (w0:=w) (E0:=E) (ds:=Ds.map vF) hP hC hN hU (ops:=ops) hY hg hbs hnd
    (fun E' S' H' T' M' ρ' a' w' k0 k1 k2 k3 k4 k5=>hQ a' w' k4.defers ⟨E',S',H',T',M',ρ',k0,k1,k2,k3,k4,k5⟩) ops.toList 0 l (by simp) hl (.refl E) hH hT hA (After.refl hM) h
   rw[Array.length_toList,← List.range_eq_range']at this
   exact this
  |true =>
   dsimp only at h
   cases hd:Ox P N U nt ops with
   |draw l f =>
    rw[hd]at h
    have h:xR X f l C S [] [] H (K .normal)=true:=h
    have hdr:=akM (X:=X) (M:=M) hP hC hN hU hg hbs hH hT hd h
    refine wpIn_region_draw fun t=>?_
    refine Hl hnd hQ _ _ _ hA.defers ?_
    simp only[Region.schedule,hP.mixed,Bool.true_or,if_true]
    exact wpAny_sound ops.size t _ a _ (Sw (alP P) hP (After.refl hM) hA (Q:=Qn fun a' w'=>∃ E' S' H' T' M' ρ',E.le E'∧HR E' H' M'∧fP E' U S' T'∧After P M ρ w M' ρ' w'∧fo ρ' nt T' a'∧K .normal S' H'=true)
     (fun T' M' ρ' a' w' k1 k2 k3 _=>by
      obtain⟨E',S',H',q0,q1,q2,q3⟩:=k3
      exact⟨rfl,k2.defers,E',S',H',T',M',ρ',q0,q1,q2,k1,k2,q3⟩) hdr)
   |bad=>rw[hd]at h;exact qh h
   |_ =>
    exfalso
    unfold Ox at hd
    split at hd <;>try(cases hd;done)
    split at hd <;>try(cases hd;done)
    split at hd <;>try(cases hd;done)
    split at hd<;>cases hd
 |seq c1 c2 ih1 ih2 =>
  intro rg E S H T M K h hg hbs hH hT n0 r n Ds ρ a w hY hr hn0 hM hA hD
  simp only[cC]at h
  have h:pK X Y (cC P N U nt rg c1) R C S H (fun e T' H'=>TL e T' H' (fun T2 H2=>pK X Y (cC P N U nt rg c2) R C T2 H2 K) K)=true:=h
  refine wpIn_seq (wpIn_mono (ih1 rg h hg hbs hH hT n0 r n Ds ρ a w hY hr hn0 hM hA hD) fun e a' w' hp=>?_)
  obtain⟨x,E1,S1,H1,T1,M1,ρ1,a1,Ds1,rfl,rfl,hds,g,k1,k2,k3,k4,k5,k6⟩:=hp
  cases x with
  |normal =>
   have k6:pK X Y (cC P N U nt rg c2) R C S1 H1 K=true:=k6
   exact wpIn_mono (ih2 rg k6 (k3.g.trans hg) (k3.bs.trans hbs) k4 k5 n0 r n Ds1 ρ1 a1 w' (hY.mono k3 k1) hr (Nat.le_trans hn0 k1.step.size) k1.rel k2 g) fun e a2 w2 hp=>wG.trans k1 hds k3 hp
  |exit i=>exact⟨.exit i,E1,S1,H1,T1,M1,ρ1,a1,Ds1,rfl,rfl,hds,g,k1,k2,k3,k4,k5,k6⟩
  |ret=>exact⟨.ret,E1,S1,H1,T1,M1,ρ1,a1,Ds1,rfl,rfl,hds,g,k1,k2,k3,k4,k5,k6⟩
 |cond cnd c1 c2 ih1 ih2 =>
  intro rg E S H T M K h hg hbs hH hT n0 r n Ds ρ a w hY hr hn0 hM hA hD
  simp only[cC]at h
  have h:abH (yF U cnd) (cC P N U nt rg c1) (cC P N U nt rg c2) (pK X Y (cC P N U nt rg c1)) (pK X Y (cC P N U nt rg c2)) R C S H K=true:=h
  unfold abH at h
  have hx:=ZJ hT [] cnd
  have hv:=oJ hA cnd
  rw[← LD (Ds.map vF)]at hv
  generalize ev (yF U cnd) [] S=sv at *
  split at h <;>try(cases h;done)
  rename_i t
  generalize lG T cnd=av at *
  cases hx
  have hb:=(aH hv).1
  cases t with
  |true=>exact wpIn_cond_true hb (ih1 rg h hg hbs hH hT n0 r n Ds ρ a w hY hr hn0 hM hA hD)
  |false=>exact wpIn_cond_false hb (ih2 rg h hg hbs hH hT n0 r n Ds ρ a w hY hr hn0 hM hA hD)
 |block id c1 ih1 =>
  intro rg E S H T M K h hg hbs hH hT n0 r n Ds ρ a w hY hr hn0 hM hA hD
  simp only[cC]at h
  have h:pK X Y (cC P N U nt rg c1) R C S H (WE id K)=true:=h
  refine wpIn_block (wpIn_mono (ih1 rg h hg hbs hH hT n0 r n Ds ρ a w hY hr hn0 hM hA hD) fun e a' w' hp=>?_)
  obtain⟨x,E1,S1,H1,T1,M1,ρ1,a1,Ds1,rfl,rfl,hds,g,k1,k2,k3,k4,k5,k6⟩:=hp
  cases x with
  |normal=>exact⟨.normal,E1,S1,H1,T1,M1,ρ1,a1,Ds1,rfl,rfl,hds,g,k1,k2,k3,k4,k5,k6⟩
  |ret=>exact⟨.ret,E1,S1,H1,T1,M1,ρ1,a1,Ds1,rfl,rfl,hds,g,k1,k2,k3,k4,k5,k6⟩
  |exit i =>
   simp only[WE]at k6
   split at k6
   ·rename_i he
    have he:=bB he
    subst he
    simp only[exS,Exit.inBlock,if_true]
    exact⟨.normal,E1,S1,H1,T1,M1,ρ1,a1,Ds1,rfl,rfl,hds,g,k1,k2,k3,k4,k5,k6⟩
   ·rename_i he
    have he:=AU he
    simp only[exS,Exit.inBlock,if_neg he]
    exact⟨.exit i,E1,S1,H1,T1,M1,ρ1,a1,Ds1,rfl,rfl,hds,g,k1,k2,k3,k4,k5,k6⟩
 |loop c1 ih1 =>
  intro rg E S H T M K h hg hbs hH hT n0 r n Ds ρ a w hY hr hn0 hM hA hD
  simp only[cC]at h
  have h:TJ (pK X Y (cC P N U nt rg c1)) R C K 100000 S H=true:=h
  refine wpIn_loop_rounds 100000 ?_
  have key:∀ (m:Nat){E:En}{S:TS}{H:SH}{T:Tree AV}{M:RM},TJ (pK X Y (cC P N U nt rg c1)) R C K m S H=true→E.g=G→E.bs=B→HR E H M→fP E U S T →
    ∀ (Ds:List Nat)(ρ:Ren)(a:Act)(w:World),RY P G B r n Y E M ρ w→n0≤w.heap.size→bu P ρ M w→fo ρ nt T a→uw n0 ρ w Ds→Code.roundsIn (xW r) n P c1 (wG P U nt n0 rg Ds E M ρ w K) m (wd (Ds.map vF) a) w:=by
   intro m
   induction m with
   |zero=>intro E S H T M h;exact(Bool.false_ne_true h).elim
   |succ m ihm =>
    intro E S H T M h hg hbs hH hT Ds ρ a w hY hn0 hM hA hD
    have h:pK X Y (cC P N U nt rg c1) R C S H (fun e T' H'=>TL e T' H' (TJ (pK X Y (cC P N U nt rg c1)) R C K m) K)=true:=h
    rw[roundsIn_succ]
    refine wpIn_mono (ih1 rg h hg hbs hH hT n0 r n Ds ρ a w hY hr hn0 hM hA hD) fun e a' w' hp=>?_
    obtain⟨x,E1,S1,H1,T1,M1,ρ1,a1,Ds1,rfl,rfl,hds,g,k1,k2,k3,k4,k5,k6⟩:=hp
    cases x with
    |normal=>exact IW (fun e a2 w2 hp=>wG.trans k1 hds k3 hp) m _ _ (ihm k6 (k3.g.trans hg) (k3.bs.trans hbs) k4 k5 Ds1 ρ1 a1 w' (hY.mono k3 k1) (Nat.le_trans hn0 k1.step.size) k1.rel k2 g)
    |exit i=>exact⟨.exit i,E1,S1,H1,T1,M1,ρ1,a1,Ds1,rfl,rfl,hds,g,k1,k2,k3,k4,k5,k6⟩
    |ret=>exact⟨.ret,E1,S1,H1,T1,M1,ρ1,a1,Ds1,rfl,rfl,hds,g,k1,k2,k3,k4,k5,k6⟩
  exact key 100000 h hg hbs hH hT Ds ρ a w hY hn0 hM hA hD
 |exit id =>
  intro rg E S H T M K h hg hbs hH hT n0 r n Ds ρ a w hY hr hn0 hM hA hD
  simp only[cC]at h
  exact wpIn_exit (fin (.exit id) hH hT hM hA hD h)
 |ret =>
  intro rg E S H T M K h hg hbs hH hT n0 r n Ds ρ a w hY hr hn0 hM hA hD
  simp only[cC]at h
  exact wpIn_ret (fin .ret hH hT hM hA hD h)
 |rangeFunc g ps assign body ih1 ih2 =>
  intro rg E S H T M K h hg hbs hH hT n0 r n Ds ρ a w hY hr hn0 hM hA hD
  simp only[cC]at h
  split at h <;>try exact qh h
  rename_i p hp
  split at h <;>try exact qh h
  rename_i hpn
  have hpn:=eH hpn
  have hr:=hr rfl
  subst hr
  have hps:ps = #[p]:=Array.ext' hp
  subst hps
  have h:R C (ev (yF U g) [] S) H (fun v H' next=>pK X Y (cC P N U nt false assign) R C (aij (U.get p) S v) H' fun e T2 H2=>O7 e (pK X Y (cC P N U nt false body) R C T2 H2 fun e T3 H3=>O7 e (next H3))) (fun H'=>K .normal S H')=true:=h
  obtain⟨gf,nM,hx,hB,hS⟩:=hI C hC _ _ _ _ _ _ _ hg hbs hH (ZJ hT [] g) h
  have hYn:Y=uo:=by
   rcases hYR with e|e
   ·exact e
   ·rw[e]at h;exact(Bool.false_ne_true h).elim
  subst hYn
  refine Vv hx hB hS hM hA hD hn0 hP ?_ ?_
  ·intro l v u M1 Nx ρ1 W1 hRd hM1 hu hle
   obtain⟨E1,sv,H1,nx,e1,e2,e3,e4,e5⟩:=hRd
   have hA1:fo ρ1 nt (T.set p v) { tmps:=a.tmps.setIfInBounds p u,defers:=[] } := by
    have:=LG (hA.mono hle) (d:=some p) (T':=T.set p v) hu (by simp only[QG];rw[aU.2 hpn])
    have e:a.put (some p) u = { tmps:=a.tmps.setIfInBounds p u,defers:=[] } := by rw[← hA.defers];rfl
    rw[e]at this;exact this
   have hT1:fP E1 U (aij (U.get p) S sv) (T.set p v):=by
    cases hup:U.get p with
    |none=>exact(hT.mono e1).skip hup
    |some q=>exact(hT.mono e1).set hU hup e3
   have hD1:uw 0 ρ1 W1 []:=⟨List.nodup_nil,fun _ h=>by cases h⟩
   refine wpIn_mono (ih1 false e4 (e1.g.trans hg) (e1.bs.trans hbs) e2 hT1 0 (some l) 0 [] ρ1 _ W1 XD (fun h=>by cases h) (Nat.zero_le _) hM1 hA1 hD1) fun e a' w' hp=>?_
   obtain⟨x,E2,S2,H2,T2,M2,ρ2,a2,Ds2,rfl,rfl,hds,_,k1,k2,k3,k4,k5,k6⟩:=hp
   cases hds rfl
   cases x with
   |normal =>
    refine⟨M2,ρ2,k1,fun W2' hM2=>?_⟩
    have k6:pK X uo (cC P N U nt false body) R C S2 H2 (fun e T3 H3=>O7 e (nx H3))=true:=k6
    refine wpIn_mono (ih2 false k6 ((e1.trans k3).g.trans hg) ((e1.trans k3).bs.trans hbs) k4 k5 0 (some l) 0 [] ρ2 _ W2' XD (fun h=>by cases h) (Nat.zero_le _) hM2 k2 ⟨List.nodup_nil,fun _ h=>by cases h⟩) fun e a3 w3 hp=>?_
    obtain⟨x,E3,S3,H3,T3,M3,ρ3,a3,Ds3,rfl,rfl,_,_,q1,_,q3,q4,_,q6⟩:=hp
    cases x with
    |normal=>exact⟨rfl,M3,ρ3,q1,e5 E3 H3 M3 (k3.trans q3) q4 q6⟩
    |exit i=>cases q6
    |ret=>cases q6
   |exit i=>cases k6
   |ret=>cases k6
  ·intro M' ρ' w' Ds' hIm hA' hD'
   obtain⟨E',H',e1,e2,e3⟩:=hIm
   exact⟨.normal,E',S,H',T,M',ρ',a,Ds',rfl,rfl,fun h=>(by cases h),hD',hA',hA.mono (hA'.le hM),e1,e2,hT.mono e1,e3⟩
 |scope c1=>intro rg E S H T M K h;simp only[cC]at h;exact qh h
 |label l=>intro rg E S H T M K h;simp only[cC]at h;exact qh h
 |goto l=>intro rg E S H T M K h;simp only[cC]at h;exact qh h
 |refuse=>intro rg E S H T M K h;simp only[cC]at h;exact qh h
end
section
variable {P:Program} {G:Gd} {B:Base} {N:Nat→Option NC} {X:jA} {U:Tree Ky} {C:aI} {R:gK} {E:En} {S:TS} {T:Tree AV} {H:SH} {M:RM}
theorem Kn:∀ (l:List Nat)(k:Ky)(U:Tree Ky),(∀ t q,U.get t=some q→q.nat<k.nat)→Bq U→Bq (Gx l k U)
 |[],k,U,_,h=>h
 |t::r,k,U,hk,h=>by
  unfold Gx
  split
  ·exact Kn r k U hk h
  ·refine Kn r (GG k) _ (fun t' q hq=>?_) (fun t1 t2 q h1 h2=>?_)
   ·rw[UX]
    rw[Tree.bn]at hq
    split at hq
    ·cases hq;omega
    ·have:=hk t' q hq;omega
   ·rw[Tree.bn]at h1 h2
    split at h1<;>split at h2
    ·rename_i e1 e2;rw[e1,e2]
    ·cases h1
     have:=hk t2 _ h2;omega
    ·cases h2
     have:=hk t1 _ h1;omega
    ·exact h t1 t2 q h1 h2
theorem MO{α:Type}(t:Nat):(Tree.leaf:Tree α).get t=none:=by simp[Tree.get]
theorem VE(l:List Nat):Bq (Gx l .h .leaf) :=
 Kn l .h .leaf (fun t q h=>by rw[MO]at h;cases h) (fun t t' q h=>by rw[MO]at h;cases h)
theorem Gy:∀ (n i:Nat),WN (Cy U n i)=n
 |0,_=>rfl
 |n+1,i=>by simp only[Cy,WN,Gy n]
theorem Le(hU:Bq U):∀ {args:List SV}{avs:List AV},aP E args avs→∀ (n i:Nat){S:TS}{T:Tree AV},iy args≤n→fP E U S T→fP E U (JO (Cy U n i) args S) (Tree.ofList avs i T)
 |_,_,.nil,n,i,S,T,_,hT=>by cases n<;>exact hT
 |_,_,.cons x v xs vs p q,0,i,S,T,hl,hT=>by simp only[iy]at hl;omega
 |_,_,.cons x v xs vs p q,n+1,i,S,T,hl,hT=>by
  simp only[iy]at hl
  simp only[Cy,JO,Tree.ofList]
  cases hu:U.get i with
  |none=>exact Le hU q n (i+1) (by omega) (hT.skip hu)
  |some k=>exact Le hU q n (i+1) (by omega) (hT.set hU hu p)
theorem fP.empty:fP E U .leaf .leaf:=fun t k _=>by rw[iQ];exact .top _
theorem Lm(hH:HR E H M)(hT:fP E U S T){Kb:List SV→Bool}:∀ (rs:List ResultVar)(res:List (Ky×Option Nat))(acc:List SV→List SV)(Kp:List AV→Prop),VI P U rs=some res→DN H S Kb res acc=true→(∀ svs vs,aP E svs vs→Kb (acc svs)=true→Kp vs)→YA P T M rs Kp
 |[],res,acc,Kp,hc,h,hK=>by
  simp only[VI]at hc
  cases hc
  exact hK [] [] .nil h
 |r::rs,res,acc,Kp,hc,h,hK=>by
  simp only[VI]at hc
  split at hc <;>try(cases hc;done)
  rename_i l hl
  simp only[YA]
  split at hc
  ·rename_i t
   split at hc <;>try(cases hc;done)
   rename_i k hk
   cases hc
   simp only[DN]at h
   exact Lm hH hT rs l _ _ hl h fun svs vs hs hb=>hK _ _ (.cons _ _ _ _ (hT t k hk) hs) hb
  ·rename_i a t
   split at hc <;>try(cases hc;done)
   ·rename_i k hk ha
    cases hc
    simp only[DN]at h
    have hv:=hT a k hk
    generalize qm .top k S=sv at *
    split at h <;>try(cases h;done)
    generalize hav:(T.get a).getD .top=av at *
    cases hv with|ptr _ _ b e =>
    obtain⟨u,h1,⟨su,h2,h3⟩,_⟩:=ae4 hH h e
    simp only[Xa,ha,hav]
    exact⟨b,_,u,rfl,h1,Lm hH hT rs l _ _ hl h3 fun svs vs hs hb=>hK _ _ (.cons _ _ _ _ h2 hs) hb⟩
   ·rename_i k n hk ha hn
    cases hc
    simp only[DN]at h
    have hv:=hT a k hk
    generalize qm .top k S=sv at *
    split at h <;>try(cases h;done)
    split at h <;>try(cases h;done)
    rename_i vs hvs
    generalize hav:(T.get a).getD .top=av at *
    cases hv with|ptr _ _ b e =>
    obtain⟨us,h1,h2,_⟩:=lc hH hvs e
    simp only[Xa,ha,hav,hn]
    exact⟨b,_,us,rfl,h1,Lm hH hT rs l _ _ hl h fun svs ws hs hb=>hK _ _ (.cons _ _ _ _ (.agg _ _ h2) hs) hb⟩
theorem ab3(hP:POk P)(hC:fO P G B C)(hN:kJ P G B N X)(hI:KD P G B R)(hU:Bq U){f:FuncId}{fn:Func}{c:Code}{args:List SV}{avs:List AV}{K:KS}{x:zJ}(hfn:P.funcs[f]?=some fn)(hbody:fn.body=some c)(hx:cFU P N fn c U=some x)
  (hg:E.g=G) (hbs:E.bs=B) (hH:HR E H M) (hargs:aP E args avs) (h:call2 X R C args H K x=true):dL P f avs M (HK E K):=by
 unfold cFU at hx
 split at hx <;>try(cases hx;done)
 rename_i res hres
 cases hx
 unfold call2 at h
 dsimp only at h
 split at h <;>try(cases h;done)
 rename_i hl1 hl2
 have hl1:=bP hl1
 have hl2:=bP hl2
 rw[Gy]at hl2
 have hal:=hargs.length
 rw[hal]at hl1
 refine⟨⟨fn,c,hfn,hbody⟩,fun ρ w us hus hw=>?_⟩
 have hlen:=hus.length
 have hnt:avs.length+(fn.ntmps-avs.length)=fn.ntmps:=by omega
 have hA:fo ρ fn.ntmps (Tree.ofList avs 0 .leaf) { tmps:=⟨us⟩++Array.replicate (fn.ntmps-(⟨us⟩ : Array Value).size) undef,defers:=[] } := by
  refine⟨by simp[hlen];omega,fun t=>?_,rfl⟩
  rw[Tree.mZ]
  by_cases ht:t<avs.length
  ·rw[if_pos (by omega),Nat.sub_zero]
   obtain⟨u,hu,hv⟩:=hus.get (n:=t) (x:=avs[t]) (by simp[ht])
   rw[List.getElem?_eq_getElem ht]
   simp only[Option.getD_some]
   have:((⟨us⟩ : Array Value)++Array.replicate (fn.ntmps-(⟨us⟩ : Array Value).size) undef).getD t undef=u:=by
    rw[Array.getD_eq_getD_getElem?,Array.getElem?_append_left (by simp;omega)]
    simp[hu]
   rw[this];exact hv
  ·rw[if_neg (by omega)]
   exact .top _
 have hT:fP E U (JO (Cy U (fn.params.size+fn.nfree) 0) args .leaf) (Tree.ofList avs 0 .leaf):=Le hU hargs _ 0 hl2 .empty
 refine(callsIn_wide (n:=0)).1 (callsIn_of_wp_marks hfn hbody trivial ?_)
 have:=aaq hP hC hN hI hU (.inl rfl) c true h hg hbs hH hT w.heap.size none 0 [] ρ _ w XD (fun _=>rfl) (Nat.le_refl _) hw hA ⟨List.nodup_nil,fun _ h=>by cases h⟩
 refine wpIn_mono this fun e a w' hp=>?_
 obtain⟨x,E',S',H',T',M',ρ',a,Ds,rfl,rfl,_,g,k1,k2,k3,k4,k5,k6⟩:=hp
 have key:(∀ w',bu P ρ' M' w'→∃ vs us,(fn.results.toList.mapM (qP a.tmps)).run P w'=.ok us w'∧aQ ρ' vs us∧Go.Ab.Ew (HK E K) M' vs) →
   LeavesInM Fence.wide 0 P fn a.tmps (fun e w'=>∃ v' v M' ρ',e=.returned v'∧After P M ρ w M' ρ' w'∧ai ρ' v v'∧HK E K v M') (Ds.map vF) .returning w':=by
  intro hr
  refine Bu hw.Lc (fun w2 hA2=>?_) Ds w' g k1
  obtain⟨vs,us,h1,h2,h3⟩:=hr w2 hA2.rel
  have hres:(results fn a.tmps).run P w2=.ok (if h:(⟨us⟩ : Array Value).size=1 then(⟨us⟩ : Array Value)[0]else .tuple ⟨us⟩) w2:=by
   have e:results fn a.tmps=(fn.results.mapM (qP a.tmps) >>= fun vs=>pure (if h:vs.size=1 then vs[0]else .tuple vs)):=rfl
   rw[e,Array.mapM_eq_mapM_toList]
   simp only[Sem.run_bind,Sem.run_map,h1,Result.andThen_ok,Sem.run_pure]
  refine⟨_,hres, ?_⟩
  cases h2 with
  |nil=>exact⟨_,_,M',ρ',rfl,hA2,.tup _ _ .nil,h3⟩
  |cons x v xs vs2 hv htl =>
   cases htl with
   |nil=>exact⟨_,x,M',ρ',rfl,hA2,hv,h3⟩
   |cons y u ys us2 hu Vj=>exact⟨_,_,M',ρ',rfl,hA2,.tup _ _ (.cons _ _ _ _ hv (.cons _ _ _ _ hu Vj)),h3⟩
 have done:DN H' S' (Ew K H') res (fun l=>l)=true→∀ w',bu P ρ' M' w'→∃ vs us,(fn.results.toList.mapM (qP a.tmps)).run P w'=.ok us w'∧aQ ρ' vs us∧Go.Ab.Ew (HK E K) M' vs:=by
  intro h w' hw'
  refine qb k2 hw' _ _ (Lm (P:=P) k4 k5 fn.results.toList res _ _ hres h fun svs vs hs hb=>?_)
  unfold Ew at hb
  cases hs with
  |nil=>exact⟨E',_,H',k3,k4,.tup _ _ .nil,hb⟩
  |cons x v xs vs p q =>
   cases q with
   |nil=>exact⟨E',_,H',k3,k4,p,hb⟩
   |cons y u ys us p2 q2=>exact⟨E',_,H',k3,k4,.tup _ _ (.cons _ _ _ _ p (.cons _ _ _ _ p2 q2)),hb⟩
 cases x with
 |normal=>exact key (done k6)
 |ret=>exact key (done k6)
 |exit id=>cases k6
theorem vW(hP:POk P){F:Nat→Option zJ}(hF:∀ f x,F f=some x→cF P N f=some x)(hN:kJ P G B N X)(hI:KD P G B R):∀ n,fO P G B (Dq F N X R n):=by
 intro n
 induction n with
 |zero=>intro f args H K E M avs _ _ _ _ h;exact(Bool.false_ne_true h).elim
 |succ n ih =>
  intro f args H K E M avs hg hbs hH hargs h
  have h:aaQ F N X R (Dq F N X R n) f args H K=true:=h
  unfold aaQ at h
  split at h <;>try(cases h;done)
  rename_i x hx
  have hx:=hF f x hx
  unfold cF at hx
  split at hx <;>try(cases hx;done)
  rename_i fn hfn
  split at hx <;>try(cases hx;done)
  rename_i c hbody
  exact ab3 hP ih hN hI (VE _) hfn hbody hx hg hbs hH hargs h
end
def yV(l:Nat):AV:=.fn (.yield l) [] []
def En.GQ(E:En)(k:Ky)(l:Nat):En :=
 { E with sl:=fun q=>if q.nat=k.nat then some (yV l)else E.sl q,sl1:=fun q v h=>(by
     split at h
     ·cases h;exact⟨rfl,rfl,trivial⟩
     ·exact E.sl1 q v h) }
section
variable {P:Program} {G:Gd} {B:Base} {N:Nat→Option NC} {X:jA} {E:En} {H:SH} {M:RM}
theorem En.alS{k:Ky}{l:Nat}(h:E.sl k=none):E.le (E.GQ k l):=⟨rfl,fun q c hq=>hq,fun q c hq=>(by
 simp only[En.GQ];rw[if_neg];exact hq
 intro e;rw[bF _ _ e,h]at hq;cases hq),rfl⟩
theorem afs(E:En)(k:Ky)(l:Nat):(E.GQ k l).sl k=some (yV l):=by simp[En.GQ]
theorem HR.ar5(h:HR E H M)(l:Nat):E.le (E.GQ H.nx l)∧HR (E.GQ H.nx l) (hpush H .gone) M:=by
 have hle:E.le (E.GQ H.nx l):=En.alS (h.new _ (Nat.le_refl _)).2
 refine⟨hle,fun q=>?_,fun q q' b hq hq'=>?_,fun q b hq=>?_,fun q hq'=>?_,h.base⟩
 ·rw[fq]
  split
  ·trivial
  ·exact(h.blk q).keep hle rfl (Nat.le_refl _) fun b _ _=>rfl
 ·rw[fq]at hq hq'
  split at hq
  ·cases hq
  ·split at hq'
   ·cases hq'
   ·rw[dJ (h.blk q) hle]at hq
    rw[dJ (h.blk q') hle]at hq'
    exact h.sep q q' b hq hq'
 ·rw[fq]at hq
  split at hq
  ·cases hq
  ·rw[dJ (h.blk q) hle]at hq
   exact h.lt q b hq
 ·rw[uV]at hq'
  have:=h.new q (by omega)
  refine⟨this.1, ?_⟩
  simp only[En.GQ]
  rw[if_neg (by omega)]
  exact this.2
theorem akW{U:Tree Ky}{rs:List ResultVar}(h:VI P U rs=some []):rs=[]:=by
 cases rs with
 |nil=>rfl
 |cons r rest =>
  simp only[VI]at h
  repeat' (first|(cases h;done)|split at h)
theorem uT(hP:POk P){F:Nat→Option zJ}(hF:∀ f x,F f=some x→cF P N f=some x)(hN:kJ P G B N X):KD P G B (Dv F X):=by
 intro C hC x H E M xa round fin hg hbs hH hx h
 unfold Dv at h
 split at h <;>try(cases h;done)
 rename_i g nM
 split at h <;>try(cases h;done)
 rename_i xf hxf
 have hxf:=hF _ _ hxf
 unfold cF at hxf
 split at hxf <;>try(cases hxf;done)
 rename_i fn hfn
 split at hxf <;>try(cases hxf;done)
 rename_i c hbody
 generalize hU0:Gx (abe fn.results.toList++wK c []) .h .leaf=U at hxf
 have hU:Bq U:=by rw[← hU0];exact VE _
 unfold cFU at hxf
 split at hxf <;>try(cases hxf;done)
 rename_i res hres
 cases hxf
 unfold akr at h
 dsimp only at h
 split at h <;>try(cases h;done)
 rename_i hl1 hl2
 have hl1:=bP hl1
 have hl2:=bP hl2
 rw[Gy]at hl2
 have hrn:=akW hres
 cases hx with|fn _ _ _ fsA csA hfs hcs =>
 cases hfs
 have hB:Ak P g:=⟨fn,c,hfn,hbody⟩
 refine⟨g,csA,rfl,hB,fun l ρ w us hM hus hy=>?_⟩
 obtain⟨hle,hH1⟩:=hH.ar5 l
 generalize hE1:E.GQ H.nx l=E1 at hle hH1
 have hsl:E1.sl H.nx=some (yV l):=by rw[← hE1];exact afs _ _ _
 have hargs:aP E1 (.bs H.nx::nM) (yV l::csA):=.cons _ _ _ _ (.bs _ _ hsl) (hcs.mono hle)
 have acA:aQ ρ (yV l::csA) (.func (.yield l) #[] #[]::us):=.cons _ _ _ _ (.fn _ _ _ _ _ rfl .nil .nil) hus
 generalize am6:SV.bs H.nx::nM=args at h hargs
 have hln:iy args=Nat.succ (iy nM):=by rw[← am6];rfl
 rw[← hln]at hl1 hl2
 generalize hav:yV l::csA=avs at hargs acA
 generalize husE:(Value.func (.yield l) #[] #[]::us)=vs at acA
 have hal:=hargs.length
 rw[hal]at hl1
 have hlen:=acA.length
 have hnt:avs.length+(fn.ntmps-avs.length)=fn.ntmps:=by omega
 have hA:fo ρ fn.ntmps (Tree.ofList avs 0 .leaf) { tmps:=⟨vs⟩++Array.replicate (fn.ntmps-(⟨vs⟩ : Array Value).size) undef,defers:=[] } := by
  refine⟨by simp[hlen];omega,fun t=>?_,rfl⟩
  rw[Tree.mZ]
  by_cases ht:t<avs.length
  ·rw[if_pos (by omega),Nat.sub_zero]
   obtain⟨u,hu,hv⟩:=acA.get (n:=t) (x:=avs[t]) (by simp[ht])
   rw[List.getElem?_eq_getElem ht]
   simp only[Option.getD_some]
   have:((⟨vs⟩ : Array Value)++Array.replicate (fn.ntmps-(⟨vs⟩ : Array Value).size) undef).getD t undef=u:=by
    rw[Array.getD_eq_getD_getElem?,Array.getElem?_append_left (by simp;omega)]
    simp[hu]
   rw[this];exact hv
  ·rw[if_neg (by omega)]
   exact .top _
 have hT:fP E1 U (JO (Cy U (fn.params.size+fn.nfree) 0) args .leaf) (Tree.ofList avs 0 .leaf):=Le hU hargs _ 0 hl2 .empty
 refine callsIn_of_wp_marks hfn hbody trivial ?_
 have hY:RY P G B none 0 (UO H.nx round) E1 M ρ w:=by
  intro E2 H2 M2 k av as avs2 K hle2 hg2 hbs2 hH2 hsk has hyy ρ2 w2 uf us2 haft huf aze
  unfold UO at hyy
  split at hyy <;>try(cases hyy;done)
  rename_i hk
  have hk:=(jE _ _).1 hk
  subst hk
  split at hyy <;>try(cases hyy;done)
  rename_i v
  have:av=yV l:=by
   have:=hle2.sl _ _ hsl
   rw[hsk]at this;cases this;rfl
  subst this
  have aAV:uf=.func (.yield l) #[] #[]:=by
   cases huf with
   |fn f xs ys us vs hpl hxs hys=>cases hxs;cases hys;rfl
  cases has with|cons _ v' _ _ hv hnil =>
  cases hnil
  cases aze with|cons _ u _ _ hu hn2 =>
  cases hn2
  refine⟨l,u,aAV,rfl, ?_⟩
  obtain⟨fn2,tm2,as2,bd2,hy1,hy2⟩:=(hy v' M2 (fun M3=>HK E2 K (Bo true) M3) ρ2 w2 u ⟨E2,v,H2,fun H'=>K (.b true) H',hle.trans hle2,hH2,hv,hyy,fun E3 H3 M3 q1 q2 q3=>⟨E3,.b true,H3,q1,q2,.b _,q3⟩⟩ haft hu)
  refine⟨fn2,tm2,as2,bd2,hy1,hy2.mono ?_⟩
  rintro e w3 ⟨rfl,M3,ρ3,q1,q2⟩
  exact⟨_,rfl,M3,ρ3,Bo true,q1,.sc _ rfl,q2⟩
 have:=aaq hP hC hN acY hU (.inr rfl) c true h (hle.g.trans hg) (hle.bs.trans hbs) hH1 hT w.heap.size none 0 [] ρ _ w hY (fun _=>rfl) (Nat.le_refl _) hM hA ⟨List.nodup_nil,fun _ h=>by cases h⟩
 refine wpIn_mono this fun e a w' hp=>?_
 obtain⟨x,E',S',H',T',M',ρ',a,Ds,rfl,rfl,_,g,k1,k2,k3,k4,k5,k6⟩:=hp
 have key:ah3 E fin M'→LeavesInM Fence.wide 0 P fn a.tmps (fun e w'=>(∃ v,e=.returned v)∧∃ M' ρ',After P M ρ w M' ρ' w'∧ah3 E fin M') (Ds.map vF) .returning w':=by
  intro hf
  refine Bu hM.Lc (fun w2 hA2=>?_) Ds w' g k1
  have hres:(results fn a.tmps).run P w2=.ok (.tuple #[]) w2:=by
   have e:results fn a.tmps=(fn.results.mapM (qP a.tmps) >>= fun vs=>pure (if h:vs.size=1 then vs[0]else .tuple vs)):=rfl
   rw[e,Array.mapM_eq_mapM_toList,hrn]
   simp[Sem.run_bind,Sem.run_pure]
  exact⟨_,hres,⟨_,rfl⟩,M',ρ',hA2,hf⟩
 cases x with
 |normal=>exact key ⟨E',H',hle.trans k3,k4,k6⟩
 |ret=>exact key ⟨E',H',hle.trans k3,k4,k6⟩
 |exit id=>cases k6
end
mutual
theorem af1:∀ {a b:It},KF a b=true→a=b
 |.c a,b,h=>by
  cases b <;>try(cases h;done)
  rw[bB h]
 |.a a,b,h=>by
  cases b <;>try(cases h;done)
  rw[bB h]
 |.t a,b,h=>by
  cases b <;>try(cases h;done)
  rw[oZ (show nP _ _=true from h)]
 |.u x y,b,h=>by
  cases b <;>try(cases h;done)
  simp only[KF]at h
  split at h <;>try(cases h;done)
  rename_i h1
  rw[bB h1,bB h]
 |.q m p hs x,b,h=>by
  cases b <;>try(cases h;done)
  simp only[KF,Bool.and_eq_true]at h
  rw[jl h.1,jl h.2.1,rP h.2.2.1,oZ h.2.2.2]
 |.r m hs x,b,h=>by
  cases b <;>try(cases h;done)
  simp only[KF,Bool.and_eq_true]at h
  rw[bB h.1,rP h.2.1,oZ h.2.2]
theorem oZ:∀ {a b:List It},nP a b=true→a=b
 |[],[],_=>rfl
 |[],_::_,h=>by cases h
 |_::_,[],h=>by cases h
 |a::x,b::y,h=>by
  unfold nP at h
  split at h <;>try(cases h;done)
  rename_i h1
  rw[af1 h1,oZ h]
end
mutual
theorem yQ:∀ {a b:SV},mJ a b=true→a=b
 |.b a,b,h=>by
  cases b <;>try(cases h;done)
  rename_i b
  have h:IR a b=true:=h
  rw[pG]at h
  rw[eq_of_beq h]
 |.i k a,b,h=>by
  cases b <;>try(cases h;done)
  simp only[mJ]at h
  split at h <;>try(cases h;done)
  rename_i h1
  rw[jM h1,adL h]
 |.iv k x y,b,h=>by
  cases b <;>try(cases h;done)
  simp only[mJ]at h
  split at h <;>try(cases h;done)
  rename_i h1 h2
  rw[jM h1,bB h2,bB h]
 |.ln a,b,h=>by
  cases b <;>try(cases h;done)
  rw[oZ (show nP _ _=true from h)]
 |.s a,b,h=>by
  cases b <;>try(cases h;done)
  rw[oZ (show nP _ _=true from h)]
 |.o a,b,h=>by
  cases b <;>try(cases h;done)
  simp only[mJ]at h
  split at h<;>first|(cases h;done)|rfl
 |.ns,b,h=>by cases b<;>first|(cases h;done)|rfl
 |.top,b,h=>by cases b<;>first|(cases h;done)|rfl
 |.ptr a p,b,h=>by
  cases b <;>try(cases h;done)
  simp only[mJ]at h
  split at h <;>try(cases h;done)
  rename_i h1
  rw[(jE _ _).1 h1,bB h]
 |.pw a p q,b,h=>by cases b<;>cases h
 |.slc a o n c,b,h=>by
  cases b <;>try(cases h;done)
  simp only[mJ]at h
  split at h <;>try(cases h;done)
  rename_i h1 h2 h3
  rw[(jE _ _).1 h1,bB h2,bB h3,VT h]
 |.emp a,b,h=>by
  cases b <;>try(cases h;done)
  rw[(jE _ _).1 (show mU _ _=true from h)]
 |.bs a,b,h=>by
  cases b <;>try(cases h;done)
  rw[(jE _ _).1 (show mU _ _=true from h)]
 |.map a,b,h=>by
  cases b <;>try(cases h;done)
  rw[(jE _ _).1 (show mU _ _=true from h)]
 |.fn f x y,b,h=>by
  cases b <;>try(cases h;done)
  simp only[mJ]at h
  split at h <;>try(cases h;done)
  rename_i h1 h2
  rw[bB h1,lu h2,lu h]
 |.ifc t v,b,h=>by
  cases b <;>try(cases h;done)
  simp only[mJ]at h
  split at h <;>try(cases h;done)
  rename_i h1
  rw[bB h1,yQ h]
 |.agg x,b,h=>by
  cases b <;>try(cases h;done)
  rw[lu (show jY _ _=true from h)]
 |.tup x,b,h=>by
  cases b <;>try(cases h;done)
  rw[lu (show jY _ _=true from h)]
theorem lu:∀ {a b:List SV},jY a b=true→a=b
 |[],[],_=>rfl
 |[],_::_,h=>by cases h
 |_::_,[],h=>by cases h
 |a::x,b::y,h=>by
  simp only[jY]at h
  split at h <;>try(cases h;done)
  rename_i h1
  rw[yQ h1,lu h]
end
theorem PR:∀ {a b:List (SV×SV×Nat)},Lv a b=true→a=b
 |[],[],_=>rfl
 |[],_::_,h=>by cases h
 |_::_,[],h=>by cases h
 |(a,b,n)::x,(c,d,m)::y,h=>by
  simp only[Lv]at h
  split at h <;>try(cases h;done)
  rename_i h1 h2 h3
  rw[yQ h1,yQ h2,bB h3,PR h]
theorem afA{a b:Bk}(h:Bd a b=true):a=b:=by
 cases a with
 |gone=>cases b<;>cases h
 |row l o e =>
  cases b <;>try(cases h;done)
  rename_i l' o' e'
  simp only[Bd]at h
  split at h <;>try(cases h;done)
  rename_i h1 h2
  rw[pG]at h1
  rw[eq_of_beq h1,bB h2,lu h]
 |fro l e =>
  cases b <;>try(cases h;done)
  simp only[Bd]at h
  split at h <;>try(cases h;done)
  rename_i h1
  rw[bB h1,lu h]
 |byt x o e =>
  cases b <;>try(cases h;done)
  rename_i l' o' e'
  simp only[Bd]at h
  split at h <;>try(cases h;done)
  rename_i h1 h2
  rw[pG]at h1
  rw[eq_of_beq h1,bB h2,oZ h]
 |map l c =>
  cases b <;>try(cases h;done)
  simp only[Bd]at h
  split at h <;>try(cases h;done)
  rename_i h1
  rw[bB h1,PR h]
 |iter m s l t =>
  cases b <;>try(cases h;done)
  simp only[Bd]at h
  split at h <;>try(cases h;done)
  rename_i h1 h2 h3
  rw[(jE _ _).1 h1,bB h2,jl h3,bB h]
theorem RD{H:SH}:∀ {l:List (Ky×Bk)},zL H l=true→∀ k x,(k,x)∈l→hget H k=x
 |[],_,k,x,hm=>by cases hm
 |(q,y)::r,h,k,x,hm=>by
  simp only[zL]at h
  split at h <;>try(cases h;done)
  rename_i h1
  rcases List.mem_cons.1 hm with e|hm
  ·cases e;exact afA h1
  ·exact RD h k x hm
theorem Ws(n:Ky):∀ (l:List (Ky×Bk))(k:Ky),hget (uN n l) k=.gone∨∃ x,(k,x)∈l∧hget (uN n l) k=x
 |[],k=>.inl (by show qm Bk.gone k .leaf=Bk.gone;rw[iQ])
 |(q,y)::r,k=>by
  have e:hget (uN n ((q,y)::r)) k=qm .gone k (ru .gone q (aaO r) y):=rfl
  by_cases hk:k=q
  ·subst hk
   refine .inr ⟨y,List.mem_cons_self .., ?_⟩
   rw[e,CJ]
  ·rw[e,LQ _ _ _ _ _ hk]
   rcases Ws n r k with h|⟨x,h1,h2⟩
   ·exact .inl h
   ·exact .inr ⟨x,List.mem_cons_of_mem _ h1,h2⟩
section
variable {P:Program} {G:Gd} {B:Base} {E:En} {H:SH} {M:RM}
theorem HR.sub(h:HR E H M){H0:SH}(hn:H0.nx=H.nx)(hs:∀ k,hget H0 k=.gone∨hget H0 k=hget H k):HR E H0 M:=by
 have ho:∀ k b,b∈bR E k (hget H0 k)→b∈bR E k (hget H k):=by
  intro k b hb
  rcases hs k with e|e
  ·rw[e]at hb;cases hb
  ·rw[e]at hb;exact hb
 refine⟨fun k=>?_,fun k k' b h1 h2=>h.sep k k' b (ho _ _ h1) (ho _ _ h2),fun k b hb=>h.lt k b (ho _ _ hb),fun k hk=>h.new k (by rw[← hn];exact hk),h.base⟩
 rcases hs k with e|e
 ·rw[e];trivial
 ·rw[e];exact h.blk k
theorem HR.part(h:HR E H M){n:Ky}{l:List (Ky×Bk)}(hn:H.nx=n)(hb:zL H l=true):HR E (uN n l) M:=by
 refine h.sub hn.symm fun k=>?_
 rcases Ws n l k with e|⟨x,h1,h2⟩
 ·exact .inl e
 ·exact .inr (by rw[h2,RD hb k x h1])
theorem Mq{K:KS}:∀ {l:List (SV×Ky×List (Ky×Bk))},Fx K l=true→∀ v n bs,(v,n,bs)∈l→K v (uN n bs)=true
 |[],_,v,n,bs,hm=>by cases hm
 |(u,m,cs)::r,h,v,n,bs,hm=>by
  simp only[Fx]at h
  split at h <;>try(cases h;done)
  rename_i h1
  rcases List.mem_cons.1 hm with e|hm
  ·cases e;exact h1
  ·exact Mq h v n bs hm
theorem SF{v:SV}{H:SH}:∀ {l:List (SV×Ky×List (Ky×Bk))},DF v H l=true→∃ n bs,(v,n,bs)∈l∧H.nx=n∧zL H bs=true
 |[],h=>by cases h
 |(u,m,cs)::r,h=>by
  have rest:DF v H r=true→∃ n bs,(v,n,bs)∈(u,m,cs)::r∧H.nx=n∧zL H bs=true:=by
   intro h
   obtain⟨n,bs,h1,h2⟩:=SF h
   exact⟨n,bs,List.mem_cons_of_mem _ h1,h2⟩
  simp only[DF]at h
  split at h
  ·rename_i h1
   split at h
   ·rename_i h2
    split at h
    ·rename_i h3
     rw[yQ h2]
     exact⟨m,cs,List.mem_cons_self ..,(jE _ _).1 h1,h3⟩
    ·exact rest h
   ·exact rest h
  ·exact rest h
inductive Bl(P:Program)(G:Gd)(B:Base)(f:Nat):List Cut→Prop
 |nil:Bl P G B f []
 |cons {C:aI} (hC:fO P G B C) {n:Ky} {args:List SV} {bs:List (Ky×Bk)} {outs:List (SV×Ky×List (Ky×Bk))} {l:List Cut}:C f args (uN n bs) (fun v H=>DF v H outs)=true→Bl P G B f l→Bl P G B f (.mk n args bs outs::l)
theorem af2{f:Nat}{C:aI}(hC:fO P G B C){args:List SV}{K:KS}{avs:List AV}(hg:E.g=G)(hbs:E.bs=B)(hH:HR E H M)(hargs:aP E args avs):∀ {l:List Cut},Bl P G B f l→aiJ f l C args H K=true→dL P f avs M (HK E K)
 |_,.nil,h=>hC f args H K E M avs hg hbs hH hargs h
 |_,.cons (n:=n) (args:=as) (bs:=bs) (outs:=outs) (l:=l) hC' hc hl,h=>by
  have h:(match mU H.nx n with
   |true=>match jY args as with
    |true=>match zL H bs with
     |true=>Fx K outs
     |false=>false
    |false=>false
   |false=>aiJ f l C args H K)=true:=h
  split at h
  ·rename_i h1
   split at h <;>try(cases h;done)
   rename_i h2
   split at h <;>try(cases h;done)
   rename_i h3
   have h1:=(jE _ _).1 h1
   rw[← lu h2]at hc
   refine(hC' f args (uN n bs) _ E M avs hg hbs (hH.part h1 h3) hargs hc).mono ?_
   rintro v M' ⟨E',sv,H',k1,k2,k3,k4⟩
   obtain⟨n',bs',q1,q2,q3⟩:=SF k4
   exact⟨E',sv,uN n' bs',k1,k2.part q2 q3,k3,Mq h _ _ _ q1⟩
  ·exact af2 hC hg hbs hH hargs hl h
end
section
variable {P:Program} {G:Gd} {B:Base} {E:En} {H:SH} {M:RM} {K:KS}
theorem ag7(hH:HR E H M){sv:SV}{v:AV}{s:SB}(hn:∀ t,sv≠.s t)(hs:oq H sv=some s)(hx:SR E sv v):∃ l,bG E.g s l∧aW M 1 v (fM l) l.length:=by
 unfold oq at hs
 split at hs <;>try(cases hs;done)
 ·rename_i k
  split at hs <;>try(cases hs;done)
  rename_i hk
  cases hs
  have h1:=hH.blk k
  rw[hk]at h1
  obtain⟨w,l,e1,e2,_,e4⟩:=h1
  cases hx with|bs _ _ e =>
  rw[e1]at e;cases e
  exact⟨l,e2,e4⟩
 ·split at hs <;>try(cases hs;done)
  rename_i cs hc
  cases hx with|slc _ _ n b' _ e =>
  obtain⟨us,e1,e2,e3⟩:=lc hH hc e
  obtain⟨l,f1,f2,f3⟩:=pO e2 hs
  have hl:=lv e1
  subst f3
  rw[qd]at hl
  refine⟨l,f2, ?_⟩
  rw[hl]
  exact .slc _ _ _ _ _ e3 (by rw[Nat.mul_one];exact e1)
 ·cases hs;cases hx;exact⟨[],.nil,.emp _⟩
 ·cases hs;cases hx;exact⟨[],.nil,.nil⟩
 ·exact absurd rfl (hn _)
theorem qN(hH:HR E H M){sv:SV}{v:AV}{s:SB}(hs:Je H sv=some s)(hx:SR E sv v):∃ l,bG E.g s l∧aW M 1 v (fM l) l.length:=by
 unfold Je at hs
 split at hs
 ·cases hs
 ·rename_i hn
  exact ag7 hH hn hs hx
theorem Wo(hH:HR E H M){c:Ky}{s:SB}{o:Bool}{el:Nat}(h:hget H c=.byt s o el):∃ v l,E.sl c=some v∧bG E.g s l∧aW M 1 v (fM l) l.length∧v.cells=[v]∧oneCell v=true∧iZ v:=by
 have h1:=hH.blk c
 rw[h]at h1
 obtain⟨v,l,e1,e2,_,e4⟩:=h1
 obtain⟨f1,f2,f3⟩:=E.sl1 _ _ e1
 exact⟨v,l,e1,e2,e4,f1,f2,f3⟩
theorem Rf{M' : RM}{v' : AV}{l:bQ}{x:SB}{el:Nat}(hH:HR E H M)(hd:bG E.g x l)(ho:Own M' M.next el 1 v' (fM l) l.length)(hk:ah [] M M'):∃ E',E.le E'∧HR E' (hpush H (.byt x true el)) M'∧SR E' (.bs H.nx) v':=by
 have ho0:=ho.mono (Nat.zero_le _)
 have hle:E.le (E.nW H.nx v' (IM ho0)):=En.EK (hH.new _ (Nat.le_refl _))
 refine⟨_,hle,hH.move0 hle JF hk.base hk.next (fun b hlt=>hk.heap b hlt (by simp)) (PQ iX hd ho0 fun b hb=>by rw[LF];exact IG hb) (fun d hd=>?_),.bs _ _ iX⟩
 simp only[bR,iX]at hd
 exact⟨(ho.blk d hd).2,(ho.blk d hd).1⟩
theorem PT{M' : RM}{v' : AV}{l:bQ}{x:SB}{el:Nat}(hH:HR E H M)(hd:bG E.g x l)(ho:Own M' M.next el 1 v' (fM l) l.length)(hk:ah [] M M')(h:K (.bs H.nx) (hpush H (.byt x true el))=true):HK E K v' M':=by
 obtain⟨E',h1,h2,h3⟩:=Rf hH hd ho hk
 exact⟨E',_,_,h1,h2,h3,h⟩
theorem HR.keep{M' : RM}(h:HR E H M)(hk:ah [] M M'):HR E H M' :=
 ⟨fun k=>(h.blk k).keep (.refl E) hk.base hk.next fun b _ hlt=>hk.heap b hlt (by simp),h.sep,fun k b hb=>Nat.lt_of_lt_of_le (h.lt k b hb) hk.next,h.new,hk.base.trans h.base⟩
theorem Fu{M' : RM}{sv:SV}{v:AV}(hH:HR E H M)(hk:ah [] M M')(hv:SR E sv v)(h:K sv H=true):HK E K v M':=⟨E,sv,H,.refl E,hH.keep hk,hv,h⟩
theorem HR.axq{M' : RM}{k:Ky}(h:HR E H M){y:Bk}(hb:M'.base=M.base)(hn:M.next≤M'.next)(hh:∀ b,b<M.next→b∉bR E k (hget H k)→M'.heap b=M.heap b)(hy:BR E M' k y)(ho:∀ b∈bR E k y,b∈bR E k (hget H k)):HR E (hput H k y) M' where
 blk q:=by
  rw[nI]
  split
  ·rename_i e;rw[bF _ _ e];exact hy
  ·rename_i e
   refine(h.blk q).keep (.refl E) hb hn fun b hbq hlt=>hh b hlt fun hc=>e ?_
   rw[h.sep q k b hbq hc]
 sep q q' b hq hq':=by
  rw[nI]at hq hq'
  split at hq<;>split at hq'
  ·rename_i e e';exact bF _ _ (by omega)
  ·rename_i e e'
   rw[bF _ _ e]at hq ⊢
   exact h.sep k q' b (ho b hq) hq'
  ·rename_i e e'
   rw[bF _ _ e']at hq' ⊢
   exact h.sep q k b hq (ho b hq')
  ·exact h.sep q q' b hq hq'
 lt q b hq:=by
  rw[nI]at hq
  split at hq
  ·rename_i e
   rw[bF _ _ e]at hq
   exact Nat.lt_of_lt_of_le (h.lt k b (ho b hq)) hn
  ·exact Nat.lt_of_lt_of_le (h.lt q b hq) hn
 new q hq:=h.new q (by rw[Aw]at hq;exact hq)
 base:=hb.trans h.base
theorem arZ{v:AV}{cs:List AV}{n:Nat}(h:aW M 1 v cs n):∀ d∈aJ v,d<M.next:=by
 intro d hd
 cases h with
 |nil=>cases hd
 |emp b=>cases hd
 |slc b o n cap cs hb hl =>
  have:d=b:=by simpa [aJ]using hd
  rw[this];exact hb
theorem Ov{t:Nat}(hH:HR E H M){sv:SV}{a:AV}{b c:Ky}{s:SB}(h:Lr t H sv=some (b,c,s))(hx:SR E sv a):∃ rb v l,a=.ptr rb 0∧E.bl b=some rb∧E.sl c=some v∧bG E.g s l∧rb<M.next∧M.heap rb=some (.row [v,Bo false] false t 0)∧aW M 1 v (fM l) l.length∧iZ v∧rb∉aJ v ∧
  ∃ o el,hget H b=.row [.bs c,.b false] false t∧hget H c=.byt s o el:=by
 unfold Lr at h
 split at h <;>try(cases h;done)
 rename_i b'
 split at h <;>try(cases h;done)
 rename_i c' el hb
 split at h <;>try(cases h;done)
 rename_i s' o el' he hc
 cases h
 have he:=bB he
 subst he
 cases hx with|ptr _ _ rb eb =>
 have h1:=hH.blk b
 rw[hb]at h1
 obtain⟨rb',cs,e1,e2,e3,e4,e5⟩:=h1
 rw[eb]at e1;cases e1
 obtain⟨v,l,f1,f2,f3,f4,f5,f6⟩:=Wo hH hc
 cases e4 with|cons _ u _ us p q =>
 cases p with|bs _ _ e =>
 rw[f1]at e;cases e
 cases q with|cons _ u2 _ us2 p2 q2 =>
 cases p2
 cases q2
 refine⟨rb,v,l,rfl,eb,f1,f2,e2,e3,f3,f6,fun hm=>?_,o,el',hb,hc⟩
 have:b=c:=hH.sep b c rb (by rw[hb];simp[bR,eb]) (by rw[hc];simp only[bR,f1];exact hm)
 subst this
 rw[hb]at hc;cases hc
theorem ak9{t:Nat}(hH:HR E H M){b c:Ky}{s s' : SB}{rb:Nat}{v v' : AV}{l' : bQ}{o:Bool}{el:Nat}{M' : RM}{Kb:SH→Bool}(hbl:E.bl b=some rb)(hsl:E.sl c=some v)(hb:hget H b=.row [.bs c,.b false] false t)(hc:hget H c=.byt s o el)(hr:rb∉aJ v)
  (hlt:rb<M.next) (hk:ah [rb] M M') (hn:M'.next=M.next) (hrow:M'.heap rb=some (.row [v',Bo false] false t 0)) (hs:aW M' 1 v' (fM l') l'.length) (hcap:iZ v') (hsub:∀ d∈aJ v',d∈aJ v) (hd:bG E.g s' l') (h:Bv H b c s' Kb=true) :
  ∃ E' H',E.le E'∧HR E' H' M'∧Kb H'=true:=by
 unfold Bv at h
 rw[hb,hc]at h
 dsimp only at h
 have hcell:=aga hs
 have hne:b≠c:=fun e=>by subst e;rw[hb]at hc;cases hc
 have hbnx:b.nat<H.nx.nat:=by
  apply Nat.lt_of_not_le;intro hx
  rw[hH.gone hx]at hb;cases hb
 have hs0:aW M 1 v' (fM l') l'.length:=by
  refine aW.keep (bs:=[rb]) hs ⟨hk.base.symm,by omega,fun x hx hb'=>(hk.heap x (by omega) hb').symm⟩ fun x hx hm=>?_
  rw[List.mem_singleton]at hm
  subst hm
  exact hr (hsub _ hx)
 have hle:E.le (E.nW H.nx v' ⟨hcell.1,hcell.2,hcap⟩):=En.EK (hH.new _ (Nat.le_refl _))
 have Gn:bR E c (hget H c)=aJ v:=by rw[hc];simp only[bR,hsl]
 have h1:HR (E.nW H.nx v' ⟨hcell.1,hcell.2,hcap⟩) (hpush (hput H c .gone) (.byt s' false el)) M:=by
  refine hH.move (c:=c) hle JF rfl (Nat.le_refl _) (fun _ _ _=>rfl) ⟨v',l',iX,hd,fun hf=>absurd hf (by decide),hs0⟩ (fun d hd=>?_)
  simp only[bR,iX]at hd
  exact⟨arZ hs0 d hd,.inr (by rw[Gn];exact hsub d hd)⟩
 generalize hE' : E.nW H.nx v' ⟨hcell.1,hcell.2,hcap⟩=E' at hle h1
 have azJ:E'.sl H.nx=some v':=by rw[← hE'];exact iX
 have hgb:hget (hpush (hput H c .gone) (.byt s' false el)) b=.row [.bs c,.b false] false t:=by
  rw[fq,Aw,if_neg (by omega),nI,if_neg (fun e=>hne (bF _ _ e)),hb]
 have hob:∀ l2:List SV,bR E' b (.row l2 false t)=[rb]:=fun l2=>by simp only[bR,hle.bl _ _ hbl]
 refine⟨E',_,hle,h1.axq (k:=b) (y:=.row [.bs H.nx,.b false] false t) hk.base (by omega) (fun x hx hxb=>hk.heap x hx (by rw[hgb,hob]at hxb;exact hxb)) ⟨rb,[v',Bo false],hle.bl _ _ hbl,by omega,hrow,.cons _ _ _ _ (.bs _ _ azJ) (.cons _ _ _ _ (.b _) .nil),by simp[hcell.2];rfl⟩ (fun x hx=>by rw[hgb,hob];rw[hob]at hx;exact hx),h⟩
end
end Go.Ab.Sy
namespace Go.Ab.aS
open Go Go.Ab
theorem aeY{T size bytes:Nat}{zs:List AV}{M0:RM}{a0:AV}{cs:List AV}{n:Nat}(h:aW M0 size a0 cs n)(h1:cs.all oneCell=true)(hs:1≤size)(hn:n*bytes≤140737488355328)(hn2:n≤140737488355328){Q:aj}
  (hQ:∀ v M',Own M' M0.next T size v cs n→ah [] M0 M'→Q v M') :
  jr false 2 a0 bC fun t4=>aF t4 (Q bC M0) (jN T 0 zs [] fun r f=>cz r f M0 fun t5 M=>appW T size bytes zs false t5 a0 M fun t7 M_0=>Q t7 M_0):=by
 rcases h.Ad false with⟨rfl,e⟩|⟨hne,e⟩
 ·rw[e]
  cases h
  exact⟨fun _=>hQ _ _ .nil (ah.refl _ _),fun h=>by simp at h⟩
 ·rw[e]
  refine⟨fun h=>by simp at h,fun _=>⟨[],rfl, ?_⟩⟩
  have hk:ah [] M0 (M0.push (.row [] false T 0)):=(ah.refl _ _).push _
  refine sZ (base:=M0.next) (Own.lit M0 (Nat.le_refl _)) (by simp[RM.push]) hs ((h.keep hk (by simp)).kP _) h.length h1 (by rw[Nat.zero_add];exact hn) (by omega) ?_
  intro v' M' ho hk' hnx hv
  exact hQ v' M' (by simpa using ho) (hk.GL hk' (by simp[aJ]))
def pg(T size bytes:Nat)(c:aB):Prop:=∀ {M0:RM}{a0:AV}{cs:List AV}{n:Nat},aW M0 size a0 cs n→cs.all oneCell=true→n*bytes≤140737488355328→n≤140737488355328→∀ {Q:aj},
 (∀ v M',Own M' M0.next T size v cs n→ah [] M0 M'→Q v M')→c [a0] M0 Q
def gp(v:Nat):List UInt8:=if v<128 then[UInt8.ofNat v]else UInt8.ofNat (v%128+128)::gp (v / 128) termination_by v decreasing_by omega
theorem pM{v:Nat}(h:v<128):gp v=[UInt8.ofNat v]:=by rw[gp,if_pos h]
theorem pI{v:Nat}(h:¬ v<128):gp v=UInt8.ofNat (v%128+128)::gp (v / 128):=by rw[gp,if_neg h]
theorem J6:∀ (k v:Nat),1≤k→v<128^k→(gp v).length≤k
 |0,_,h,_=>by omega
 |k+1,v,_,h=>by
  by_cases hv:v<128
  ·rw[pM hv];simp
  ·rw[pI hv]
   simp only[List.length_cons]
   have:1≤k:=by
    rcases k with _|k
    ·simp at h;omega
    ·omega
   have:=J6 k (v / 128) this (by rw[Nat.pow_succ]at h;omega)
   omega
abbrev o5(l:List UInt8):List AV:=l.map fun b=>N .u8 b.toNat
theorem OU(l:List UInt8):(o5 l).all oneCell=true:=by simp[oneCell]
def O9(T:Nat)(c:aB):Prop:=∀ {M0:RM}{a0:AV}{cs:List AV}{n v:Nat},aW M0 1 a0 cs n→cs.all oneCell=true→n+10≤140737488355328→v<2^64→∀ {Q:aj},
 (∀ r M',Own M' M0.next T 1 r (cs++o5 (gp v)) (n+(gp v).length)→ah [] M0 M'→Q r M')→c [a0,N .u64 v] M0 Q
theorem WJ{T base:Nat}{M:RM}{b:AV}{cs:List AV}{n:Nat}{x:AV}{K:aj}(ho:Own M base T 1 b cs n)(hb:base≤M.next)(hx:oneCell x=true)(hc:x.cells=[x])(hn:n+1≤140737488355328)
  (hK:∀ v' M',Own M' base T 1 v' (cs++[x]) (n+1)→ah (aJ b) M M'→K v' M'):jN T 1 [N .u8 0] [(0,1,x)] fun r f=>cz r f M fun t M1=>appW T 1 1 [N .u8 0] false b t M1 K:=by
 refine⟨[x],by simp[wH,eu,hc,hx], ?_⟩
 dsimp only
 rw[bL]
 have hk:ah [] M (M.push (.row [x] false T 0)):=(ah.refl _ _).push _
 have hs:aW (M.push (.row [x] false T 0)) 1 (.slc M.next 0 1 (.ex 1)) [x] 1:=.slc _ _ _ _ _ (by simp[RM.push]) (RM.gW (RM.nL _) (by simp))
 refine sZ (ho.keep hk (by simp)) (Nat.le_trans hb hk.next) (Nat.le_refl _) (hs.kP _) (by simp) (by simpa using hx) (by omega) (by omega) ?_
 intro v' M' h1 h2 h3 h4
 exact hK v' M' h1 ((hk.mono (by simp)).trans h2)
theorem alx(m:Nat):N .u8 (IV .u8 (IntKind.u8.wrap (m:Int)) 128)=N .u8 ((UInt8.ofNat (m%128+128)).toNat:Int):=by
 have e1:(128:Int)=((128:Nat):Int):=rfl
 rw[e1,wrap_u8,Zx rfl,xV,anZ (by omega)]
 simp only[Ag]
 congr 2
 omega
theorem alN{m:Nat}(h:m<128):N .u8 (IntKind.u8.wrap (m:Int))=N .u8 ((UInt8.ofNat m).toNat:Int):=by
 rw[wrap_u8,xV]
theorem aAw(m:Nat):N .u64 (rG .u64 (m:Int) 7)=N .u64 ((m / 128:Nat):Int):=by
 rw[show(7:Int)=((7:Nat):Int)from rfl,YH _ _ _ (by decide)]
theorem afv{T:Nat}{c:aB}(hc:pg T 1 1 c):O9 T fun args M Q=>∃ a0 a1,args=[a0,a1]∧YK c T a0 a1 M Q:=by
 intro M0 a0 cs n v h h1 hn hv Q hQ
 refine⟨a0,_,rfl, ?_⟩
 unfold YK
 refine hc h h1 (by omega) (by omega) fun b0 M ho hk=>?_
 refine afq (fun m xs M=>∃ b w done,m=w∧xs=[b,N .u64 (w:Nat)]∧Own M M0.next T 1 b (cs++o5 done) (n+done.length)∧ah [] M0 M∧done++gp w=gp v∧w<2^64) v ⟨b0,v,[],rfl,rfl,by simpa using ho,hk,rfl,hv⟩ ?_
 rintro m ys M1 ⟨b,w,done,rfl,rfl,ho,hk,hd,hw⟩
 have hlen:=J6 10 v (by omega) (by omega)
 rw[← hd,List.length_append]at hlen
 dsimp only
 simp only[go_sem,aD]
 refine⟨fun hge=>?_,fun hlt=>?_⟩
 ·have hge:¬ m<128:=by simp at hge;omega
  rw[pI hge,List.length_cons]at hlen
  refine WJ ho hk.next rfl rfl (by omega) fun b' M' ho' hk'=>?_
  refine⟨by omega,m / 128,by omega,b',m / 128,done++[UInt8.ofNat (m%128+128)],rfl, ?_, ?_,hk.GL hk' (fun c hc=>.inl (ho.blk c hc).1), ?_,by omega⟩
  ·rw[aAw]
  ·rw[alx]at ho'
   simpa [Nat.add_assoc]using ho'
  ·rw[← hd,pI hge];simp
 ·have hlt:m<128:=by simp at hlt;omega
  refine WJ ho hk.next rfl rfl (by rw[pM hlt]at hlen;simp at hlen;omega) fun b' M' ho' hk'=>?_
  refine hQ b' M' ?_ (hk.GL hk' (fun c hc=>.inl (ho.blk c hc).1))
  rw[← hd,pM hlt]
  rw[alN hlt]at ho'
  simpa [Nat.add_assoc]using ho'
def below(n:Nat)(xs:List Nat):Nat:=(xs.takeWhile (fun x=>decide (x<n))).length
theorem half(i j:Nat)(h:i+j<9223372036854775808):N .i64 (IntKind.i64.wrap (rG .u64 (IntKind.u64.wrap (IntKind.i64.wrap ((i:Int)+(j:Int)))) 1))=N .i64 (((i+j) / 2:Nat):Int):=by
 rw[show IntKind.i64.wrap ((i:Int)+(j:Int))=((i+j:Nat):Int) by rw[bM (by omega) (by omega)];rfl]
 rw[show IntKind.u64.wrap (((i+j:Nat):Int))=((i+j:Nat):Int) by unfold IntKind.wrap;simp[IntKind.bits,IntKind.signed];omega]
 rw[show(1:Int)=((1:Nat):Int)from rfl,YH _ _ _ (by decide)]
 rw[show((i+j:Nat) / 2^1)=(i+j) / 2 by simp]
 rw[bM (by omega) (by omega)]
def tF:AV→Prop
 |.slc _ _ n (.ex c)=>n≤c
 |.slc _ _ _ (.op e)=>e=1
 |_=>True
def Lu:Nat→List Nat→Nat×Nat
 |u,[]=>(u,0)
 |u,x::xs=>if x≤u+1 then((Lu (max u x) xs).1,(Lu (max u x) xs).2+1)else(u,0)
def settle(u:Nat)(xs:List Nat):Nat×List Nat:=((Lu u xs).1,xs.drop (Lu u xs).2)
abbrev Pt:=Nat×List Nat
abbrev aS:=Int×Nat
abbrev anQ(d:aS):List AV:=[N .i64 d.1,N .u64 (d.2:Int)]
def good(d:aS):Bool:=decide (0≤d.1)&&decide (d.1<16)&&decide (1≤d.2)&&decide (d.2≤1099511627776)
structure aBG(T:Nat)(S:Nat→Prop)(M:RM)(b:Nat)(ps:List Pt):Prop where
 lt:b<M.next
 len:ps.length=16
 row:∃ l,M.heap b=some (.row l false T 0)∧l.length=32∧∀ (i:Nat)(hi:i<ps.length),∃ v,l[2*i]?=some (N .u64 (ps[i].1:Int))∧l[2*i+1]?=some v∧Sl U64 M v ps[i].2∧tF v∧∀ d∈aJ v,S d
 nb:¬ S b
end Go.Ab.aS
