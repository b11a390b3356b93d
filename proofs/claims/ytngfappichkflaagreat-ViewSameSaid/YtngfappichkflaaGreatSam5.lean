/- Part 5 of the ground of the proofs of this seat (texts D3 to G4E). By an AI agent. -/
import Derived.Test.YtngfappichkflaaGreatSam4
import Derived.Sort.AssemblyPlain
import Derived.KernelRfl
set_option maxRecDepth 10000
set_option linter.unusedVariables false
set_option linter.unusedSimpArgs false
namespace Go.Ab.ay
open Go Go.Ab
theorem Own.lT {M:RM} {n el n0:Nat} {v:AV} {cs:List AV} (h:Own M n0 el 1 v cs n) : lT v:=by
 cases h with
 | nil=>trivial
 | ex0=>exact Nat.le_refl _
 | op=>rfl
theorem ZY {M:RM} {v:AV} {xs:List Nat} {k:Nat} (h:Sl bn M v xs) (hc:lT v) (hk:k≤xs.length) :
  ∃ v',bZ 1 v (some (N .i64 (k:Int))) none none=some v'∧Sl bn M v' (xs.drop k)∧lT v'∧∀ b∈aI v',b∈aI v:=by
 generalize hcs:bn.row xs=cs at *
 have h' : aR M 1 v cs xs.length:=by rw[← hcs]; exact h
 have hl:cs.length=xs.length:=by rw[← hcs,Enc.eu]; simp[bn]
 have hd:bn.row (xs.drop k)=cs.drop k:=by rw[← hcs,← bn.vC]; simp[bn]
 generalize hn:xs.length=n at *
 cases h' with
 | nil =>
   have:k=0:=by omega
   subst this
   exact⟨bB,by simp[bZ,bnd],by simp only[Sl]; rw[hd]; simp[hn]; exact .nil,trivial,by simp⟩
 | emp b =>
   have:k=0:=by omega
   subst this
   exact⟨.emp b,by simp[bZ,bnd],by simp only[Sl]; rw[hd]; simp[hn]; exact .emp b,trivial,by simp⟩
 | slc b o n cap cs hb hload =>
   rw[Nat.mul_one] at hload
   have abN:M.loads b (o + k) (n - k)=some (cs.drop k):=by
    have:=tZ hload k (n - k) (by omega)
    rw[List.take_of_length_le (by simp; omega)] at this
    exact this
   cases cap with
   | ex c =>
     have hcn:n≤c:=hc
     by_cases hck:c=k
     ·have hkn:k=n:=by omega
      refine⟨.slc b o 0 (.ex 0),by simp only[bZ,bnd]; simp[hk,hcn,hck]; omega, ?_,Nat.le_refl _,by simp[aI]⟩
      simp only[Sl]
      rw[hd,List.length_drop,hn,hkn,Nat.sub_self,List.drop_of_length_le (by omega)]
      refine .slc b o 0 _ _ hb ?_
      have:=tZ hload 0 0 (by omega)
      simpa using this
     ·refine⟨.slc b (o + k * 1) (n - k) (.ex (c - k)),by simp only[bZ,bnd]; simp[hk,hcn,hck], ?_,by simp only[lT]; omega,by simp[aI]⟩
      simp only[Sl]
      rw[hd,List.length_drop,hn]
      refine .slc _ _ _ _ _ hb ?_
      show M.loads b (o + k * 1) ((n - k) * 1)=_
      rw[Nat.mul_one,Nat.mul_one]; exact abN
   | op e =>
     have he:e=1:=hc
     subst he
     by_cases hkn:n≤k
     ·refine⟨.emp b,by simp only[bZ,bnd]; simp[hk,hkn], ?_,trivial,by simp[aI]⟩
      simp only[Sl]
      rw[hd,List.length_drop,hn,show n - k=0 by omega,List.drop_of_length_le (by omega)]
      exact .emp b
     ·refine⟨.slc b (o + k * 1) (n - k) (.op 1),by simp only[bZ,bnd]; simp[hk,hkn], ?_,rfl,by simp[aI]⟩
      simp only[Sl]
      rw[hd,List.length_drop,hn]
      refine .slc _ _ _ _ _ hb ?_
      show M.loads b (o + k * 1) ((n - k) * 1)=_
      rw[Nat.mul_one,Nat.mul_one]; exact abN
def dS:Nat→List Nat→Nat × Nat
 | u,[]=>(u,0)
 | u,x :: xs=>if x≤u + 1 then((dS (max u x) xs).1,(dS (max u x) xs).2 + 1) else(u,0)
def settle (u:Nat) (xs:List Nat) : Nat × List Nat:=((dS u xs).1,xs.drop (dS u xs).2)
theorem RH {u:Nat} {xs:List Nat} {i u' : Nat} (hi:i<xs.length) (h:dS u xs=((dS u' (xs.drop i)).1,(dS u' (xs.drop i)).2 + i)) (hle:xs[i]≤u' + 1) :
  dS u xs=((dS (max u' xs[i]) (xs.drop (i + 1))).1,(dS (max u' xs[i]) (xs.drop (i + 1))).2 + (i + 1)):=by
 rw[h,List.drop_eq_getElem_cons hi,dS,if_pos hle]
 ext <;> simp; omega
theorem Sy {u:Nat} {xs:List Nat} {i u' : Nat} (h:dS u xs=((dS u' (xs.drop i)).1,(dS u' (xs.drop i)).2 + i)) (hs:i=xs.length∨∃ hi:i<xs.length,¬ xs[i]≤u' + 1) : dS u xs=(u',i):=by
 rw[h]
 rcases hs with hs | ⟨hi,hs⟩
 ·rw[List.drop_of_length_le (by omega)]; simp[dS]
 ·rw[List.drop_eq_getElem_cons hi,dS,if_neg hs]; simp
theorem Tx (a b:Nat) : (if (b:Int) > (a:Int) then(b:Int) else(a:Int))=((max a b:Nat) : Int):=by
 split <;> omega
theorem RV {l:List AV} {o:Nat} {x:AV} (h:l[o]?=some x) : l.set o x=l:=by
 apply List.ext_getElem?
 intro j
 rw[List.getElem?_set]
 split
 ·rename_i e; subst e
  obtain⟨h1,h2⟩:=List.getElem?_eq_some_iff.1 h
  simp[h1,h2]
 ·rfl
def Df (c:ai) : Prop:=∀ {M:RM} {b o T u:Nat} {l:List AV} {v:AV} {xs:List Nat} {Q:ak},M.heap b=some (.row l false T 0)→l[o]?=some (N .u64 (u:Int))→l[o + 1]?=some v→Sl bn M v xs→b ∉ aI v→lT v →
 xs.length≤1000000→u≤4398046511104→(∀ x∈xs,x≤4398046511104) →
 (∀ v' M',M'.heap b=some (.row ((l.set o (N .u64 (((settle u xs).1:Nat) : Int))).set (o + 1) v') false T 0)→Sl bn M' v' (settle u xs).2→lT v'→(∀ d∈aI v',d∈aI v)→ag [b] M M'→M'.next=M.next→Q (.tup []) M')→c [.ptr b o] M Q
theorem Sq:Df fun args M Q=>∃ a0,args=[a0]∧u7 a0 M Q:=by
 intro M b o T u l v xs Q hb ho hv hs hbv hcap hxl hu hx hQ
 refine⟨_,rfl, ?_⟩
 unfold u7
 simp only[dP]
 have hol:o<l.length:=(List.getElem?_eq_some_iff.1 ho).1
 have agm:o + 1<l.length:=(List.getElem?_eq_some_iff.1 hv).1
 refine aG (fun m ys M3=>∃ (i u' : Nat),m=xs.length - i∧ys=[N .i64 (i:Int)]∧i≤xs.length∧u'≤4398046511104∧M3.heap b=some (.row (l.set o (N .u64 (u' : Int))) false T 0)∧ag [b] M M3∧M3.next=M.next ∧
   dS u xs=((dS u' (xs.drop i)).1,(dS u' (xs.drop i)).2 + i)) _
  ⟨0,u,rfl,rfl,Nat.zero_le _,hu, ?_,ag.refl _ _,rfl,by simp⟩ ?_
 ·rw[hb]
  rw[RV ho]
 rintro next m ys M3 hnext ⟨i,u',rfl,rfl,hi,hu',h3,hK,hn3,hset⟩
 dsimp only[aa]
 have g0:(l.set o (N .u64 (u' : Int)))[o]?=some (N .u64 (u' : Int)):=by rw[List.getElem?_set_self hol]
 have g1:(l.set o (N .u64 (u' : Int)))[o + 1]?=some v:=by rw[List.getElem?_set_ne (by omega)]; exact hv
 have hs3:Sl bn M3 v xs:=aR.keep hs hK (fun d hd h=>by simp at h; subst h; exact hbv hd)
 rw[aU,aP,aA h3 g1,aR.len hs3,dD]
 have stop:(i=xs.length∨∃ hi:i<xs.length,¬ xs[i]≤u' + 1)→dB (.ptr b o) fun t44=>aJ t44 1 fun t45=>az M3 t45 fun t46=>gq (bZ 1 t46 (some (N .i64 (i:Int))) none none) fun t48=>dB (.ptr b o) fun t49=>aJ t49 1 fun t50=>aC M3 t50 t48 1 fun agv=>Q (.tup []) agv:=fun h=>by
  have he:=Sy hset h
  rw[aU,aP,aA h3 g1]
  obtain⟨v',e1,e2,e3,e4⟩:=ZY hs3 hcap hi
  rw[e1,dO,aU,aP,dV h3 (by simpa using agm) (aR.cells e2) (aR.one e2)]
  have kk:ag [b] M3 (M3.put b (.row ((l.set o (N .u64 (u' : Int))).set (o + 1) v') false T 0)):=(ag.refl _ _).put _ (.inr (by simp))
  refine hQ v' _ ?_ ?_ e3 e4 (hK.trans kk) hn3
  ·rw[aN,settle,he]
  ·rw[settle,he]
   exact aR.keep e2 kk (fun d hd h=>by simp at h; subst h; exact hbv (e4 _ hd))
 by_cases hlt:i<xs.length
 ·have hxi:=hx _ (List.getElem_mem hlt)
  obtain⟨b1,o1,_,_,hidx,hc⟩:=Sl.Gd (E:=bn) hs3 (i:Int) hlt
  have hc:=hc _ rfl
  rw[show decide ((i:Int)<(xs.length:Int))=true by simpa using hlt,iK,aU,aP,aA h3 g1,hidx,gL]
  refine⟨_,hc, ?_⟩
  rw[aU,aP,Nat.add_zero,aA h3 g0,cZ,kH]
  rw[show IntKind.u64.wrap ((u' : Int) + 1)=((u' + 1:Nat) : Int) by unfold IntKind.wrap; simp[IntKind.bits,IntKind.signed]; omega]
  dsimp only
  rw[dN]
  refine aD (fun h=>?_) (fun h=>?_)
  ·have hle:xs[i]≤u' + 1:=by
    have h2:((xs[i] : Nat) : Int)≤((u' + 1:Nat) : Int):=of_decide_eq_true h
    omega
   rw[aU,aP,Nat.add_zero,aA h3 g0,aU,aP,aA h3 g1,hidx,gL]
   refine⟨_,hc, ?_⟩
   rw[YQ,if_pos rfl,Tx,aU,aP,Nat.add_zero,wW (l.set o (N .u64 ((max u' xs[i] : Nat) : Int))) h3 (by simpa using hol) rfl rfl (by rw[List.set_set]),cZ,fZ (by omega)]
   exact hnext _ _ _ (by omega) ⟨i + 1,max u' xs[i],rfl,rfl,by omega,by omega,aN _,hK.put _ (.inr (by simp)),hn3,RH hlt hset hle⟩
  ·have hle:¬ xs[i]≤u' + 1:=by
    have h2:¬ ((xs[i] : Nat) : Int)≤((u' + 1:Nat) : Int):=of_decide_eq_false h
    omega
   exact stop (.inr ⟨hlt,hle⟩)
 ·rw[show decide ((i:Int)<(xs.length:Int))=false by simp; omega,jd]
  dsimp only
  rw[cz,bz]
  exact stop (.inl (by omega))
abbrev Pt:=Nat × List Nat
def fQ (p:Pt) (n:Nat) : Bool × Pt :=
 if n∈p.2∨n≤p.1 then(true,p)
 else if (settle p.1 (eX (below n p.2) n p.2)).2.length≤4096 then(true,settle p.1 (eX (below n p.2) n p.2)) else(false,p)
def UM (T:Nat) (c:ai) : Prop:=∀ {M:RM} {v:AV} {bx n0 k x ex:Nat} {xs:List Nat} {Q:ak},Ow bn M n0 T v xs→n0≤M.next→xs.length≤100000→k≤xs.length→M.heap bx=some (.row [N .u64 (x:Int)] false ex 0)→bx<M.next→bx ∉ aI v →
 (∀ v' M',Sl bn M' v' (eX k x xs)→lT v'→(∀ c∈aI v',n0≤c)→ag (aI v) M M'→Q v' M')→c [v,N .i64 (k:Int),.slc bx 0 1 (.ex 1)] M Q
theorem Dh (u:Nat) (xs:List Nat) : (settle u xs).2.length≤xs.length:=by simp[settle]
theorem DI {k x:Nat} {xs:List Nat} {y:Nat} (h:y∈eX k x xs) : y=x∨y∈xs:=by
 unfold eX at h
 rcases List.mem_append.1 h with h | h
 ·exact .inr (List.mem_of_mem_take h)
 ·rcases List.mem_cons.1 h with h | h
  ·exact .inl h
  ·exact .inr (List.mem_of_mem_drop h)
def We (c:ai) : Prop:=∀ {M:RM} {b o T u n:Nat} {l:List AV} {v:AV} {xs:List Nat} {Q:ak},M.heap b=some (.row l false T 0)→b<M.next→l[o]?=some (N .u64 (u:Int))→l[o + 1]?=some v→Sl bn M v xs→b ∉ aI v→lT v →
 Asc xs→xs.length≤10000→u≤4398046511104→(∀ x∈xs,x≤4398046511104)→n≤4398046511104 →
 (∀ M',fQ (u,xs) n=((fQ (u,xs) n).1,(u,xs))→ag [] M M'→Q (Bo (fQ (u,xs) n).1) M') →
 (∀ v' M',M'.heap b=some (.row (l.take o++[N .u64 (((fQ (u,xs) n).2.1:Nat) : Int),v']++l.drop (o + 2)) false T 0)→Sl bn M' v' (fQ (u,xs) n).2.2→lT v'→(∀ d∈aI v',M.next≤d)→ag [b] M M'→Q (Bo (fQ (u,xs) n).1) M') →
 c [.ptr b o,N .u64 (n:Int)] M Q
theorem Zf {TU TP:Nat} {cb cc ci cs:ai} (hsr:Ha cb) (hcl:Yo TU 1 8 cc) (hin:UM TU ci) (hst:Df cs) : We fun args M Q=>∃ a0 a1,args=[a0,a1]∧EI cb TU TP cc ci cs a0 a1 M Q:=by
 intro M b o T u n l v xs Q hb hbl ho hv hs hbv hcap hasc hxl hu hx hn hsame hnew
 refine⟨_,_,rfl, ?_⟩
 unfold EI
 simp only[iN]
 have hol:o + 1<l.length:=(List.getElem?_eq_some_iff.1 hv).1
 rw[aU,aP,aA hb hv]
 refine hsr hs (by omega) hasc ?_
 rw[fo,fu]
 have yes:n∈xs∨n≤u→Q (Bo true) M:=fun h=>by
  have e:fQ (u,xs) n=(true,(u,xs)):=by unfold fQ; rw[if_pos h]
  have:=hsame M (by rw[e]) (ag.refl _ _)
  rw[e] at this; exact this
 by_cases hm:n∈xs
 ·rw[decide_eq_true hm,mF]
  dsimp only
  rw[dN,cO]
  exact yes (.inl hm)
 rw[decide_eq_false hm,iE,aU,aP,Nat.add_zero,aA hb ho,kH]
 dsimp only
 rw[cz]
 by_cases hnu:n≤u
 ·rw[show decide ((n:Int)≤(u:Int))=true by simpa using hnu,cO]
  exact yes (.inr hnu)
 rw[show decide ((n:Int)≤(u:Int))=false by simp; omega,bz]
 have e0:fQ (u,xs) n=if (settle u (eX (below n xs) n xs)).2.length≤4096 then(true,settle u (eX (below n xs) n xs)) else(false,(u,xs)):=by
  unfold fQ; rw[if_neg (by simp[hm]; omega)]
 rw[aU,aP,Nat.add_zero,aA hb ho,aU,aP,aA hb hv,mE (x:=N .u64 (n:Int)) (size:=1) rfl rfl rfl,nL,nL]
 have hx1:((M.push (.row [N .u64 (n:Int)] false TU 0)).push (.row [N .u64 0,bB] false TP 0)).heap M.next=some (.row [N .u64 (n:Int)] false TU 0):=iV (RM.aQ _) (by simp[RM.push])
 have h7:((M.push (.row [N .u64 (n:Int)] false TU 0)).push (.row [N .u64 0,bB] false TP 0)).heap (M.next + 1)=some (.row [N .u64 0,bB] false TP 0):=RM.aQ _
 have kk:ag [] M ((M.push (.row [N .u64 (n:Int)] false TU 0)).push (.row [N .u64 0,bB] false TP 0)):=((ag.refl _ _).push _).push _
 have nn:((M.push (.row [N .u64 (n:Int)] false TU 0)).push (.row [N .u64 0,bB] false TP 0)).next=M.next + 2:=rfl
 rw[qy]
 change cc _ ((M.push (.row [N .u64 (n:Int)] false TU 0)).push (.row [N .u64 0,bB] false TP 0)) _
 generalize (M.push (.row [N .u64 (n:Int)] false TU 0)).push (.row [N .u64 0,bB] false TP 0)=M1 at *
 refine hcl (aR.keep hs kk (by simp)) (bn.tQ xs) (by omega) (by omega) fun v1 M2 ow k2=>?_
 have n2:=k2.next
 have hb2:=(kk.trans k2).aK hb hbl (by simp)
 have hx2:=k2.aK hx1 (by omega) (by simp)
 have h72:=k2.aK h7 (by omega) (by simp)
 have hbi:=below_le n xs
 have hwb:∀ d∈aI v1,M1.next≤d:=fun d hd=>(ow.blk d hd).1
 rw[aA hb2 ho]
 refine⟨rfl, ?_⟩
 rw[mE (x:=N .u64 (n:Int)) (size:=1) rfl rfl rfl]
 refine⟨⟨hx2,rfl⟩,⟨h72,rfl⟩, ?_⟩
 refine hin (n0:=M1.next) ow n2 (by omega) hbi hx2 (by omega) (fun h=>by have:=hwb _ h; omega) fun v2 M3 s3 c3 b3 k3=>?_
 have n3:=k3.next
 have ke:ag [] M M3:=(kk.trans k2).bW k3 fun d hd=>.inl (by have:=hwb d hd; omega)
 have hb3:=ke.aK hb hbl (by simp)
 have h73:=k3.aK h72 (by omega) (fun h=>by have:=hwb _ h; omega)
 rw[aA hb3 ho]
 refine⟨rfl,⟨h73,rfl⟩, ?_⟩
 rw[iD]
 refine⟨[N .u64 (u:Int),v2],adg rfl rfl (aR.known s3) (aR.cells s3), ?_⟩
 rw[dh (n:=2) (x:=.agg [N .u64 (u:Int),v2]) (l:=[N .u64 0,bB]) h73 rfl rfl (by simp[AV.cells,Re,aR.one s3])]
 change cs _ (M3.put (M.next + 1) (.row [N .u64 (u:Int),v2] false TP 0)) _
 have h74:(M3.put (M.next + 1) (.row [N .u64 (u:Int),v2] false TP 0)).heap (M.next + 1)=_:=aN _
 have ke4:ag [] M (M3.put (M.next + 1) (.row [N .u64 (u:Int),v2] false TP 0)):=ke.new _ (by omega)
 have n4:(M3.put (M.next + 1) (.row [N .u64 (u:Int),v2] false TP 0)).next=M3.next:=rfl
 have s4:Sl bn (M3.put (M.next + 1) (.row [N .u64 (u:Int),v2] false TP 0)) v2 (eX (below n xs) n xs):=aR.keep (bs:=[M.next + 1]) s3 ((ag.refl _ _).put _ (.inr (by simp))) (fun d hd h=>by have:=b3 d hd; simp at h; omega)
 have hb4:=mV (z:=.row [N .u64 (u:Int),v2] false TP 0) hb3 (show b≠M.next + 1 by omega)
 generalize M3.put (M.next + 1) (.row [N .u64 (u:Int),v2] false TP 0)=M4 at *
 have hil:=Et (x:=n) hbi
 refine hst h74 rfl rfl s4 (fun h=>by have:=b3 _ h; omega) c3 (by omega) hu (fun y hy=>by rcases DI hy with rfl | hy; exact hn; exact hx y hy) ?_
 intro v5 M5 h75 s5 c5 b5 k5 n5
 have hb5:=k5.aK hb4 (by omega) (by simp; omega)
 have ke5:ag [] M M5:=ke4.bW k5 fun d hd=>.inl (by simp at hd; omega)
 simp only[List.set_cons_zero,List.set_cons_succ,Nat.zero_add] at h75
 rw[bJ,aA h75 rfl,aR.len s5,iQ]
 refine aD (fun hg=>?_) (fun hg=>?_)
 ·have hg:¬ (settle u (eX (below n xs) n xs)).2.length≤4096:=by simp at hg; omega
  rw[if_neg hg] at e0
  have:=hsame M5 (by rw[e0]) ke5
  rw[e0] at this; exact this
 ·have hg:(settle u (eX (below n xs) n xs)).2.length≤4096:=by simp at hg; omega
  rw[if_pos hg] at e0
  rw[bS (n:=2) h75 rfl,aU,yX]
  have hst:M5.stores b o [N .u64 (((settle u (eX (below n xs) n xs)).1:Nat) : Int),v5]=some (M5.put b (.row (l.take o++[N .u64 (((settle u (eX (below n xs) n xs)).1:Nat) : Int),v5]++l.drop (o + 2)) false T 0)):=by
   rw[RM.wO hb5,qm (by simp only[List.length_cons,List.length_nil]; omega) (Nat.zero_le _) (by simp[Re,aR.one s5])]; rfl
  refine⟨rfl,_,hst, ?_⟩
  have kf:ag [b] M5 (M5.put b (.row (l.take o++[N .u64 (((settle u (eX (below n xs) n xs)).1:Nat) : Int),v5]++l.drop (o + 2)) false T 0)):=(ag.refl _ _).put _ (.inr (by simp))
  have:=hnew v5 _ (by rw[aN,e0]) (by rw[e0]; exact aR.keep s5 kf (fun d hd h=>by have:=b3 d (b5 d hd); simp at h; omega)) c5 (fun d hd=>by have:=b3 d (b5 d hd); omega) ((ke5.mono (by simp)).trans kf)
  rw[e0] at this; exact this
def jg (p:Pt) (n:Nat) : Bool:=(decide (1≤n) && decide (n≤p.1)) || decide (n∈p.2)
def P5 (c:ai) : Prop:=∀ {M:RM} {b o T u n:Nat} {l:List AV} {v:AV} {xs:List Nat} {Q:ak},M.heap b=some (.row l false T 0)→l[o]?=some (N .u64 (u:Int))→l[o + 1]?=some v→Sl bn M v xs→Asc xs→xs.length≤1000000 →
 Q (Bo (jg (u,xs) n)) M→c [.ptr b o,N .u64 (n:Int)] M Q
theorem Yw {cb:ai} (hsr:Ha cb) : P5 fun args M Q=>∃ a0 a1,args=[a0,a1]∧Eg cb a0 a1 M Q:=by
 intro M b o T u n l v xs Q hb ho hv hs hasc hxl hQ
 refine⟨_,_,rfl, ?_⟩
 unfold Eg
 simp only[iN]
 unfold jg at hQ
 rw[aU,aP,aA hb hv]
 refine hsr hs hxl hasc ?_
 rw[fo,fu,fU]
 by_cases h1:1≤n
 ·rw[show decide ((n:Int) ≥ 1)=true by simp; omega,cB,aU,aP,Nat.add_zero,aA hb ho,kH]
  dsimp only
  rw[dN]
  by_cases h2:n≤u
  ·rw[show decide ((n:Int)≤(u:Int))=true by simpa using h2,mF]
   dsimp only
   rw[dN]
   simpa [h1,h2] using hQ
  ·rw[show decide ((n:Int)≤(u:Int))=false by simp; omega,iE]
   dsimp only
   rw[cz]
   simpa [h1,h2] using hQ
 ·rw[show decide ((n:Int) ≥ 1)=false by simp; omega,bI]
  dsimp only
  rw[cz,iE]
  dsimp only
  rw[cz]
  simpa [h1] using hQ
abbrev ay:=Int × Nat
abbrev aO (d:ay) : List AV:=[N .i64 d.1,N .u64 (d.2:Int)]
def aV:Enc ay:=⟨2,aO,fun _=>rfl,fun _=>rfl⟩
def good (d:ay) : Bool:=decide (0≤d.1) && decide (d.1<16) && decide (1≤d.2) && decide (d.2≤1099511627776)
def Bv (c:ai) : Prop:=∀ {M:RM} {d:ay} {Q:ak},(∀ M',ag [] M M'→Q (Bo (good d)) M')→c [.agg (aO d)] M Q
theorem O9 {M1:RM} {K:ak} {d:ay} {T:Nat} {b:Nat} (h:M1.heap b=some (.row (aO d) false T 0)) (hQ:K (Bo (good d)) M1) :
  aJ (.ptr b 0) 0 fun t3=>az M1 t3 fun t4=>af .geq t4 (N .i64 0) fun t5 =>
   aj t5 true (fun k'=>aJ (.ptr b 0) 0 fun t7=>az M1 t7 fun t8=>af .lss t8 (N .i64 16) fun t9=>k' t9 M1) (fun k=>k .undef M1) fun t9 M2=>aL t5 t9 (Bo false) fun Py =>
   aj Py true (fun k'=>aJ (.ptr b 0) 1 fun t12=>az M2 t12 fun t13=>af .geq t13 (N .u64 1) fun t14=>k' t14 M2) (fun k=>k .undef M2) fun t14 M3=>aL Py t14 (Bo false) fun t15 =>
   aj t15 true (fun k'=>aJ (.ptr b 0) 1 fun t17=>az M3 t17 fun t18=>af .leq t18 (N .u64 1099511627776) fun t19=>k' t19 M3) (fun k=>k .undef M3) fun t19 M4=>aL t15 t19 (Bo false) fun t20=>K t20 M4:=by
 unfold good at hQ
 obtain⟨dv,n⟩:=d
 simp only at hQ
 rw[bJ,aA h rfl,fU]
 by_cases h1:0≤dv
 ·rw[show decide (dv ≥ 0)=true by simpa using h1,cB,bJ,aA h rfl,dD]
  dsimp only
  rw[dN]
  by_cases h2:dv<16
  ·rw[show decide (dv<16)=true by simpa using h2,cB,bJ,aA h rfl,fU]
   dsimp only
   rw[dN]
   by_cases h3:1≤n
   ·rw[show decide ((n:Int) ≥ 1)=true by simp; omega,cB,bJ,aA h rfl,kH]
    dsimp only
    rw[dN,show decide ((n:Int)≤1099511627776)=decide (n≤1099511627776) by simp; omega]
    simpa [h1,h2,h3] using hQ
   ·rw[show decide ((n:Int) ≥ 1)=false by simp; omega,bI]
    dsimp only
    rw[cz]
    simpa [h1,h2,h3] using hQ
  ·rw[show decide (dv<16)=false by simpa using h2,bI]
   dsimp only
   rw[cz,bI]
   dsimp only
   rw[cz]
   simpa [h1,h2] using hQ
 ·rw[show decide (dv ≥ 0)=false by simpa using h1,bI]
  dsimp only
  rw[cz,bI]
  dsimp only
  rw[cz,bI]
  dsimp only
  rw[cz]
  simpa [h1] using hQ
theorem Zw {T:Nat} : Bv fun args M Q=>∃ a0,args=[a0]∧IY T a0 M Q:=by
 intro M d Q hQ
 refine⟨_,rfl, ?_⟩
 unfold IY
 simp only[iN]
 rw[dJ rfl (by simp),aX]
 exact O9 (RM.aQ _) (hQ _ ((ag.refl _ _).push _))
theorem Qt {T:Nat} : Bv fun args M Q=>∃ a0,args=[a0]∧JN T a0 M Q:=by
 intro M d Q hQ
 refine⟨_,rfl, ?_⟩
 unfold JN
 simp only[iN]
 rw[dJ rfl (by simp),aX]
 exact O9 (RM.aQ _) (hQ _ ((ag.refl _ _).push _))
def jZ (p:Pt) : Prop:=Asc p.2∧(∀ x∈p.2,p.1 + 1<x)∧p.1≤1099511627776∧(∀ x∈p.2,x≤1099511627776)∧p.2.length≤4096
theorem ZF {n:Nat} {xs:List Nat} (h:Asc xs) (hn:n ∉ xs) : Asc (eX (below n xs) n xs):=by
 unfold eX Asc
 rw[List.pairwise_append]
 have ht:=List.Pairwise.sublist (List.take_sublist (below n xs) xs) h
 have hd:=List.Pairwise.sublist (List.drop_sublist (below n xs) xs) h
 have lt1:∀ a∈xs.take (below n xs),a<n:=fun a ha=>by
  obtain⟨i,hi,rfl⟩:=List.getElem_of_mem ha
  rw[List.getElem_take]
  exact Ra (by simp at hi; omega) (by simp at hi; omega)
 have gt1:∀ a∈xs.drop (below n xs),n<a:=fun a ha=>by
  obtain⟨i,hi,rfl⟩:=List.getElem_of_mem ha
  rw[List.getElem_drop]
  simp only[List.length_drop] at hi
  have h0:below n xs<xs.length:=by omega
  have h1:=QN (n:=n) h0
  have h2:xs[below n xs]≠n:=fun e=>hn (by rw[← e]; exact List.getElem_mem h0)
  rcases Nat.eq_zero_or_pos i with rfl | hi0
  ·simp only[Nat.add_zero]; omega
  ·have:=h.lt (i:=below n xs) (j:=below n xs + i) (by omega) (by omega); omega
 refine⟨ht,List.pairwise_cons.2 ⟨gt1,hd⟩,fun a ha b hb=>?_⟩
 rcases List.mem_cons.1 hb with rfl | hb
 ·exact lt1 a ha
 ·have:=lt1 a ha; have:=gt1 b hb; omega
theorem Av:∀ (xs:List Nat) (u N:Nat),Asc xs→u≤N→(∀ x∈xs,x≤N)→Asc (settle u xs).2∧(∀ x∈(settle u xs).2,(settle u xs).1 + 1<x)∧(settle u xs).1≤N∧u≤(settle u xs).1
 | [],u,N,_,hu,_=>⟨by simp[settle,dS,Asc],by simp[settle,dS],hu,Nat.le_refl _⟩
 | x :: xs,u,N,ha,hu,hx=>by
   have ha2:=(List.pairwise_cons.1 ha).2
   by_cases h:x≤u + 1
   ·have e:settle u (x :: xs)=settle (max u x) xs:=by
     unfold settle
     rw[dS,if_pos h]; rfl
    rw[e]
    have:=Av xs (max u x) N ha2 (by have:=hx x (by simp); omega) (fun y hy=>hx y (by simp[hy]))
    exact⟨this.1,this.2.1,this.2.2.1,by have:=this.2.2.2; omega⟩
   ·have e:settle u (x :: xs)=(u,x :: xs):=by
     unfold settle
     rw[dS,if_neg h]; rfl
    rw[e]
    refine⟨ha,fun y hy=>?_,hu,Nat.le_refl _⟩
    simp only at hy ⊢
    rcases List.mem_cons.1 hy with rfl | hy
    ·omega
    ·have:=(List.pairwise_cons.1 ha).1 y hy; omega
theorem LY {u:Nat} {xs:List Nat} {y:Nat} (h:y∈(settle u xs).2) : y∈xs:=List.mem_of_mem_drop h
theorem ab5 {p:Pt} {n:Nat} (hp:jZ p) (hn:n≤1099511627776) : jZ (fQ p n).2:=by
 unfold fQ
 split
 ·exact hp
 ·rename_i h
  split
  ·rename_i h2
   have hm:n ∉ p.2:=fun hm=>h (.inl hm)
   have:=Av (eX (below n p.2) n p.2) p.1 1099511627776 (ZF hp.1 hm) hp.2.2.1 (fun x hx=>by rcases DI hx with rfl | hx; exact hn; exact hp.2.2.2.1 x hx)
   exact⟨this.1,this.2.1,this.2.2.1,fun x hx=>by rcases DI (LY hx) with rfl | hx; exact hn; exact hp.2.2.2.1 x hx,h2⟩
  ·exact hp
structure fV (T:Nat) (S:Nat→Prop) (M:RM) (b:Nat) (ps:List Pt) : Prop where
 lt:b<M.next
 len:ps.length=16
 row:∃ l,M.heap b=some (.row l false T 0)∧l.length=32∧∀ (i:Nat) (hi:i<ps.length),∃ v,l[2 * i]?=some (N .u64 (ps[i].1:Int))∧l[2 * i + 1]?=some v∧Sl bn M v ps[i].2∧lT v∧∀ d∈aI v,S d
 nb:¬ S b
theorem fV.mono {T:Nat} {S S' : Nat→Prop} {M:RM} {b:Nat} {ps:List Pt} (h:fV T S M b ps) (hs:∀ d,S d→S' d) (hb:¬ S' b) : fV T S' M b ps:=by
 obtain⟨l,h1,h2,h3⟩:=h.row
 exact⟨h.lt,h.len,⟨l,h1,h2,fun i hi=>let ⟨v,a1,a2,a3,a4,a5⟩:=h3 i hi; ⟨v,a1,a2,a3,a4,fun d hd=>hs d (a5 d hd)⟩⟩,hb⟩
theorem fV.keep {T:Nat} {S:Nat→Prop} {M M' : RM} {b:Nat} {ps:List Pt} {bs:List Nat} (h:fV T S M b ps) (hk:ag bs M M') (hb:b ∉ bs) (hs:∀ d∈bs,¬ S d) : fV T S M' b ps:=by
 obtain⟨l,h1,h2,h3⟩:=h.row
 exact⟨Nat.lt_of_lt_of_le h.lt hk.next,h.len,⟨l,hk.aK h1 h.lt hb,h2,fun i hi=>let ⟨v,a1,a2,a3,a4,a5⟩:=h3 i hi; ⟨v,a1,a2,aR.keep a3 hk (fun d hd hm=>hs d hm (a5 d hd)),a4,a5⟩⟩,h.nb⟩
theorem fV.below {T:Nat} {S:Nat→Prop} {M:RM} {b:Nat} {ps:List Pt} (h:fV T S M b ps) : fV T (fun d=>S d∧d<M.next) M b ps:=by
 obtain⟨l,h1,h2,h3⟩:=h.row
 exact⟨h.lt,h.len,⟨l,h1,h2,fun i hi=>let ⟨v,a1,a2,a3,a4,a5⟩:=h3 i hi; ⟨v,a1,a2,a3,a4,fun d hd=>⟨a5 d hd,aR.lt a3 d hd⟩⟩⟩,fun hb=>h.nb hb.1⟩
def kI (ps:List Pt) (d:ay) : Int × List Pt :=
 if good d then(if (fQ (ps.getD d.1.toNat (0,[])) d.2).1 then(0,ps.set d.1.toNat (fQ (ps.getD d.1.toNat (0,[])) d.2).2) else(2,ps)) else(1,ps)
def P7 (T:Nat) (c:ai) : Prop:=∀ {M:RM} {b:Nat} {ps:List Pt} {d:ay} {S:Nat→Prop} {Q:ak},fV T S M b ps→(∀ p∈ps,jZ p) →
 (∀ M',fV T (fun e=>S e∨M.next≤e) M' b (kI ps d).2→ag [b] M M'→Q (N .i64 (kI ps d).1) M')→c [.ptr b 0,.agg (aO d)] M Q
theorem VL {p:Pt} {n:Nat} (h:(fQ p n).1=false) : (fQ p n).2=p:=by
 unfold fQ at h ⊢
 split
 ·rfl
 ·split
  ·rename_i h1 h2
   rw[if_neg h1,if_pos h2] at h; cases h
  ·rfl
theorem YC {T TD:Nat} {cg ca:ai} (hg:Bv cg) (ha:We ca) : P7 T fun args M Q=>∃ a0 a1,args=[a0,a1]∧Gg TD cg ca a0 a1 M Q:=by
 intro M b ps d S Q hset hwf hQ
 refine⟨_,_,rfl, ?_⟩
 unfold Gg
 rw[dJ rfl (by simp),aX,bS (n:=2) (RM.aQ _) rfl]
 have k1:ag [] M (M.push (.row (aO d) false TD 0)):=(ag.refl _ _).push _
 have h3:(M.push (.row (aO d) false TD 0)).heap M.next=some (.row (aO d) false TD 0):=RM.aQ _
 have n1:(M.push (.row (aO d) false TD 0)).next=M.next + 1:=rfl
 generalize M.push (.row (aO d) false TD 0)=M1 at *
 refine hg fun M2 k2=>?_
 have kk:=k1.trans k2
 have h3:=k2.aK h3 (by omega) (by simp)
 have s2:=hset.keep kk (by simp) (by simp)
 have hbl:=hset.lt
 rw[bu]
 unfold kI at hQ
 have n2:=k2.next
 cases hgd:good d with
 | false =>
   simp only[hgd,Bool.false_eq_true,if_false] at hQ
   rw[Bool.not_false,cO]
   exact hQ M2 (s2.mono (fun e h=>.inl h) (fun h=>by rcases h with h | h; exact hset.nb h; omega)) (kk.mono (by simp))
 | true =>
   simp only[hgd,if_true] at hQ
   have hgd':=hgd
   simp[good] at hgd'
   obtain⟨i,hi⟩ : ∃ i:Nat,d.1=(i:Int):=⟨d.1.toNat,by omega⟩
   have S9:i<16:=by omega
   have hil:i<ps.length:=by rw[hset.len]; exact S9
   have aeP:ps.getD d.1.toNat (0,[])=ps[i]:=by rw[hi,Int.toNat_natCast,List.getD_eq_getElem?_getD,List.getElem?_eq_getElem hil]; rfl
   rw[aeP] at hQ
   rw[hi,Int.toNat_natCast] at hQ
   rw[Bool.not_true,bz,bJ,aA h3 rfl,aU,bJ,hi,Ao]
   refine⟨by omega,by omega, ?_⟩
   rw[bJ,aA h3 rfl,Int.toNat_natCast,Nat.zero_add,Nat.mul_comm i 2]
   obtain⟨l,hb,XL,hrow⟩:=s2.row
   obtain⟨v,a1,a2,a3,a4,a5⟩:=hrow i hil
   have hwp:=hwf _ (List.getElem_mem hil)
   have hk0:∀ b'∈([b] : List Nat),b'=b:=by simp
   refine ha hb s2.lt a1 a2 a3 (fun h=>hset.nb (a5 b h)) a4 hwp.1 (by have:=hwp.2.2.2.2; omega) (by have:=hwp.2.2.1; omega) (fun x hx=>by have:=hwp.2.2.2.1 x hx; omega) (by omega) ?_ ?_
   ·intro M3 he k3
    have s3:=s2.keep k3 (by simp) (by simp)
    rw[bu]
    cases hr:(fQ (ps[i].1,ps[i].2) d.2).1 with
    | false =>
      have hr' : (fQ ps[i] d.2).1=false:=hr
      simp only[hr',Bool.false_eq_true,if_false] at hQ
      rw[Bool.not_false,cO]
      exact hQ M3 (s3.mono (fun e h=>.inl h) (fun h=>by rcases h with h | h; exact hset.nb h; omega)) ((kk.trans k3).mono (by simp))
    | true =>
      have hr' : (fQ ps[i] d.2).1=true:=hr
      have he2:(fQ ps[i] d.2).2=ps[i]:=by
       have:=congrArg Prod.snd he
       exact this
      simp only[hr',if_true,he2,List.set_getElem_self] at hQ
      rw[Bool.not_true,bz]
      exact hQ M3 (s3.mono (fun e h=>.inl h) (fun h=>by rcases h with h | h; exact hset.nb h; omega)) ((kk.trans k3).mono (by simp))
   ·intro v' M3 hb3 hs3 hc3 hbk k3
    rw[bu]
    have hb2n:∀ b'∈aI v',b'≠b:=fun b' hb' e=>by have:=hbk b' hb'; omega
    have QO:fV T (fun e=>S e∨M.next≤e) M3 b (ps.set i (fQ ps[i] d.2).2):=by
     refine⟨Nat.lt_of_lt_of_le s2.lt k3.next,by rw[List.length_set]; exact hset.len,⟨_,hb3,by simp[XL]; omega,fun j hj=>?_⟩,fun h=>by rcases h with h | h; exact hset.nb h; omega⟩
     rw[List.length_set] at hj
     have htl:(l.take (2 * i)).length=2 * i:=by simp; omega
     by_cases hji:j=i
     ·subst hji
      refine⟨v', ?_, ?_, ?_,hc3,fun e he=>.inr (by have:=hbk e he; omega)⟩
      ·rw[List.append_assoc,List.getElem?_append_right (by omega),htl,Nat.sub_self]; simp
      ·rw[List.append_assoc,List.getElem?_append_right (by omega),htl,show 2 * j + 1 - 2 * j=1 by omega]; simp
      ·simp only[List.getElem_set_self]; exact hs3
     ·obtain⟨w,e1,e2,e3,e4,e5⟩:=hrow j hj
      have same:∀ k,(k=2 * j∨k=2 * j + 1)→(l.take (2 * i)++[N .u64 (((fQ (ps[i].1,ps[i].2) d.2).2.1:Nat) : Int),v']++l.drop (2 * i + 2))[k]?=l[k]?:=fun k hk=>by
       rcases Nat.lt_or_ge k (2 * i) with h | h
       ·rw[List.append_assoc,List.getElem?_append_left (by omega),List.getElem?_take_of_lt h]
       ·rw[List.getElem?_append_right (by simp; omega),List.getElem?_drop]
        congr 1
        simp; omega
      refine⟨w, ?_, ?_, ?_,e4,fun e he=>.inl (e5 e he)⟩
      ·rw[same _ (.inl rfl),e1,List.getElem_set_ne (Ne.symm hji)]
      ·rw[same _ (.inr rfl),e2]
      ·rw[List.getElem_set_ne (Ne.symm hji)]
       exact aR.keep e3 k3 (fun e he hm=>by simp at hm; subst hm; exact hset.nb (e5 _ he))
    cases hr:(fQ (ps[i].1,ps[i].2) d.2).1 with
    | false =>
      have hr' : (fQ ps[i] d.2).1=false:=hr
      simp only[hr',Bool.false_eq_true,if_false] at hQ
      rw[Bool.not_false,cO]
      have e:=VL hr'
      rw[e,List.set_getElem_self] at QO
      exact hQ M3 QO ((kk.mono (by simp)).trans k3)
    | true =>
      have hr' : (fQ ps[i] d.2).1=true:=hr
      simp only[hr',if_true] at hQ
      rw[Bool.not_true,bz]
      exact hQ M3 QO ((kk.mono (by simp)).trans k3)
def jy:List Pt:=List.replicate 16 (0,[])
def Rs (T:Nat) (c:ai) : Prop:=∀ {M:RM} {Q:ak},(∀ M',fV T (fun _=>False) M' M.next jy→ag [] M M'→M'.next=M.next + 1→Q (.ptr M.next 0) M')→c [] M Q
theorem Z0 {T:Nat} : Rs T fun args M Q=>args=[]∧Mm T M Q:=by
 intro M Q hQ
 refine⟨rfl, ?_⟩
 unfold Mm
 rw[iD]
 refine⟨_,rfl, ?_⟩
 rw[dJ rfl (by simp),aX]
 refine hQ _ ⟨by simp[RM.push],rfl,⟨_,RM.aQ _,rfl,fun i hi=>?_⟩,id⟩ ((ag.refl _ _).push _) rfl
 have hi:i<16:=hi
 refine⟨bB, ?_, ?_, ?_,trivial,by simp[aI]⟩
 ·obtain rfl | rfl | rfl | rfl | rfl | rfl | rfl | rfl | rfl | rfl | rfl | rfl | rfl | rfl | rfl | rfl:i=0∨i=1∨i=2∨i=3∨i=4∨i=5∨i=6∨i=7∨i=8∨i=9∨i=10∨i=11∨i=12∨i=13∨i=14∨i=15:=by omega
  all_goals rfl
 ·obtain rfl | rfl | rfl | rfl | rfl | rfl | rfl | rfl | rfl | rfl | rfl | rfl | rfl | rfl | rfl | rfl:i=0∨i=1∨i=2∨i=3∨i=4∨i=5∨i=6∨i=7∨i=8∨i=9∨i=10∨i=11∨i=12∨i=13∨i=14∨i=15:=by omega
  all_goals rfl
 ·simp only[jy,List.getElem_replicate]; exact .nil
section
variable {α:Type} {E:Enc α}
end
def adN:Nat→Nat→List UInt8→Option (Nat × Nat)
 | _,_,[]=>none
 | i,v,x :: xs =>
   if x.toNat ≥ 128 then adN (i + 1) ((v ||| (x.toNat % 128 * 2 ^ (7 * i) % 2 ^ 64)) % 2 ^ 64) xs
   else if x.toNat=0∧i > 0∨i=9∧x.toNat > 1 then none else some ((v ||| (x.toNat % 128 * 2 ^ (7 * i) % 2 ^ 64)) % 2 ^ 64,i + 1)
def afY (bs:List UInt8) : Option (Nat × Nat):=adN 0 0 (bs.take 10)
structure RdH (T:Nat) (S:Nat→Prop) (M:RM) (r:Nat) (bs:List UInt8) (f:Bool) : Prop where
 lt:r<M.next
 row:∃ v,M.heap r=some (.row [v,Bo f] false T 0)∧Sl BY M v bs∧lT v∧∀ d∈aI v,S d
 nb:¬ S r
theorem RdH.keep {T:Nat} {S:Nat→Prop} {M M' : RM} {r:Nat} {bs:List UInt8} {f:Bool} {ks:List Nat} (h:RdH T S M r bs f) (hk:ag ks M M') (hr:r ∉ ks) (hs:∀ d∈ks,¬ S d) : RdH T S M' r bs f:=by
 obtain⟨v,h1,h2,h3,h4⟩:=h.row
 exact⟨Nat.lt_of_lt_of_le h.lt hk.next,⟨v,hk.aK h1 h.lt hr,aR.keep h2 hk (fun d hd hm=>hs d hm (h4 d hd)),h3,h4⟩,h.nb⟩
def acD (most:Nat) (bs:List UInt8) (f:Bool) : Nat × List UInt8 × Bool :=
 match afY bs with
 | none=>(0,bs,true)
 | some (v,n)=>if f || decide (most<v) then(0,bs,true) else(v,bs.drop n,false)
def abE (f:(List AV→RM→Prop)→Prop) (g:List AV→RM→Prop) : Prop:=f g
theorem bH (f:(List AV→RM→Prop)→Prop) (g:List AV→RM→Prop) : bR f g=abE f g:=rfl
theorem aT {H:(List AV→RM→Prop)→Prop} {G:List AV→RM→Prop} (P:List AV→RM→Prop) (hT:∀ xs M,P xs M→G xs M)
  (hH:∀ J:List AV→RM→Prop,(∀ xs M,P xs M→J xs M)→H J) : abE H G:=hH G hT
abbrev kV:=(Nat × Nat) × List Nat
def FU (ps:List Pt) : Nat→List kV
 | 0=>[]
 | i + 1=>FU ps i++(if 0<(ps.getD i (0,[])).1∨0<(ps.getD i (0,[])).2.length then[((i,(ps.getD i (0,[])).1),(ps.getD i (0,[])).2)] else[])
def parts (ps:List Pt) : List kV:=FU ps 16
@[irreducible] def aht (x a:Nat) : Nat:=(x + 18446744073709551616 - a) % 18446744073709551616
structure Oa (T TU base:Nat) (M:RM) (b:Nat) (ps:List Pt) : Prop where
 lt:b<M.next
 len:ps.length=16
 row:∃ (l:List AV) (vs:Nat→AV),M.heap b=some (.row l false T 0)∧l.length=32∧(∀ (i:Nat) (hi:i<ps.length),l[2 * i]?=some (N .u64 (ps[i].1:Int))∧l[2 * i + 1]?=some (vs i)∧Ow bn M base TU (vs i) ps[i].2) ∧
  ∀ i j,i<16→j<16→i≠j→∀ d∈aI (vs i),d ∉ aI (vs j)
 nb:b<base
theorem Oa.keep {T TU base:Nat} {M M' : RM} {b:Nat} {ps:List Pt} {bs:List Nat} (h:Oa T TU base M b ps) (hk:ag bs M M') (hb:b ∉ bs) (hs:∀ d∈bs,d<base) : Oa T TU base M' b ps:=by
 obtain⟨l,vs,h1,h2,h3,h4⟩:=h.row
 refine⟨Nat.lt_of_lt_of_le h.lt hk.next,h.len,⟨l,vs,hk.aK h1 h.lt hb,h2,fun i hi=>⟨(h3 i hi).1,(h3 i hi).2.1,(h3 i hi).2.2.keep hk fun d hd hm=>?_⟩,h4⟩,h.nb⟩
 have:=((h3 i hi).2.2.blk d hd).1
 have:=hs d hm
 omega
theorem Oa.more {T TU base:Nat} {M:RM} {b i x:Nat} {ps:List Pt} (h:Oa T TU base M b ps) (hi:i<16) (hlen:(ps.getD i (0,[])).2.length≤1000000) (hbase:base≤M.next) {K:RM→Prop}
  (hK:∀ M' ks,Oa T TU base M' b (ps.set i ((ps.getD i (0,[])).1,(ps.getD i (0,[])).2++[x]))→ag ks M M'→(∀ d∈ks,d=b∨base≤d)→K M') :
  az M (.ptr b (2 * i + 1)) fun t55=>dW TU 1 [(N .u64 0)] [(0,1,N .u64 (x:Int))] fun r f=>bP r f M fun t57 ag5=>appW TU 1 8 [(N .u64 0)] false t55 t57 ag5 fun t58 afT =>
   dB (.ptr b (2 * i)) fun t59=>aJ t59 1 fun t60=>aC afT t60 t58 1 K:=by
 obtain⟨l,vs,h1,h2,h3,h4⟩:=h.row
 have hnb:=h.nb
 have hblt:=h.lt
 have hil:i<ps.length:=by rw[h.len]; exact hi
 have hpD:ps.getD i (0,[])=ps[i]:=by rw[List.getD_eq_getElem?_getD,List.getElem?_eq_getElem hil]; rfl
 rw[hpD] at hlen hK
 rw[aA h1 (h3 i hil).2.1,mE (x:=N .u64 (x:Int)) (size:=1) rfl rfl rfl,aX]
 refine qW (E:=bn) (a:=x) (h3 i hil).2.2 hbase (Nat.le_refl _) (by omega) (by omega) ?_
 intro v' M' o1 k1 n1 hv
 have hbv:∀ j,b ∉ aI (vs j)∨¬ j<16:=fun j=>by
  by_cases hj:j<16
  ·refine .inl fun hm=>?_
   have:=((h3 j (by rw[h.len]; exact hj)).2.2.blk b hm).1
   omega
  ·exact .inr hj
 have hh:M'.heap b=some (.row l false T 0):=k1.aK h1 hblt (by rcases hbv i with h | h; exact h; exact absurd hi h)
 rw[aU,aP,dV hh (by omega) o1.cells o1.one]
 have kk:ag [b] M' (M'.put b (.row (l.set (2 * i + 1) v') false T 0)):=(ag.refl _ _).put _ (.inr (by simp))
 have nbv:b ∉ aI v':=fun hm=>by have:=(o1.blk b hm).1; omega
 refine hK _ (b :: aI (vs i)) ⟨Nat.lt_of_lt_of_le hblt n1,by rw[List.length_set]; exact h.len,⟨_,fun j=>if j=i then v' else vs j,aN _,by rw[List.length_set]; exact h2,fun j hj=>?_,fun j1 j2 q1 q2 hne d hd=>?_⟩,h.nb⟩ ?_ ?_
 ·have hj' : j<ps.length:=by rw[List.length_set] at hj; exact hj
  by_cases hji:j=i
  ·subst hji
   refine⟨?_, ?_, ?_⟩
   ·rw[List.getElem?_set_ne (by omega),List.getElem_set_self]; exact(h3 j hj').1
   ·rw[List.getElem?_set_self (by omega)]; simp
   ·rw[List.getElem_set_self]; simp only[if_true]
    exact o1.keep kk fun d hd hm=>by simp at hm; subst hm; exact nbv hd
  ·have aaH:j<16:=by rw[← h.len]; exact hj'
   refine⟨?_, ?_, ?_⟩
   ·rw[List.getElem?_set_ne (by omega),List.getElem_set_ne (Ne.symm hji)]; exact(h3 j hj').1
   ·rw[List.getElem?_set_ne (by omega)]; simp only[if_neg hji]; exact(h3 j hj').2.1
   ·rw[List.getElem_set_ne (Ne.symm hji)]; simp only[if_neg hji]
    refine((h3 j hj').2.2.keep k1 fun d hd hm=>h4 j i aaH hi hji d hd hm).keep kk fun d hd hm=>?_
    simp at hm; subst hm
    rcases hbv j with h | h
    ·exact h hd
    ·exact h aaH
 ·simp only at hd ⊢
  by_cases e1:j1=i
  ·rw[if_pos e1] at hd
   rw[if_neg (fun e=>hne (e1.trans e.symm))]
   rcases hv with rfl | hv
   ·exact h4 i j2 hi q2 (fun e=>hne (e1.trans e)) d hd
   ·intro hm
    have:=hv d hd
    have:=((h3 j2 (by rw[h.len]; exact q2)).2.2.blk d hm).2
    omega
  ·rw[if_neg e1] at hd
   by_cases e2:j2=i
   ·rw[if_pos e2]
    rcases hv with rfl | hv
    ·exact h4 j1 i q1 hi e1 d hd
    ·intro hm
     have:=hv d hm
     have:=((h3 j1 (by rw[h.len]; exact q1)).2.2.blk d hd).2
     omega
   ·rw[if_neg e2]
    exact h4 j1 j2 q1 q2 hne d hd
 ·exact(k1.mono (fun d hd=>List.mem_cons_of_mem _ hd)).trans (kk.mono (by simp))
 ·intro d hd
  rcases List.mem_cons.1 hd with rfl | hd
  ·exact .inl rfl
  ·exact .inr ((h3 i hil).2.2.blk d hd).1
theorem Own.sl {M:RM} {base T:Nat} {v:AV} {L:List UInt8} (h:Own M base T 1 v (SS L) L.length) : Sl BY M v L:=by
 have:=h.il
 show aR M 1 v (BY.row L) L.length
 rw[Zv]; exact this
@[irreducible] def ahv (bs:List UInt8) (f:Bool) : Nat × List UInt8 × Bool:=acD 18446744073709551615 bs f
theorem EZ {ps:List Pt} {i:Nat} (h:i<ps.length) (p:Pt) : (ps.set i p).getD i (0,[])=p:=by
 rw[List.getD_eq_getElem?_getD,List.getElem?_set_self h]; rfl
def zY (a b:ay) : Bool:=decide (a.1<b.1) || (decide (a.1=b.1) && decide (a.2<b.2))
def GX (c:ai) : Prop:=∀ {M:RM} {v:AV} {l:List ay} {d:ay} {Q:ak},Sl aV M v l→l.length≤1000000→(∀ M',ag [] M M'→Q (Bo (decide (d∈l))) M')→c [v,.agg (aO d)] M Q
theorem Az (a b:ay) : dE [1,1] (aO a) (aO b)=some (decide (a=b)):=by
 obtain⟨d,n⟩:=a
 obtain⟨e,k⟩:=b
 simp only[De,yP]
 by_cases h1:d=e
 ·by_cases h2:n=k
  ·simp[h1,h2]
  ·have:¬ (n:Int)=(k:Int):=by omega
   simp[h1,h2,this]
 ·simp[h1]
theorem Uv {T:Nat} : GX fun args M Q=>∃ a0 a1,args=[a0,a1]∧XW T a0 a1 M Q:=by
 intro M v l d Q hs hl hQ
 refine⟨_,_,rfl, ?_⟩
 unfold XW
 rw[dJ rfl (by simp),aX]
 have hh:(M.push (.row (aO d) false T 0)).heap M.next=some (.row (aO d) false T 0):=RM.aQ _
 have kk:ag [] M (M.push (.row (aO d) false T 0)):=(ag.refl _ _).push _
 generalize M.push (.row (aO d) false T 0)=M1 at *
 have s1:Sl aV M1 v l:=aR.keep hs kk (by simp)
 have hQ:=hQ M1 kk
 refine aG (fun m ys M3=>∃ (i:Nat),m=l.length - i∧ys=[N .i64 (i:Int)]∧i≤l.length∧M3=M1∧decide (d∈l)=decide (d∈l.drop i)) _
  ⟨0,rfl,rfl,Nat.zero_le _,rfl,rfl⟩ ?_
 rintro next m ys M3 hnext ⟨i,rfl,rfl,hi,rfl,hset⟩
 dsimp only[aa]
 rw[aR.len s1,dD]
 refine aD (fun hlt=>?_) (fun hge=>?_)
 ·have hlt:i<l.length:=by simpa using hlt
  obtain⟨b1,o1,_,_,hidx,hld⟩:=Sl.at (E:=aV) (i:=i) s1 2 (i:Int) hlt rfl rfl
  rw[hidx,dQ]
  refine⟨_,hld, ?_⟩
  rw[bS (n:=2) hh rfl]
  change jw false [1,1] (.agg (aO l[i])) (.agg (aO d)) _
  rw[kY rfl rfl (Az l[i] d)]
  rw[List.drop_eq_getElem_cons hlt] at hset
  by_cases he:l[i]=d
  ·rw[show(decide (l[i]=d) != false)=true by simp[he],cO]
   rw[hset,show decide (d∈l[i] :: l.drop (i + 1))=true by simp[he]] at hQ
   exact hQ
  ·rw[show(decide (l[i]=d) != false)=false by simp[he],bz,cZ,fZ (by omega)]
   refine hnext _ _ _ (by omega) ⟨i + 1,rfl,rfl,by omega,rfl, ?_⟩
   rw[hset]
   have:d≠l[i]:=fun h=>he h.symm
   exact decide_eq_decide.2 ⟨fun h=>(List.mem_cons.1 h).resolve_left this,fun h=>List.mem_cons_of_mem _ h⟩
 ·have he:i=l.length:=by simp at hge; omega
  subst he
  rw[List.drop_length] at hset
  rw[hset] at hQ
  exact hQ
section
variable {α:Type} {E:Enc α}
theorem U1 {M:RM} {base T k:Nat} {v:AV} {xs:List α} (hE:1≤E.size) (ho:Ow E M base T v xs) (hk:k≤xs.length) :
  ∃ v1 v2,bZ E.size v none (some (N .i64 (k:Int))) none=some v1∧Sl E M v1 (xs.take k)∧bZ E.size v (some (N .i64 (k:Int))) none none=some v2∧Sl E M v2 (xs.drop k)∧(∀ d∈aI v1,d∈aI v)∧∀ d∈aI v2,d∈aI v:=by
 have hs:=ho.il
 generalize hcs:E.row xs=cs at *
 have ho' : Own M base T E.size v cs xs.length:=by rw[← hcs]; exact ho
 have hl:cs.length=xs.length * E.size:=by rw[← hcs,Enc.eu]
 have hd:E.row (xs.drop k)=cs.drop (k * E.size):=by rw[← hcs,← E.vC]
 have ht:E.row (xs.take k)=cs.take (k * E.size):=by rw[← hcs,← E.vB]
 have g1:∀ v',Sl E M v' (xs.take k)↔aR M E.size v' (cs.take (k * E.size)) k:=fun v'=>by simp only[Sl]; rw[ht,List.length_take,Nat.min_eq_left hk]
 have g2:∀ v',Sl E M v' (xs.drop k)↔aR M E.size v' (cs.drop (k * E.size)) (xs.length - k):=fun v'=>by simp only[Sl]; rw[hd,List.length_drop]
 generalize hn:xs.length=n at *
 cases ho' with
 | nil =>
   have:k=0:=by omega
   subst this
   exact⟨bB,bB,by simp[bZ,bnd],(g1 _).2 (by simp; exact .nil),by simp[bZ,bnd],(g2 _).2 (by simp; exact .nil),by simp,by simp⟩
 | ex0 b o h1 h2 h3 =>
   have:k=0:=by omega
   subst this
   have e0:aR M E.size (.slc b o 0 (.ex 0)) [] 0:=hs
   exact⟨.slc b o 0 (.ex 0),.slc b o 0 (.ex 0),by simp[bZ,bnd],(g1 _).2 (by simpa using e0),by simp[bZ,bnd],(g2 _).2 (by simpa using e0),by simp[aI],by simp[aI]⟩
 | op b n cs h1 h2 h3 h4 =>
   have hload:∀ o m,o + m≤cs.length→M.loads b o m=some ((cs.drop o).take m):=fun o m h=>RM.dF h3 h
   have hmul:k * E.size≤n * E.size:=Nat.mul_le_mul_right _ hk
   by_cases hn0:n=0
   ·have hk0:k=0:=by omega
    subst hk0 hn0
    have hc0:cs=[]:=List.length_eq_zero_iff.1 (by simpa using h4)
    subst hc0
    exact⟨.emp b,.emp b,by simp[bZ,bnd],(g1 _).2 (by simp; exact .emp b),by simp[bZ,bnd],(g2 _).2 (by simp; exact .emp b),by simp[aI],by simp[aI]⟩
   ·have p1:aR M E.size (.slc b (0 + 0 * E.size) (k - 0) (.op E.size)) (cs.take (k * E.size)) k:=by
     rw[Nat.sub_zero,Nat.zero_mul]
     refine .slc _ _ _ _ _ h2 ?_
     have:=hload 0 (k * E.size) (by omega)
     simpa using this
    by_cases hkn:n≤k
    ·refine⟨.slc b (0 + 0 * E.size) (k - 0) (.op E.size),.emp b,by simp only[bZ,bnd]; simp[hk,hn0],(g1 _).2 p1,by simp only[bZ,bnd]; simp[hk,hkn],(g2 _).2 ?_,by simp[aI],by simp[aI]⟩
     have:k=n:=by omega
     subst this
     rw[Nat.sub_self,List.drop_of_length_le (by omega)]
     exact .emp b
    ·refine⟨.slc b (0 + 0 * E.size) (k - 0) (.op E.size),.slc b (0 + k * E.size) (n - k) (.op E.size),by simp only[bZ,bnd]; simp[hk,hn0],(g1 _).2 p1,by simp only[bZ,bnd]; simp[hk,hkn],(g2 _).2 ?_,by simp[aI],by simp[aI]⟩
     refine .slc _ _ _ _ _ h2 ?_
     have hs2:k * E.size + (n - k) * E.size=n * E.size:=by rw[← Nat.add_mul]; congr 1; omega
     rw[Nat.zero_add,hload (k * E.size) ((n - k) * E.size) (by omega),List.take_of_length_le (by simp; omega)]
end
def atL (d:ay) (l:List ay) : Nat:=(l.takeWhile (fun x=>zY x d)).length
def VD (l:List ay) (d:ay) : List ay:=if d∈l then l else l.take (atL d l)++d :: l.drop (atL d l)
theorem aaA (l:List ay) (d:ay) : (VD l d).length≤l.length + 1:=by
 unfold VD
 split
 ·omega
 ·simp; omega
def acy (T:Nat) (c:ai) : Prop:=∀ {M:RM} {base:Nat} {v:AV} {l:List ay} {d:ay} {Q:ak},Ow aV M base T v l→base≤M.next→l.length≤100000→(∀ v' M',Ow aV M' base T v' (VD l d)→ag [] M M'→Q v' M')→c [v,.agg (aO d)] M Q
def rW (p:List Pt × List ay) (d:ay) : List Pt × List ay:=((kI p.1 d).2,if (kI p.1 d).1=0 then VD p.2 d else p.2)
def AQ (l:List ay) : List Pt × List ay:=l.foldl rW (jy,[])
theorem IX:∀ p∈jy,jZ p:=fun p hp=>by
 simp only[jy,List.mem_replicate] at hp
 rw[hp.2]
 exact⟨.nil,fun x hx=>by simp at hx,Nat.zero_le _,fun x hx=>by simp at hx,Nat.zero_le _⟩
theorem oO {ps:List Pt} (h:∀ p∈ps,jZ p) (i:Nat) : jZ (ps.getD i (0,[])):=by
 rw[List.getD_eq_getElem?_getD]
 by_cases hj:i<ps.length
 ·rw[List.getElem?_eq_getElem hj]
  exact h _ (List.getElem_mem hj)
 ·rw[List.getElem?_eq_none (by omega)]
  exact⟨.nil,fun x hx=>by simp at hx,Nat.zero_le _,fun x hx=>by simp at hx,Nat.zero_le _⟩
theorem Vk {ps:List Pt} {d:ay} (h:∀ p∈ps,jZ p) : ∀ p∈(kI ps d).2,jZ p:=by
 unfold kI
 split
 ·rename_i hg
  split
  ·intro p hp
   rcases List.mem_or_eq_of_mem_set hp with hp | rfl
   ·exact h p hp
   ·refine ab5 (oO h _) ?_
    simp only[good,Bool.and_eq_true,decide_eq_true_eq] at hg
    exact hg.2
  ·exact h
 ·exact h
def OfC (TS TD:Nat) (c:ai) : Prop:=∀ {M:RM} {v:AV} {l:List ay} {Q:ak},Sl aV M v l→l.length≤10000 →
 (∀ s w M',M.next≤s→fV TS (fun e=>s<e) M' s (AQ l).1→(∀ p∈(AQ l).1,jZ p)→Ow aV M' (s + 1) TD w (AQ l).2→(AQ l).2.length≤l.length→ag [] M M'→Q (.tup [.ptr s 0,w]) M')→c [v] M Q
theorem Va {TS TD:Nat} {cn ca cr:ai} (hn:Rs TS cn) (ha:P7 TS ca) (hr:acy TD cr) : OfC TS TD fun args M Q=>∃ a0,args=[a0]∧acN cn ca cr a0 M Q:=by
 intro M v l Q hs hl hQ
 refine⟨_,rfl, ?_⟩
 unfold acN
 simp only[bH]
 refine hn fun M1 hs1 k1 n1=>?_
 generalize hsn:M.next=s at *
 refine aG (fun m ys M3=>∃ (i:Nat) (w:AV) (p:List Pt × List ay),m=l.length - i∧ys=[w,N .i64 (i:Int)]∧i≤l.length∧ag [] M M3∧s<M3.next∧fV TS (fun e=>s<e) M3 s p.1∧(∀ q∈p.1,jZ q)∧Ow aV M3 (s + 1) TD w p.2∧p.2.length≤i ∧
   AQ l=(l.drop i).foldl rW p) _
  ⟨0,bB,(jy,[]),rfl,rfl,Nat.zero_le _,k1,by omega,hs1.mono (fun _ h=>h.elim) (by omega),IX,.nil,Nat.le_refl _,rfl⟩ ?_
 rintro next m ys M3 hnext ⟨i,w,p,rfl,rfl,hi,k3,n3,hs3,hw3,ho3,hpl,hof⟩
 dsimp only[aa]
 have s3:Sl aV M3 v l:=aR.keep hs k3 (by simp)
 rw[aR.len s3,dD]
 refine aD (fun hlt=>?_) (fun hge=>?_)
 ·have hlt:i<l.length:=by simpa using hlt
  rw[List.drop_eq_getElem_cons hlt,List.foldl_cons] at hof
  refine aT (fun zs M'=>∃ w',zs=[w']∧ag [] M M'∧s<M'.next∧fV TS (fun e=>s<e) M' s (rW p l[i]).1∧(∀ q∈(rW p l[i]).1,jZ q)∧Ow aV M' (s + 1) TD w' (rW p l[i]).2∧(rW p l[i]).2.length≤i + 1) ?_ ?_
  ·rintro zs M' ⟨w',rfl,b1,b2,b3,b4,b5,b6⟩
   dsimp only[aa]
   rw[cZ,fZ (by omega)]
   exact hnext _ _ _ (by omega) ⟨i + 1,w',_,rfl,rfl,by omega,b1,b2,b3,b4,b5,b6,hof⟩
  intro J hJ
  obtain⟨b1,o1,_,_,hidx,hld⟩:=Sl.at (E:=aV) (i:=i) s3 2 (i:Int) hlt rfl rfl
  rw[hidx,dQ]
  refine⟨_,hld, ?_⟩
  refine ha hs3 hw3 fun M4 hs4 k4=>?_
  have n4:=k4.next
  have k34:ag [] M M4:=k3.bW k4 (by simp; omega)
  have acZ:fV TS (fun e=>s<e) M4 s (kI p.1 l[i]).2:=hs4.mono (fun e h=>by rcases h with h | h <;> omega) (by omega)
  have ho4:=ho3.keep k4 (fun b hb hm=>by have:=(ho3.blk b hb).1; simp at hm; omega)
  have hw4:=Vk (d:=l[i]) hw3
  rw[bV]
  refine aD (fun he=>?_) (fun he=>?_)
  ·have he:(kI p.1 l[i]).1=0:=by simpa using he
   have s4:Sl aV M4 v l:=aR.keep hs k34 (by simp)
   obtain⟨b2,o2,_,_,r9,xO⟩:=Sl.at (E:=aV) (i:=i) s4 2 (i:Int) hlt rfl rfl
   rw[r9,dQ]
   refine⟨_,xO, ?_⟩
   refine hr ho4 (by omega) (by omega) fun w' M5 ho5 k5=>?_
   have n5:=k5.next
   refine hJ _ _ ⟨w',rfl,k34.trans k5,by omega, ?_,hw4, ?_, ?_⟩
   ·exact acZ.keep k5 (by simp) (by simp)
   ·rw[rW]; simp only[he,if_true]; exact ho5
   ·rw[rW]; simp only[he,if_true]
    have:=aaA p.2 l[i]
    omega
  ·have he:¬ (kI p.1 l[i]).1=0:=by simpa using he
   refine hJ _ _ ⟨w,rfl,k34,by omega,acZ,hw4, ?_, ?_⟩
   ·rw[rW]; simp only[he,if_false]; exact ho4
   ·rw[rW]; simp only[he,if_false]; omega
 ·have he:i=l.length:=by simp at hge; omega
  subst he
  rw[List.drop_length,List.foldl_nil] at hof
  subst hof
  exact hQ s w M3 (Nat.le_refl _) hs3 hw3 ho3 hpl k3
theorem Own.uK {M:RM} {base el size n:Nat} {v:AV} {cs:List AV} (h:Own M base el size v cs n) (hn:0<n) : ∃ b,v=.slc b 0 n (.op size)∧base≤b∧b<M.next∧M.heap b=some (.row cs true el 0)∧cs.length=n * size:=by
 cases h with
 | nil=>omega
 | ex0=>omega
 | op b n cs h1 h2 h3 h4=>exact⟨b,rfl,h1,h2,h3,h4⟩
theorem aav (x:Nat) (xs:List Nat) : eX xs.length x xs=xs++[x]:=by simp[eX]
theorem VT {M:RM} {v:AV} {bx n0 T x ex:Nat} {xs:List Nat} {co cr:ai} {Q:ak} (ho:Ow bn M n0 T v xs) (hn:n0≤M.next) (hl:xs.length≤100000) (hx:M.heap bx=some (.row [N .u64 (x:Int)] false ex 0)) (hxl:bx<M.next)
  (hQ:∀ v' M',Sl bn M' v' (eX xs.length x xs)→lT v'→(∀ c∈aI v',n0≤c)→ag (aI v) M M'→Q v' M') : mI T co cr v (N .i64 (xs.length:Int)) (.slc bx 0 1 (.ex 1)) M Q:=by
 unfold mI
 obtain⟨v1,v2,e1,s1,e2,s2,hb1,hb2⟩:=U1 (E:=bn) (k:=xs.length) (by decide) ho (Nat.le_refl _)
 have e2:bZ 1 v (some (N .i64 (xs.length:Int))) none none=some v2:=e2
 have hs:Sl bn M v xs:=ho.il
 rw[e2,dO,mM,bV,show((((1:Nat) : Int)) == 0)=false from rfl,bz,aR.len hs,bV,show((xs.length:Int) == (xs.length:Int))=true by simp,cO]
 have sx:Sl bn M (.slc bx 0 1 (.ex 1)) [x]:=.slc _ _ _ _ _ hxl (by rw[RM.dF hx (by show 0 + 1 * 1≤1; omega)]; rfl)
 refine zD (E:=bn) (ys:=[x]) ho hn (Nat.le_refl _) sx (by simp; omega) (by simp; omega) ?_
 intro v' M' o k _ _
 refine hQ v' M' ?_ (Own.lT o) (fun c hc=>(o.blk c hc).1) k
 rw[aav]
 exact o.il
def oK (p q:Pt) : Bool:=decide (p.1≤q.1) && p.2.all (jg q)
def oL (ps qs:List Pt) : Bool:=(List.range 16).all fun i=>oK (ps.getD i (0,[])) (qs.getD i (0,[]))
theorem wL {ps qs:List Pt} : oL ps qs=true↔∀ i,i<16→oK (ps.getD i (0,[])) (qs.getD i (0,[]))=true:=by
 unfold oL
 rw[List.all_eq_true]
 exact⟨fun h i hi=>h i (List.mem_range.2 hi),fun h i hi=>h i (List.mem_range.1 hi)⟩
def NR (T:Nat) (c:ai) : Prop:=∀ {M:RM} {a b:Nat} {ps qs:List Pt} {S S' : Nat→Prop} {Q:ak},fV T S M a ps→fV T S' M b qs→(∀ p∈ps,p.2.length≤1000000)→(∀ q∈qs,Asc q.2∧q.2.length≤1000000) →
 (∀ M',ag [] M M'→Q (Bo (oL ps qs)) M')→c [.ptr a 0,.ptr b 0] M Q
theorem UA {TS T:Nat} {ch:ai} (hh:P5 ch) : NR TS fun args M Q=>∃ a0 a1,args=[a0,a1]∧zU T ch a0 a1 M Q:=by
 intro M a b ps qs S S' Q h h' hpl hql hQ
 refine⟨_,_,rfl, ?_⟩
 unfold zU
 obtain⟨l,ha,XL,hrow⟩:=h.row
 obtain⟨l',hb,hl32',hrow'⟩:=h'.row
 rw[aU,bJ,bS (n:=32) ha XL]
 refine aG (fun m ys M3=>∃ (i:Nat),m=16 - i∧ys=[N .i64 (i:Int)]∧i≤16∧ag [] M M3∧∀ j,j<i→oK (ps.getD j (0,[])) (qs.getD j (0,[]))=true) _
  ⟨0,rfl,rfl,Nat.zero_le _,ag.refl _ _,fun j hj=>by omega⟩ ?_
 rintro next m ys M3 hnext ⟨i,rfl,rfl,hi,hK,hset⟩
 dsimp only[aa]
 rw[dD]
 refine aD (fun hlt=>?_) (fun hge=>?_)
 ·have hlt:i<16:=by
   have:(i:Int)<16:=of_decide_eq_true hlt
   omega
  have hil:i<ps.length:=by rw[h.len]; exact hlt
  have aao:i<qs.length:=by rw[h'.len]; exact hlt
  obtain⟨w,a1,a2,a3,a4,a5⟩:=hrow i hil
  obtain⟨w',b1,b2,b3,b4,b5⟩:=hrow' i aao
  have hpD:ps.getD i (0,[])=ps[i]:=by rw[List.getD_eq_getElem?_getD,List.getElem?_eq_getElem hil]; rfl
  have hqD:qs.getD i (0,[])=qs[i]:=by rw[List.getD_eq_getElem?_getD,List.getElem?_eq_getElem aao]; rfl
  have hcut:(l.drop (2 * i)).take 2=[N .u64 (ps[i].1:Int),w]:=by
   obtain⟨q1,q2⟩:=List.getElem?_eq_some_iff.1 a1
   obtain⟨r1,r2⟩:=List.getElem?_eq_some_iff.1 a2
   rw[List.drop_eq_getElem_cons q1,List.drop_eq_getElem_cons r1,q2,r2]; rfl
  rw[Yn]
  refine⟨by omega,by omega,by simp only[Int.toNat_natCast]; omega, ?_⟩
  rw[Int.toNat_natCast,Nat.mul_comm i 2,hcut,aX]
  have hw1:=aR.one a3
  rw[dh (n:=2) (x:=.agg [N .u64 (ps[i].1:Int),w]) (l:=[N .u64 0,.sc (.slice none 0 0)]) (RM.aQ _) rfl rfl (by simp[AV.cells,hw1]; rfl)]
  have kk:ag [] M3 ((M3.push (.row [N .u64 0,.sc (.slice none 0 0)] false T 0)).put M3.next (.row (AV.agg [N .u64 (ps[i].1:Int),w]).cells false T 0)):=((ag.refl _ _).push _).new _ (Nat.le_refl _)
  have hh' : ((M3.push (.row [N .u64 0,.sc (.slice none 0 0)] false T 0)).put M3.next (.row (AV.agg [N .u64 (ps[i].1:Int),w]).cells false T 0)).heap M3.next=some (.row [N .u64 (ps[i].1:Int),w] false T 0):=aN _
  generalize (M3.push (.row [N .u64 0,.sc (.slice none 0 0)] false T 0)).put M3.next (.row (AV.agg [N .u64 (ps[i].1:Int),w]).cells false T 0)=M4 at *
  have k4:=hK.trans kk
  have s4:Sl bn M4 w ps[i].2:=aR.keep a3 k4 (by simp)
  have t4:Sl bn M4 w' qs[i].2:=aR.keep b3 k4 (by simp)
  have hb4:=k4.aK hb h'.lt (by simp)
  have hxl:=hpl _ (List.getElem_mem hil)
  obtain⟨hqa,hqn⟩:=hql _ (List.getElem_mem aao)
  rw[aU,bJ,Ao]
  refine⟨by omega,by omega, ?_⟩
  rw[Int.toNat_natCast,Nat.zero_add,Nat.mul_comm i 2,bJ,aA hh' rfl,aU,aP,Nat.add_zero,aA hb4 b1,iQ]
  have fail:∀ M5,ag [] M4 M5→oK ps[i] qs[i]=false→Q (Bo false) M5:=fun M5 k5 hf=>by
   have:oL ps qs=false:=by
    rw[Bool.eq_false_iff]
    intro hall
    have:=wL.1 hall i hlt
    rw[hpD,hqD,hf] at this
    cases this
   rw[← this]
   exact hQ M5 (k4.trans k5)
  refine aD (fun hg=>fail M4 (ag.refl _ _) ?_) (fun hg=>?_)
  ·have:((ps[i].1:Nat) : Int) > ((qs[i].1:Nat) : Int):=of_decide_eq_true hg
   unfold oK
   rw[show decide (ps[i].1≤qs[i].1)=false by simp; omega,Bool.false_and]
  ·have hle:ps[i].1≤qs[i].1:=by
    have:¬ ((ps[i].1:Nat) : Int) > ((qs[i].1:Nat) : Int):=of_decide_eq_false hg
    omega
   rw[bJ,aA hh' rfl,aR.len s4]
   refine aG (fun m ys M5=>∃ (j:Nat),m=ps[i].2.length - j∧ys=[N .i64 (j:Int)]∧j≤ps[i].2.length∧M5=M4∧ps[i].2.all (jg qs[i])=(ps[i].2.drop j).all (jg qs[i])) _
    ⟨0,rfl,rfl,Nat.zero_le _,rfl,rfl⟩ ?_
   rintro fq m ys M5 dx ⟨j,rfl,rfl,hj,rfl,hall⟩
   dsimp only[aa]
   rw[dD]
   refine aD (fun hlt2=>?_) (fun rD=>?_)
   ·have hlt2:j<ps[i].2.length:=by simpa using hlt2
    obtain⟨b9,o9,_,_,hidx,hc⟩:=Sl.Gd (E:=bn) s4 (j:Int) hlt2
    rw[List.drop_eq_getElem_cons hlt2,List.all_cons] at hall
    rw[hidx,gL]
    refine⟨_,hc _ rfl, ?_⟩
    refine hh hb4 b1 b2 t4 hqa hqn ?_
    rw[bu]
    cases hhas:jg (qs[i].1,qs[i].2) ps[i].2[j] with
    | false =>
      have hhas:jg qs[i] ps[i].2[j]=false:=hhas
      rw[Bool.not_false,cO]
      refine fail M5 (ag.refl _ _) ?_
      unfold oK
      rw[hall,hhas,Bool.false_and,Bool.and_false]
    | true =>
      have hhas:jg qs[i] ps[i].2[j]=true:=hhas
      rw[Bool.not_true,bz,cZ,fZ (by omega)]
      refine dx _ _ _ (by omega) ⟨j + 1,rfl,rfl,by omega,rfl, ?_⟩
      rw[hall,hhas,Bool.true_and]
   ·have he:j=ps[i].2.length:=by simp at rD; omega
    subst he
    rw[List.drop_length,List.all_nil] at hall
    rw[cZ,fZ (by omega)]
    refine hnext _ _ _ (by omega) ⟨i + 1,rfl,rfl,by omega,k4,fun j hj=>?_⟩
    rcases Nat.lt_or_ge j i with h | h
    ·exact hset j h
    ·have:j=i:=by omega
     subst this
     rw[hpD,hqD]
     unfold oK
     rw[hall,Bool.and_true]
     simpa using hle
 ·have he:i=16:=by
   have:¬ (i:Int)<16:=of_decide_eq_false hge
   omega
  subst he
  have:oL ps qs=true:=wL.2 hset
  rw[← this]
  exact hQ M3 hK
def eD (ps:List Pt) (d:ay) : Bool:=good d && jg (ps.getD d.1.toNat (0,[])) d.2
def Xa (T:Nat) (c:ai) : Prop:=∀ {M:RM} {b:Nat} {ps:List Pt} {d:ay} {S:Nat→Prop} {Q:ak},fV T S M b ps→(∀ q∈ps,Asc q.2∧q.2.length≤1000000) →
 (∀ M',ag [] M M'→Q (Bo (eD ps d)) M')→c [.ptr b 0,.agg (aO d)] M Q
theorem YE {TS T:Nat} {cg ch:ai} (hg:Bv cg) (hh:P5 ch) : Xa TS fun args M Q=>∃ a0 a1,args=[a0,a1]∧Gz T cg ch a0 a1 M Q:=by
 intro M b ps d S Q h hql hQ
 refine⟨_,_,rfl, ?_⟩
 unfold Gz
 simp only[dP,dz]
 rw[dJ rfl (by simp),aX,bS (n:=2) (RM.aQ _) rfl]
 have k1:ag [] M (M.push (.row (aO d) false T 0)):=(ag.refl _ _).push _
 have h3:(M.push (.row (aO d) false T 0)).heap M.next=some (.row (aO d) false T 0):=RM.aQ _
 have n1:(M.push (.row (aO d) false T 0)).next=M.next + 1:=rfl
 generalize M.push (.row (aO d) false T 0)=M1 at *
 refine hg fun M2 k2=>?_
 have kk:=k1.trans k2
 have h3:=k2.aK h3 (by omega) (by simp)
 have hQ:=hQ M2 kk
 unfold eD at hQ
 cases hgd:good d with
 | false =>
   rw[bI]
   dsimp only
   rw[cz]
   rw[hgd,Bool.false_and] at hQ
   exact hQ
 | true =>
   rw[hgd,Bool.true_and] at hQ
   simp[good] at hgd
   obtain⟨i,hi⟩ : ∃ i:Nat,d.1=(i:Int):=⟨d.1.toNat,by omega⟩
   have S9:i<16:=by omega
   have s2:=h.keep kk (by simp) (by simp)
   have hil:i<ps.length:=by rw[h.len]; exact S9
   have hpD:ps.getD d.1.toNat (0,[])=ps[i]:=by rw[hi,Int.toNat_natCast,List.getD_eq_getElem?_getD,List.getElem?_eq_getElem hil]; rfl
   rw[hpD] at hQ
   obtain⟨l,hb,XL,hrow⟩:=s2.row
   obtain⟨v,a1,a2,a3,a4,a5⟩:=hrow i hil
   obtain⟨hqa,hqn⟩:=hql _ (List.getElem_mem hil)
   rw[cB]
   dsimp only
   rw[bJ,aA h3 rfl,aU,bJ,hi,Ao]
   refine⟨by omega,by omega, ?_⟩
   rw[bJ,aA h3 rfl,Int.toNat_natCast,Nat.zero_add,Nat.mul_comm i 2]
   refine hh hb a1 a2 a3 hqa hqn ?_
   rw[dN]
   exact hQ
abbrev lN:Nat→Nat→Bool:=fun x y=>decide (x<y)
def PM (M:RM) (b T:Nat) (d:Array Nat) : RM:=M.put b (.row (bn.row d.toList) true T 0)
abbrev vv (b n:Nat) : AV:=.slc b 0 n (.op 1)
section
variable {M:RM} {b T n i j:Nat} {d:Array Nat} {K:AV→Prop}
theorem PM.heap:(PM M b T d).heap b=some (.row (bn.row d.toList) true T 0):=RM.vO _ _
theorem PM.IZ:(bn.row d.toList).length=d.size:=by rw[Enc.eu]; simp[bn]
theorem vK (hi:i<d.size) : d[i]! = d[i]:=getElem!_pos d i hi
theorem PM.cellAt (hi:i<d.size) : (bn.row d.toList)[i]?=some (N .u64 ((d[i]! : Nat) : Int)):=by
 rw[Ml,List.getElem?_map,Array.getElem?_toList,vK hi,Array.getElem?_eq_getElem hi]; rfl
theorem PM.idx {kd:IntKind} (hi:i<n) : ah (vv b n) (N kd (i:Int)) 1 K=K (.ptr b i):=by
 rw[nV]
 simp only[Int.toNat_natCast]
 rw[show 0 + i * 1=i by omega]
 exact propext ⟨fun h=>h.2.2,fun h=>⟨by omega,by omega,h⟩⟩
theorem PM.rd {kd:IntKind} (hn:n=d.size) (hi:i<d.size) : (ah (vv b n) (N kd (i:Int)) 1 fun p=>az (PM M b T d) p K)=K (N .u64 ((d[i]! : Nat) : Int)):=by
 rw[PM.idx (by omega),aA PM.heap (PM.cellAt hi)]
theorem PM.put {x:Nat} (hi:i<d.size) {K:RM→Prop} : aC (PM M b T d) (.ptr b i) (N .u64 (x:Int)) 1 K=K (PM M b T (d.setIfInBounds i x)):=by
 rw[dV PM.heap (by rw[PM.IZ]; exact hi) rfl rfl]
 congr 1
 have e:(bn.row d.toList).set i (N .u64 (x:Int))=bn.row (d.setIfInBounds i x).toList:=by rw[Ml,Ml,Array.toList_setIfInBounds,List.map_set]
 rw[e,PM,PM]
 unfold RM.put
 congr 1
 funext c
 by_cases h:c=b <;> simp[h]
theorem PM.swap {k1 k2:IntKind} (hn:n=d.size) (hi:i<d.size) (hj:j<d.size) {K:RM→Prop} :
  (ah (vv b n) (N k1 (i:Int)) 1 fun p=>aC (PM M b T d) p (N .u64 ((d[j]! : Nat) : Int)) 1 fun M1=>ah (vv b n) (N k2 (j:Int)) 1 fun q=>aC M1 q (N .u64 ((d[i]! : Nat) : Int)) 1 K)=K (PM M b T (Sort.swp d i j)):=by
 rw[PM.idx (by omega),PM.put hi,PM.idx (by omega),PM.put (by simpa using hj)]
 rfl
theorem eB (d:Array Nat) (i j:Nat) : (Sort.swp d i j).size=d.size:=by simp[Sort.swp]
theorem PM.push {x:RB} (h:b<M.next) : (PM M b T d).push x=PM (M.push x) b T d:=by
 unfold PM RM.push RM.put
 congr 1
 funext c
 simp only
 by_cases h1:c=M.next <;> by_cases h2:c=b <;> simp[h1,h2] <;> omega
theorem PM.XI {x:RB} {c:Nat} (h:c≠b) : (PM M b T d).put c x=PM (M.put c x) b T d:=by
 unfold PM RM.put
 congr 1
 funext e
 simp only
 by_cases h1:e=c <;> by_cases h2:e=b <;> simp[h1,h2] <;> omega
theorem PM.Lg {c:Nat} (h:c≠b) : (PM M b T d).heap c=M.heap c:=by
 unfold PM RM.put; simp[h]
theorem addN (h:i + j<4611686018427387904) : af .add (N .i64 (i:Int)) (N .i64 (j:Int)) K=K (N .i64 ((i + j:Nat) : Int)):=by
 rw[cZ,aS (by omega) (by omega),Int.natCast_add]
theorem add1 (h:i<4611686018427387904) : af .add (N .i64 (i:Int)) (N .i64 1) K=K (N .i64 ((i + 1:Nat) : Int)):=by
 rw[cZ,fZ (by omega)]
theorem df (h:j≤i) (hb:i<4611686018427387904) : af .sub (N .i64 (i:Int)) (N .i64 (j:Int)) K=K (N .i64 ((i - j:Nat) : Int)):=by
 rw[eT,aS (by omega) (by omega),show(i:Int) - (j:Int)=((i - j:Nat) : Int) by omega]
theorem aZ (h:1≤i) (hb:i<4611686018427387904) : af .sub (N .i64 (i:Int)) (N .i64 1) K=K (N .i64 ((i - 1:Nat) : Int)):=df h hb
theorem XP (hb:i<1152921504606846976) : af .mul (N .i64 2) (N .i64 (i:Int)) K=K (N .i64 ((2 * i:Nat) : Int)):=by
 rw[nZ,aS (by omega) (by omega),show(2:Int) * (i:Int)=((2 * i:Nat) : Int) by omega]
theorem dC:af .lss (N .i64 (i:Int)) (N .i64 (j:Int)) K=K (Bo (decide (i<j))):=by rw[dD,show decide ((i:Int)<(j:Int))=decide (i<j) by simp]
theorem lX:af .gtr (N .i64 (i:Int)) (N .i64 (j:Int)) K=K (Bo (decide (i > j))):=by rw[iQ,show decide ((i:Int) > (j:Int))=decide (i > j) by simp]
theorem gU:af .leq (N .i64 (i:Int)) (N .i64 (j:Int)) K=K (Bo (decide (i≤j))):=by rw[kH,show decide ((i:Int)≤(j:Int))=decide (i≤j) by simp]
theorem eY:af .geq (N .i64 (i:Int)) (N .i64 (j:Int)) K=K (Bo (decide (i ≥ j))):=by rw[fU,show decide ((i:Int) ≥ (j:Int))=decide (i ≥ j) by simp]
theorem F8:af .eql (N .i64 (i:Int)) (N .i64 (j:Int)) K=K (Bo (decide (i=j))):=by
 rw[bV,show((i:Int) == (j:Int))=decide (i=j) by by_cases h:i=j <;> simp[h]; omega]
end
def yE (T:Nat) (f:Array Nat→Nat→Nat→Array Nat) (P:Array Nat→Nat→Nat→Prop) (c:ai) : Prop:=∀ {M:RM} {b a e:Nat} {d:Array Nat} {Q:ak},b<M.next→d.size≤1000000→a≤e→e≤d.size→P d a e→Q (.tup []) (PM M b T (f d a e)) →
 c [vv b d.size,N .i64 (a:Int),N .i64 (e:Int)] (PM M b T d) Q
theorem Iy (a:Nat) : ∀ (j:Nat) (d:Array Nat),(Sort.insInner lN a j d).size=d.size
 | 0,d=>rfl
 | j + 1,d=>by
   rw[Sort.insInner]
   split
   ·rw[Iy a j,eB]
   ·rfl
theorem YI {T:Nat} {cl:ai} (hl:wH cl) : yE T (Sort.insertionSort lN) (fun _ _ _=>True) fun args M Q=>∃ a0 a1 a2,args=[a0,a1,a2]∧eG cl a0 a1 a2 M Q:=by
 intro M b a e d Q hb hsz hae he _ hQ
 refine⟨_,_,_,rfl, ?_⟩
 unfold eG
 simp only[dP,dz,dK]
 rw[add1 (by omega)]
 rw[Sort.insertionSort] at hQ
 obtain⟨R,hR⟩ : ∃ R,R=Sort.insOuter lN a e (a + 1) d:=⟨_,rfl⟩
 rw[← hR] at hQ
 refine aG (fun m ys M3=>∃ (i:Nat) (d3:Array Nat),m=d.size - i∧ys=[N .i64 (i:Int)]∧i≤d.size + 1∧M3=PM M b T d3∧d3.size=d.size∧R=Sort.insOuter lN a e i d3) _ ⟨a + 1,d,rfl,rfl,by omega,rfl,rfl,hR⟩ ?_
 rintro next m ys M3 hnext ⟨i,d3,rfl,rfl,hi,rfl,hs3,hm⟩
 dsimp only[aa]
 rw[dC]
 refine aD (fun hlt=>?_) (fun hge=>?_)
 ·have hlt:i<e:=of_decide_eq_true hlt
  rw[Sort.insOuter,if_pos hlt] at hm
  obtain⟨R5,hR5⟩ : ∃ R5,R5=Sort.insInner lN a i d3:=⟨_,rfl⟩
  rw[← hR5] at hm
  refine aG (fun m ys M5=>∃ (j:Nat) (d5:Array Nat),m=j + 1∧ys=[N .i64 (j:Int)]∧j≤i∧M5=PM M b T d5∧d5.size=d.size∧R5=Sort.insInner lN a j d5) _ ⟨i,d3,rfl,rfl,Nat.le_refl _,rfl,hs3,hR5⟩ ?_
  rintro fq m ys M5 dx ⟨j,d5,rfl,rfl,hj,rfl,hs5,hm5⟩
  dsimp only[aa]
  rw[lX]
  have out:Sort.insInner lN a j d5=d5→af .add (N .i64 (i:Int)) (N .i64 1) (fun t14=>next [t14] (PM M b T d5)):=fun h=>by
   rw[add1 (by omega)]
   refine hnext _ _ _ (by omega) ⟨i + 1,d5,rfl,rfl,by omega,rfl,hs5, ?_⟩
   rw[hm,hm5,h]
  by_cases hg:j > a
  ·obtain⟨k,rfl⟩ : ∃ k,j=k + 1:=⟨j - 1,by omega⟩
   rw[decide_eq_true hg,cB]
   dsimp only
   rw[PM.rd hs5.symm (by omega),aZ (by omega) (by omega),Nat.add_sub_cancel,PM.rd hs5.symm (by omega)]
   refine hl ?_
   rw[dN]
   rw[Sort.insInner] at hm5 out
   refine aD (fun h=>?_) (fun h=>?_)
   ·rw[if_pos (by simp[hg,h])] at hm5
    rw[aZ (by omega) (by omega),aZ (by omega) (by omega),Nat.add_sub_cancel,PM.rd hs5.symm (by omega),PM.rd hs5.symm (by omega),PM.swap hs5.symm (by omega) (by omega),aZ (by omega) (by omega),Nat.add_sub_cancel]
    exact dx _ _ _ (by omega) ⟨k,_,rfl,rfl,by omega,rfl,by rw[eB]; exact hs5,hm5⟩
   ·exact out (by rw[if_neg (by simp[h])])
  ·rw[decide_eq_false hg,bI]
   dsimp only
   rw[cz,bz]
   refine out ?_
   cases j with
   | zero=>rfl
   | succ k=>rw[Sort.insInner,if_neg (by simp[hg])]
 ·have hge:¬ i<e:=of_decide_eq_false hge
  rw[Sort.insOuter,if_neg hge] at hm
  rw[hm] at hQ
  exact hQ
theorem Td {T:Nat} : yE T Sort.reverseRange (fun _ a e=>a<e) fun args M Q=>∃ a0 a1 a2,args=[a0,a1,a2]∧jB a0 a1 a2 M Q:=by
 intro M b a e d Q hb hsz hae he hP hQ
 refine⟨_,_,_,rfl, ?_⟩
 unfold jB
 rw[aZ (by omega) (by omega)]
 rw[Sort.reverseRange] at hQ
 obtain⟨R,hR⟩ : ∃ R,R=Sort.reverseLoop a (e - 1) d:=⟨_,rfl⟩
 rw[← hR] at hQ
 refine aG (fun m ys M3=>∃ (i j:Nat) (d3:Array Nat),m=j - i∧ys=[N .i64 (i:Int),N .i64 (j:Int)]∧j<d.size∧i≤d.size∧M3=PM M b T d3∧d3.size=d.size∧R=Sort.reverseLoop i j d3) _ ⟨a,e - 1,d,rfl,rfl,by omega,by omega,rfl,rfl,hR⟩ ?_
 rintro next m ys M3 hnext ⟨i,j,d3,rfl,rfl,hj,hi,rfl,hs3,hm⟩
 dsimp only[aa]
 rw[dC]
 rw[Sort.reverseLoop] at hm
 refine aD (fun hlt=>?_) (fun hge=>?_)
 ·have hlt:i<j:=of_decide_eq_true hlt
  rw[if_pos hlt] at hm
  rw[PM.rd hs3.symm (by omega),PM.rd hs3.symm (by omega),PM.swap hs3.symm (by omega) (by omega),add1 (by omega),aZ (by omega) (by omega)]
  exact hnext _ _ _ (by omega) ⟨i + 1,j - 1,_,rfl,rfl,by omega,by omega,rfl,by rw[eB]; exact hs3,hm⟩
 ·have hge:¬ i<j:=of_decide_eq_false hge
  rw[if_neg hge] at hm
  rw[hm] at hQ
  exact hQ
def Wh (T:Nat) (c:ai) : Prop:=∀ {M:RM} {b lo hi first:Nat} {d:Array Nat} {Q:ak},b<M.next→d.size≤1000000→first + hi≤d.size→lo≤1000000→Q (.tup []) (PM M b T (Sort.siftDown lN hi first lo d)) →
 c [vv b d.size,N .i64 (lo:Int),N .i64 (hi:Int),N .i64 (first:Int)] (PM M b T d) Q
theorem zH (hi first:Nat) : ∀ (k lo:Nat) (d:Array Nat),hi - lo≤k→(Sort.siftDown lN hi first lo d).size=d.size
 | 0,lo,d,h=>by rw[Sort.siftDown,dif_pos (by omega)]
 | k + 1,lo,d,h=>by
   rw[Sort.siftDown]
   split
   ·rfl
   ·split
    ·split
     ·rfl
     ·split
      ·rw[zH hi first k _ _ (by omega),eB]
      ·rfl
    ·split
     ·rfl
     ·rw[zH hi first k _ _ (by omega),eB]
theorem Y1 {T:Nat} {cl:ai} (hl:wH cl) : Wh T fun args M Q=>∃ a0 a1 a2 a3,args=[a0,a1,a2,a3]∧lF cl a0 a1 a2 a3 M Q:=by
 intro M b lo hi first d Q hb hsz hfe hlo hQ
 refine⟨_,_,_,_,rfl, ?_⟩
 unfold lF
 simp only[dP,dz,dK,bH]
 obtain⟨R,hR⟩ : ∃ R,R=Sort.siftDown lN hi first lo d:=⟨_,rfl⟩
 rw[← hR] at hQ
 refine aG (fun m ys M3=>∃ (r:Nat) (d3:Array Nat),m=1000000 + hi - r∧ys=[N .i64 (r:Int)]∧(r≤1000000)∧M3=PM M b T d3∧d3.size=d.size∧R=Sort.siftDown lN hi first r d3) _ ⟨lo,d,rfl,rfl,hlo,rfl,rfl,hR⟩ ?_
 rintro next m ys M3 hnext ⟨r,d3,rfl,rfl,hr,rfl,hs3,hm⟩
 dsimp only[aa]
 rw[XP (by omega),add1 (by omega),eY]
 rw[Sort.siftDown] at hm
 refine aD (fun hg=>?_) (fun hg=>?_)
 ·rw[dif_pos (of_decide_eq_true hg)] at hm
  rw[hm] at hQ
  exact hQ
 have hg:¬ 2 * r + 1 ≥ hi:=of_decide_eq_false hg
 rw[dif_neg hg] at hm
 -- the child that is taken
 refine aT (fun zs M'=>∃ c:Nat,zs=[N .i64 (c:Int)]∧M'=PM M b T d3∧r<c∧c<hi∧R=if !lN d3[first + r]! d3[first + c]! then d3 else Sort.siftDown lN hi first c (Sort.swp d3 (first + r) (first + c))) ?_ ?_
 ·rintro zs M' ⟨c,rfl,rfl,hrc,ZO,hm2⟩
  dsimp only[aa]
  rw[addN (by omega),PM.rd hs3.symm (by omega),addN (by omega),PM.rd hs3.symm (by omega)]
  refine hl ?_
  rw[bu]
  refine aD (fun h=>?_) (fun h=>?_)
  ·rw[if_pos h] at hm2
   rw[hm2] at hQ
   exact hQ
  ·rw[if_neg (by simp only[lN,h]; decide)] at hm2
   rw[addN (by omega),addN (by omega),addN (by omega),PM.rd hs3.symm (by omega),addN (by omega),PM.rd hs3.symm (by omega),PM.swap hs3.symm (by omega) (by omega)]
   exact hnext _ _ _ (by omega) ⟨c,_,rfl,rfl,by omega,rfl,by rw[eB]; exact hs3,hm2⟩
 intro J hJ
 rw[add1 (by omega),dC]
 have one:¬ (2 * r + 1 + 1<hi∧lN d3[first + (2 * r + 1)]! d3[first + (2 * r + 1) + 1]! = true)→J [N .i64 ((2 * r + 1:Nat) : Int)] (PM M b T d3):=fun h=>by
  refine hJ _ _ ⟨2 * r + 1,rfl,rfl,by omega,by omega, ?_⟩
  rw[if_neg (by simpa using h)] at hm
  exact hm
 by_cases h1:2 * r + 1 + 1<hi
 ·rw[decide_eq_true h1,cB]
  dsimp only
  rw[addN (by omega),PM.rd hs3.symm (by omega),addN (by omega),add1 (by omega),PM.rd hs3.symm (by omega)]
  refine hl ?_
  rw[dN]
  refine aD (fun h=>?_) (fun h=>?_)
  ·rw[add1 (by omega)]
   refine hJ _ _ ⟨2 * r + 2,rfl,rfl,by omega,by omega, ?_⟩
   rw[if_pos (by simp only[lN,h,decide_eq_true h1,Bool.and_self]),dif_pos (by omega)] at hm
   exact hm
  ·exact one (fun h'=>by have:=h'.2; rw[show lN d3[first + (2 * r + 1)]! d3[first + (2 * r + 1) + 1]! = false from h] at this; cases this)
 ·rw[decide_eq_false h1,bI]
  dsimp only
  rw[cz,bz]
  exact one (fun h=>h1 h.1)
theorem Sn (hi first:Nat) : ∀ (k:Nat) (d:Array Nat),(Sort.heapBuild lN hi first k d).size=d.size
 | 0,d=>rfl
 | k + 1,d=>by rw[Sort.heapBuild,Sn hi first k,zH hi first hi _ _ (by omega)]
theorem YX {T:Nat} {cs:ai} (hs:Wh T cs) : yE T (Sort.heapSort lN) (fun _ a e=>a<e) fun args M Q=>∃ a0 a1 a2,args=[a0,a1,a2]∧lC cs a0 a1 a2 M Q:=by
 intro M b a e d Q hb hsz hae he hP hQ
 refine⟨_,_,_,rfl, ?_⟩
 unfold lC
 rw[Sort.heapSort] at hQ
 rw[df hae (by omega),aZ (by omega) (by omega),gK]
 refine⟨by decide, ?_⟩
 rw[show(2:Int)=((2:Nat) : Int) from rfl,show((e - a - 1:Nat) : Int).tdiv ((2:Nat) : Int)=(((e - a - 1) / 2:Nat) : Int) by rw[Int.tdiv_eq_ediv_of_nonneg (by omega)]; rfl,aS (by omega) (by omega)]
 obtain⟨R,hR⟩ : ∃ R,R=Sort.heapBuild lN (e - a) a ((e - a - 1) / 2 + 1) d:=⟨_,rfl⟩
 rw[← hR] at hQ
 refine aG (fun m ys M3=>∃ (k:Nat) (d3:Array Nat),m=k + 1∧ys=[N .i64 ((k:Int) - 1)]∧k≤(e - a - 1) / 2 + 1∧M3=PM M b T d3∧d3.size=d.size∧R=Sort.heapBuild lN (e - a) a k d3) _ ⟨(e - a - 1) / 2 + 1,d,rfl,by congr 3; omega,Nat.le_refl _,rfl,rfl,hR⟩ ?_
 rintro next m ys M3 hnext ⟨k,d3,rfl,rfl,hk,rfl,hs3,hm⟩
 dsimp only[aa]
 rw[fU]
 refine aD (fun hg=>?_) (fun hg=>?_)
 ·have hg:1≤k:=by
   have:(k:Int) - 1 ≥ 0:=of_decide_eq_true hg
   omega
  obtain⟨k',rfl⟩ : ∃ k',k=k' + 1:=⟨k - 1,by omega⟩
  rw[Sort.heapBuild] at hm
  rw[show((k' + 1:Nat) : Int) - 1=(k' : Int) by omega,← hs3]
  refine hs hb (by omega) (by omega) (by omega) ?_
  rw[eT,aS (by omega) (by omega)]
  exact hnext _ _ _ (by omega) ⟨k',_,rfl,rfl,by omega,rfl,by rw[zH _ _ (e - a) _ _ (by omega)]; exact hs3,hm⟩
 ·have hk0:k=0:=by
   have:¬ (k:Int) - 1 ≥ 0:=of_decide_eq_false hg
   omega
  subst hk0
  rw[Sort.heapBuild] at hm
  rw[hm] at hQ
  rw[aZ (by omega) (by omega)]
  obtain⟨R4,hR4⟩ : ∃ R4,R4=Sort.heapPop lN a (e - a) d3:=⟨_,rfl⟩
  rw[← hR4] at hQ
  refine aG (fun m ys M4=>∃ (k:Nat) (d4:Array Nat),m=k + 1∧ys=[N .i64 ((k:Int) - 1)]∧k≤e - a∧M4=PM M b T d4∧d4.size=d.size∧R4=Sort.heapPop lN a k d4) _ ⟨e - a,d3,rfl,by congr 3; omega,Nat.le_refl _,rfl,hs3,hR4⟩ ?_
  rintro fq m ys M4 dx ⟨k,d4,rfl,rfl,hk,rfl,hs4,hm4⟩
  dsimp only[aa]
  rw[fU]
  refine aD (fun hg=>?_) (fun hg=>?_)
  ·have hg:1≤k:=by
    have:(k:Int) - 1 ≥ 0:=of_decide_eq_true hg
    omega
   obtain⟨k',rfl⟩ : ∃ k',k=k' + 1:=⟨k - 1,by omega⟩
   rw[Sort.heapPop] at hm4
   rw[show((k' + 1:Nat) : Int) - 1=(k' : Int) by omega,addN (by omega),addN (by omega),PM.rd hs4.symm (by omega),PM.rd hs4.symm (by omega),PM.swap hs4.symm (by omega) (by omega),show d.size=(Sort.swp d4 a (a + k')).size by rw[eB]; exact hs4.symm]
   refine hs (lo:=0) hb (by rw[eB]; omega) (by rw[eB]; omega) (by decide) ?_
   rw[eT,aS (by omega) (by omega)]
   exact dx _ _ _ (by omega) ⟨k',_,rfl,rfl,by omega,rfl,by rw[zH _ _ k' _ _ (by omega),eB]; exact hs4,hm4⟩
  ·have hk0:k=0:=by
    have:¬ (k:Int) - 1 ≥ 0:=of_decide_eq_false hg
    omega
   subst hk0
   rw[Sort.heapPop] at hm4
   rw[hm4] at hQ
   exact hQ
section
variable {body:(List AV→RM→Prop)→List AV→RM→Prop} {p:Nat→Bool} {d:Array Nat} {M:RM}
theorem Ou {J i0:Nat} (h:∀ (next:List AV→RM→Prop) (i:Nat),i0≤i→i≤max (J + 1) i0→((decide (i≤J) && p d[i]!)=true→next [N .i64 ((i + 1:Nat) : Int)] M)→((decide (i≤J) && p d[i]!)=false→i=Sort.scanUp p d J i0)→body next [N .i64 (i:Int)] M) :
  aM body [N .i64 (i0:Int)] M:=by
 obtain⟨R,hR⟩ : ∃ R,R=Sort.scanUp p d J i0:=⟨_,rfl⟩
 refine aG (fun m ys M3=>∃ (i:Nat),m=J + 1 - i∧ys=[N .i64 (i:Int)]∧i0≤i∧i≤max (J + 1) i0∧M3=M∧R=Sort.scanUp p d J i) _ ⟨i0,rfl,rfl,Nat.le_refl _,by omega,rfl,hR⟩ ?_
 rintro next m ys M3 hnext ⟨i,rfl,rfl,h0,hi,rfl,hm⟩
 rw[Sort.scanUp] at hm
 refine h next i h0 hi (fun hc=>?_) (fun hc=>?_)
 ·rw[if_pos hc] at hm
  have hij:i≤J:=by
   rw[Bool.and_eq_true] at hc
   exact of_decide_eq_true hc.1
  exact hnext _ _ _ (by omega) ⟨i + 1,rfl,rfl,by omega,by omega,rfl,hm⟩
 ·rw[if_neg (by rw[hc]; decide)] at hm
  rw[← hR]; exact hm.symm
theorem FH {i j0:Nat} (h1:1≤i) (h:∀ (next:List AV→RM→Prop) (j:Nat),j≤j0→(j=j0∨i≤j + 1)→((decide (i≤j) && p d[j]!)=true→next [N .i64 ((j - 1:Nat) : Int)] M)→((decide (i≤j) && p d[j]!)=false→j=Sort.scanDown p d i j0)→body next [N .i64 (j:Int)] M) :
  aM body [N .i64 (j0:Int)] M:=by
 obtain⟨R,hR⟩ : ∃ R,R=Sort.scanDown p d i j0:=⟨_,rfl⟩
 refine aG (fun m ys M3=>∃ (j:Nat),m=j + 1∧ys=[N .i64 (j:Int)]∧j≤j0∧(j=j0∨i≤j + 1)∧M3=M∧R=Sort.scanDown p d i j) _ ⟨j0,rfl,rfl,Nat.le_refl _,.inl rfl,rfl,hR⟩ ?_
 rintro next m ys M3 hnext ⟨j,rfl,rfl,h0,hi,rfl,hm⟩
 refine h next j h0 hi (fun hc=>?_) (fun hc=>?_)
 ·have hij:i≤j:=by
   rw[Bool.and_eq_true] at hc
   exact of_decide_eq_true hc.1
  obtain⟨k,rfl⟩ : ∃ k,j=k + 1:=⟨j - 1,by omega⟩
  rw[Sort.scanDown,if_pos hc] at hm
  exact hnext _ _ _ (by omega) ⟨k,rfl,rfl,by omega,by omega,rfl,hm⟩
 ·rw[← hR]
  cases j with
  | zero=>exact hm.symm
  | succ k=>rw[Sort.scanDown,if_neg (by rw[hc]; decide)] at hm; exact hm.symm
end
theorem zF {d d' : Array Nat} {i j:Nat} (h:d'.size=d.size) : (Sort.swp d' i j).size=d.size:=by rw[eB,h]
def Na (T:Nat) (c:ai) : Prop:=∀ {M:RM} {b a e pv:Nat} {d:Array Nat} {Q:ak},b<M.next→d.size≤1000000→a≤pv→pv<e→e≤d.size→Q (N .i64 (((Sort.partitionEqual lN d a e pv).1:Nat) : Int)) (PM M b T (Sort.partitionEqual lN d a e pv).2) →
 c [vv b d.size,N .i64 (a:Int),N .i64 (e:Int),N .i64 (pv:Int)] (PM M b T d) Q
theorem andM {c p:Bool} {f:ak→Prop} {M:RM} {G:AV→RM→Prop} (hf:c=true→∀ k:ak,k (Bo p) M→f k) (hG:G (Bo (c && p)) M) :
  aj (Bo c) true f (fun k=>k .undef M) (fun t M'=>aL (Bo c) t (Bo false) fun u=>G u M'):=by
 cases c with
 | false=>rw[bI]; dsimp only; rw[cz]; exact hG
 | true=>rw[cB]; exact hf rfl _ (by rw[dN]; exact hG)
theorem Rf {c p:Bool} {f:KR→Prop} {M:RM} {G:AV→RM→Prop} (hf:c=true→∀ k:KR,k (Bo p) M none→f k) (hG:G (Bo (c && p)) M) :
  ae (Bo c) true f (fun k=>k .undef M none) (fun t M' b=>aL (Bo c) t (Bo false) fun u=>G u M'):=by
 cases c with
 | false=>rw[jd]; dsimp only; rw[cz]; exact hG
 | true=>rw[iK]; exact hf rfl _ (by rw[dN]; exact hG)
theorem Uj {T:Nat} {cl:ai} (hl:wH cl) : Na T fun args M Q=>∃ a0 a1 a2 a3,args=[a0,a1,a2,a3]∧ja cl a0 a1 a2 a3 M Q:=by
 intro M b a e pv d Q hb hsz hap hpe he hQ
 refine⟨_,_,_,_,rfl, ?_⟩
 unfold ja
 simp only[dP,dz,dK]
 rw[Sort.partitionEqual] at hQ
 rw[PM.rd rfl (by omega),PM.rd rfl (by omega),PM.swap rfl (by omega) (by omega),add1 (by omega),aZ (by omega) (by omega)]
 obtain⟨R,hR⟩ : ∃ R,R=Sort.partEqLoop lN a (a + 1) (e - 1) (Sort.swp d a pv):=⟨_,rfl⟩
 rw[← hR] at hQ
 refine aG (fun m ys M3=>∃ (i j:Nat) (d3:Array Nat),m=j + 1 - i∧ys=[N .i64 (i:Int),N .i64 (j:Int)]∧a + 1≤i∧i≤e + 1∧j<e∧M3=PM M b T d3∧d3.size=d.size∧R=Sort.partEqLoop lN a i j d3) _ ⟨a + 1,e - 1,_,rfl,rfl,Nat.le_refl _,by omega,by omega,rfl,eB _ _ _,hR⟩ ?_
 rintro next m ys M3 hnext ⟨i,j,d3,rfl,rfl,hai,hie,hje,rfl,hs3,hm⟩
 dsimp only[aa]
 rw[Sort.partEqLoop] at hm
 refine Ou (p:=fun x=>!lN d3[a]! x) (d:=d3) (J:=j) fun fq i2 h0 h1 hgo hstop=>?_
 dsimp only[aa]
 rw[gU]
 refine Rf (p:=!lN d3[a]! d3[i2]!) (fun hc k hk=>?_) ?_
 ·have hc:i2≤j:=of_decide_eq_true hc
  rw[PM.rd hs3.symm (by omega),PM.rd hs3.symm (by omega)]
  refine hl ?_
  rw[bu]
  exact hk
 refine aD (fun h=>?_) (fun h=>?_)
 ·rw[add1 (by omega)]
  exact hgo h
 have hi2:=hstop h
 rw[← hi2] at hm
 refine FH (p:=fun x=>lN d3[a]! x) (d:=d3) (i:=i2) (by omega) fun kW j2 q0 q1 lH gp=>?_
 dsimp only[aa]
 rw[gU]
 refine andM (p:=lN d3[a]! d3[j2]!) (fun hc k hk=>?_) ?_
 ·have hc:i2≤j2:=of_decide_eq_true hc
  rw[PM.rd hs3.symm (by omega),PM.rd hs3.symm (by omega)]
  exact hl hk
 refine aD (fun h=>?_) (fun h=>?_)
 ·have hc:i2≤j2:=by
   rw[Bool.and_eq_true] at h
   exact of_decide_eq_true h.1
  rw[aZ (by omega) (by omega)]
  exact lH h
 have hj2:=gp h
 simp only[← hj2] at hm
 rw[lX]
 refine aD (fun hg=>?_) (fun hg=>?_)
 ·rw[if_pos (of_decide_eq_true hg)] at hm
  rw[hm] at hQ
  exact hQ
 ·have hg:¬ i2 > j2:=of_decide_eq_false hg
  rw[if_neg hg,dif_pos (by omega)] at hm
  rw[PM.rd hs3.symm (by omega),PM.rd hs3.symm (by omega),PM.swap hs3.symm (by omega) (by omega),add1 (by omega),aZ (by omega) (by omega)]
  exact hnext _ _ _ (by omega) ⟨i2 + 1,j2 - 1,_,rfl,rfl,by omega,by omega,by omega,rfl,zF hs3,hm⟩
def W9 (T:Nat) (c:ai) : Prop:=∀ {M:RM} {b a e pv:Nat} {d:Array Nat} {Q:ak},b<M.next→d.size≤1000000→a≤pv→pv<e→e≤d.size→Q (.tup [N .i64 (((Sort.partition lN d a e pv).1:Nat) : Int),Bo (Sort.partition lN d a e pv).2.1]) (PM M b T (Sort.partition lN d a e pv).2.2) →
 c [vv b d.size,N .i64 (a:Int),N .i64 (e:Int),N .i64 (pv:Int)] (PM M b T d) Q
theorem GG (d:Array Nat) (a e pv:Nat) : Sort.partition lN d a e pv =
  if Sort.scanUp (fun x=>lN x (Sort.swp d a pv)[a]!) (Sort.swp d a pv) (e - 1) (a + 1) > Sort.scanDown (fun x=>!lN x (Sort.swp d a pv)[a]!) (Sort.swp d a pv) (Sort.scanUp (fun x=>lN x (Sort.swp d a pv)[a]!) (Sort.swp d a pv) (e - 1) (a + 1)) (e - 1) then
   (Sort.scanDown (fun x=>!lN x (Sort.swp d a pv)[a]!) (Sort.swp d a pv) (Sort.scanUp (fun x=>lN x (Sort.swp d a pv)[a]!) (Sort.swp d a pv) (e - 1) (a + 1)) (e - 1),true,Sort.swp (Sort.swp d a pv) (Sort.scanDown (fun x=>!lN x (Sort.swp d a pv)[a]!) (Sort.swp d a pv) (Sort.scanUp (fun x=>lN x (Sort.swp d a pv)[a]!) (Sort.swp d a pv) (e - 1) (a + 1)) (e - 1)) a)
  else((Sort.partLoop lN a (Sort.scanUp (fun x=>lN x (Sort.swp d a pv)[a]!) (Sort.swp d a pv) (e - 1) (a + 1) + 1) (Sort.scanDown (fun x=>!lN x (Sort.swp d a pv)[a]!) (Sort.swp d a pv) (Sort.scanUp (fun x=>lN x (Sort.swp d a pv)[a]!) (Sort.swp d a pv) (e - 1) (a + 1)) (e - 1) - 1) (Sort.swp (Sort.swp d a pv) (Sort.scanUp (fun x=>lN x (Sort.swp d a pv)[a]!) (Sort.swp d a pv) (e - 1) (a + 1)) (Sort.scanDown (fun x=>!lN x (Sort.swp d a pv)[a]!) (Sort.swp d a pv) (Sort.scanUp (fun x=>lN x (Sort.swp d a pv)[a]!) (Sort.swp d a pv) (e - 1) (a + 1)) (e - 1)))).1,false,
   Sort.swp (Sort.partLoop lN a (Sort.scanUp (fun x=>lN x (Sort.swp d a pv)[a]!) (Sort.swp d a pv) (e - 1) (a + 1) + 1) (Sort.scanDown (fun x=>!lN x (Sort.swp d a pv)[a]!) (Sort.swp d a pv) (Sort.scanUp (fun x=>lN x (Sort.swp d a pv)[a]!) (Sort.swp d a pv) (e - 1) (a + 1)) (e - 1) - 1) (Sort.swp (Sort.swp d a pv) (Sort.scanUp (fun x=>lN x (Sort.swp d a pv)[a]!) (Sort.swp d a pv) (e - 1) (a + 1)) (Sort.scanDown (fun x=>!lN x (Sort.swp d a pv)[a]!) (Sort.swp d a pv) (Sort.scanUp (fun x=>lN x (Sort.swp d a pv)[a]!) (Sort.swp d a pv) (e - 1) (a + 1)) (e - 1)))).2
    (Sort.partLoop lN a (Sort.scanUp (fun x=>lN x (Sort.swp d a pv)[a]!) (Sort.swp d a pv) (e - 1) (a + 1) + 1) (Sort.scanDown (fun x=>!lN x (Sort.swp d a pv)[a]!) (Sort.swp d a pv) (Sort.scanUp (fun x=>lN x (Sort.swp d a pv)[a]!) (Sort.swp d a pv) (e - 1) (a + 1)) (e - 1) - 1) (Sort.swp (Sort.swp d a pv) (Sort.scanUp (fun x=>lN x (Sort.swp d a pv)[a]!) (Sort.swp d a pv) (e - 1) (a + 1)) (Sort.scanDown (fun x=>!lN x (Sort.swp d a pv)[a]!) (Sort.swp d a pv) (Sort.scanUp (fun x=>lN x (Sort.swp d a pv)[a]!) (Sort.swp d a pv) (e - 1) (a + 1)) (e - 1)))).1 a):=rfl
theorem Ze {T:Nat} {cl:ai} (hl:wH cl) : W9 T fun args M Q=>∃ a0 a1 a2 a3,args=[a0,a1,a2,a3]∧kU cl a0 a1 a2 a3 M Q:=by
 intro M b a e pv d Q hb hsz hap hpe he hQ
 refine⟨_,_,_,_,rfl, ?_⟩
 unfold kU
 simp only[dP,dz,dK]
 have hs2:=eB d a pv
 rw[GG] at hQ
 rw[PM.rd rfl (by omega),PM.rd rfl (by omega),PM.swap rfl (by omega) (by omega),add1 (by omega),aZ (by omega) (by omega)]
 generalize Sort.swp d a pv=d2 at *
 refine Ou (p:=fun x=>lN x d2[a]!) (d:=d2) (J:=e - 1) fun fq i h0 h1 hgo hstop=>?_
 dsimp only[aa]
 rw[gU]
 refine andM (p:=lN d2[i]! d2[a]!) (fun hc k hk=>?_) ?_
 ·have hc:i≤e - 1:=of_decide_eq_true hc
  rw[PM.rd hs2.symm (by omega),PM.rd hs2.symm (by omega)]
  exact hl hk
 refine aD (fun h=>?_) (fun h=>?_)
 ·rw[add1 (by omega)]
  exact hgo h
 have hi2:=hstop h
 simp only[← hi2] at hQ
 refine FH (p:=fun x=>!lN x d2[a]!) (d:=d2) (i:=i) (by omega) fun kW j q0 q1 lH gp=>?_
 dsimp only[aa]
 rw[gU]
 refine Rf (p:=!lN d2[j]! d2[a]!) (fun hc k hk=>?_) ?_
 ·have hc:i≤j:=of_decide_eq_true hc
  rw[PM.rd hs2.symm (by omega),PM.rd hs2.symm (by omega)]
  refine hl ?_
  rw[bu]
  exact hk
 refine aD (fun h=>?_) (fun h=>?_)
 ·have hc:i≤j:=by
   rw[Bool.and_eq_true] at h
   exact of_decide_eq_true h.1
  rw[aZ (by omega) (by omega)]
  exact lH h
 have hj2:=gp h
 simp only[← hj2] at hQ
 rw[lX]
 refine aD (fun hg=>?_) (fun hg=>?_)
 ·rw[if_pos (of_decide_eq_true hg)] at hQ
  rw[PM.rd hs2.symm (by omega),PM.rd hs2.symm (by omega),PM.swap hs2.symm (by omega) (by omega)]
  exact hQ
 have hg:¬ i > j:=of_decide_eq_false hg
 rw[if_neg hg] at hQ
 rw[PM.rd hs2.symm (by omega),PM.rd hs2.symm (by omega),PM.swap hs2.symm (by omega) (by omega),add1 (by omega),aZ (by omega) (by omega)]
 obtain⟨R,hR⟩ : ∃ R,R=Sort.partLoop lN a (i + 1) (j - 1) (Sort.swp d2 i j):=⟨_,rfl⟩
 simp only[← hR] at hQ
 refine aG (fun m ys M3=>∃ (i j:Nat) (d3:Array Nat),m=j + 1 - i∧ys=[N .i64 (i:Int),N .i64 (j:Int)]∧a + 1≤i∧i≤e + 1∧j<e∧M3=PM M b T d3∧d3.size=d.size∧R=Sort.partLoop lN a i j d3) _ ⟨i + 1,j - 1,_,rfl,rfl,by omega,by omega,by omega,rfl,zF hs2,hR⟩ ?_
 rintro next m ys M3 hnext ⟨i,j,d3,rfl,rfl,hai,hie,hje,rfl,hs3,hm⟩
 dsimp only[aa]
 rw[Sort.partLoop] at hm
 refine Ou (p:=fun x=>lN x d3[a]!) (d:=d3) (J:=j) fun fq i2 h0 h1 hgo hstop=>?_
 dsimp only[aa]
 rw[gU]
 refine andM (p:=lN d3[i2]! d3[a]!) (fun hc k hk=>?_) ?_
 ·have hc:i2≤j:=of_decide_eq_true hc
  rw[PM.rd hs3.symm (by omega),PM.rd hs3.symm (by omega)]
  exact hl hk
 refine aD (fun h=>?_) (fun h=>?_)
 ·rw[add1 (by omega)]
  exact hgo h
 have hi2:=hstop h
 rw[← hi2] at hm
 refine FH (p:=fun x=>!lN x d3[a]!) (d:=d3) (i:=i2) (by omega) fun kW j2 q0 q1 lH gp=>?_
 dsimp only[aa]
 rw[gU]
 refine Rf (p:=!lN d3[j2]! d3[a]!) (fun hc k hk=>?_) ?_
 ·have hc:i2≤j2:=of_decide_eq_true hc
  rw[PM.rd hs3.symm (by omega),PM.rd hs3.symm (by omega)]
  refine hl ?_
  rw[bu]
  exact hk
 refine aD (fun h=>?_) (fun h=>?_)
 ·have hc:i2≤j2:=by
   rw[Bool.and_eq_true] at h
   exact of_decide_eq_true h.1
  rw[aZ (by omega) (by omega)]
  exact lH h
 have hj2:=gp h
 simp only[← hj2] at hm
 rw[lX]
 refine aD (fun hg=>?_) (fun hg=>?_)
 ·rw[if_pos (of_decide_eq_true hg)] at hm
  rw[hm] at hQ
  rw[PM.rd hs3.symm (by omega),PM.rd hs3.symm (by omega),PM.swap hs3.symm (by omega) (by omega)]
  exact hQ
 ·have hg:¬ i2 > j2:=of_decide_eq_false hg
  rw[if_neg hg,dif_pos (by omega)] at hm
  rw[PM.rd hs3.symm (by omega),PM.rd hs3.symm (by omega),PM.swap hs3.symm (by omega) (by omega),add1 (by omega),aZ (by omega) (by omega)]
  exact hnext _ _ _ (by omega) ⟨i2 + 1,j2 - 1,_,rfl,rfl,by omega,by omega,by omega,rfl,zF hs3,hm⟩
def Up (xs:List Nat) : Prop:=∀ i j (hi:i<xs.length) (hj:j<xs.length),i≤j→xs[i]≤xs[j]
theorem Asc.up {xs:List Nat} (h:Asc xs) : Up xs:=fun i j hi hj hij=>by
 rcases Nat.lt_or_ge i j with h1 | h1
 ·exact Nat.le_of_lt (h.lt h1 hj)
 ·have:i=j:=by omega
  subst this; exact Nat.le_refl _
theorem Own.u64 {M:RM} {base T:Nat} {v:AV} {xs:List Nat} (h:Ow bn M base T v xs) : Sl bn M v xs:=h.il
theorem jE (a b:Nat) : (a:Int).tdiv (b:Int)=((a / b:Nat) : Int):=by
 rw[Int.tdiv_eq_ediv_of_nonneg (by omega)]; rfl
def SM (M:RM) (s T k:Nat) : RM:=M.put s (.row [N .i64 (k:Int)] false T 0)
theorem SM.put {M:RM} {s T k k' : Nat} : (SM M s T k).put s (.row [N .i64 (k' : Int)] false T 0)=SM M s T k':=by
 unfold SM RM.put
 congr 1
 funext c
 simp only
 by_cases h:c=s <;> simp[h]
theorem SM.new {M:RM} {T:Nat} : M.push (.row [N .i64 0] false T 0)=SM (M.push (.row [N .i64 0] false T 0)) M.next T 0:=by
 unfold SM RM.put RM.push
 congr 1
 funext c
 simp only
 by_cases h:c=M.next <;> simp[h]
def Oy (T TI:Nat) (c:ai) : Prop:=∀ {M:RM} {b s k i j:Nat} {d:Array Nat} {Q:ak},s≠b→i<d.size→j<d.size→k≤1000 →
 Q (.tup [N .i64 (((Sort.order2 lN d i j k).1:Nat) : Int),N .i64 (((Sort.order2 lN d i j k).2.1:Nat) : Int)]) (PM (SM M s TI (Sort.order2 lN d i j k).2.2) b T d)→c [vv b d.size,N .i64 (i:Int),N .i64 (j:Int),.ptr s 0] (PM (SM M s TI k) b T d) Q
theorem SC {T TI:Nat} {cl:ai} (hl:wH cl) : Oy T TI fun args M Q=>∃ a0 a1 a2 a3,args=[a0,a1,a2,a3]∧mW cl a0 a1 a2 a3 M Q:=by
 intro M b s k i j d Q hsb hi hj hk hQ
 refine⟨_,_,_,_,rfl, ?_⟩
 unfold mW
 rw[PM.rd rfl (by omega),PM.rd rfl (by omega)]
 refine hl ?_
 unfold Sort.order2 at hQ
 refine aD (fun h=>?_) (fun h=>?_)
 ·rw[if_pos (by exact h)] at hQ
  have hh:(PM (SM M s TI k) b T d).heap s=some (.row [N .i64 (k:Int)] false TI 0):=by
   rw[PM.Lg hsb]; exact RM.vO _ _
  rw[aU,aA hh rfl,add1 (by omega),aU,dV hh (by simp) rfl rfl]
  rw[PM.XI hsb]
  rw[show([N .i64 (k:Int)] : List AV).set 0 (N .i64 ((k + 1:Nat) : Int))=[N .i64 ((k + 1:Nat) : Int)] from rfl,SM.put]
  exact hQ
 ·rw[if_neg (by rw[show lN d[j]! d[i]! = false from h]; decide)] at hQ
  exact hQ
theorem xE (d:Array Nat) (i j k:Nat) : (((Sort.order2 lN d i j k).1=i∧(Sort.order2 lN d i j k).2.1=j)∨((Sort.order2 lN d i j k).1=j∧(Sort.order2 lN d i j k).2.1=i))∧k≤(Sort.order2 lN d i j k).2.2∧(Sort.order2 lN d i j k).2.2≤k + 1:=by
 unfold Sort.order2
 split <;> simp
def Hg (T TI:Nat) (c:ai) : Prop:=∀ {M:RM} {b s k i j h:Nat} {d:Array Nat} {Q:ak},s≠b→i<d.size→j<d.size→h<d.size→k≤900 →
 Q (N .i64 (((Sort.median lN d i j h k).1:Nat) : Int)) (PM (SM M s TI (Sort.median lN d i j h k).2) b T d)→c [vv b d.size,N .i64 (i:Int),N .i64 (j:Int),N .i64 (h:Int),.ptr s 0] (PM (SM M s TI k) b T d) Q
theorem QL {T TI:Nat} {c2:ai} (h2:Oy T TI c2) : Hg T TI fun args M Q=>∃ a0 a1 a2 a3 a4,args=[a0,a1,a2,a3,a4]∧mP c2 a0 a1 a2 a3 a4 M Q:=by
 intro M b s k i j h d Q hsb hi hj hh hk hQ
 refine⟨_,_,_,_,_,rfl, ?_⟩
 unfold mP
 unfold Sort.median at hQ
 have o1:=xE d i j k
 refine h2 hsb hi hj (by omega) ?_
 rw[fo,fu]
 dsimp only at hQ
 generalize Sort.order2 lN d i j k=r1 at *
 have o2:=xE d r1.2.1 h r1.2.2
 refine h2 hsb (by omega) hh (by omega) ?_
 rw[fo,fu]
 generalize Sort.order2 lN d r1.2.1 h r1.2.2=r2 at *
 refine h2 hsb (by omega) (by omega) (by omega) ?_
 rw[fo,fu]
 exact hQ
theorem Gj (d:Array Nat) {i j h k n:Nat} (hi:i<n) (hj:j<n) (hh:h<n) : (Sort.median lN d i j h k).1<n∧(Sort.median lN d i j h k).2≤k + 3:=by
 unfold Sort.median
 dsimp only
 have o1:=xE d i j k
 generalize Sort.order2 lN d i j k=r1 at *
 have o2:=xE d r1.2.1 h r1.2.2
 generalize Sort.order2 lN d r1.2.1 h r1.2.2=r2 at *
 have o3:=xE d r1.1 r2.1 r2.2.2
 omega
def Ms (T TI:Nat) (c:ai) : Prop:=∀ {M:RM} {b s k i:Nat} {d:Array Nat} {Q:ak},s≠b→d.size≤1000000→1≤i→i + 1<d.size→k≤900 →
 Q (N .i64 (((Sort.medianAdjacent lN d i k).1:Nat) : Int)) (PM (SM M s TI (Sort.medianAdjacent lN d i k).2) b T d)→c [vv b d.size,N .i64 (i:Int),.ptr s 0] (PM (SM M s TI k) b T d) Q
theorem Rz {T TI:Nat} {cm:ai} (hm:Hg T TI cm) : Ms T TI fun args M Q=>∃ a0 a1 a2,args=[a0,a1,a2]∧iU cm a0 a1 a2 M Q:=by
 intro M b s k i d Q hsb hsz h1 h2 hk hQ
 refine⟨_,_,_,rfl, ?_⟩
 unfold iU
 rw[aZ (by omega) (by omega),add1 (by omega)]
 exact hm hsb (by omega) (by omega) (by omega) hk hQ
def iL:Sort.Hint→Int
 | .unknown=>0
 | .increasing=>1
 | .decreasing=>2
def Mv (T:Nat) (c:ai) : Prop:=∀ {M:RM} {b a e:Nat} {d:Array Nat} {Q:ak},b<M.next→d.size≤1000000→a<e→e≤d.size →
 (∀ M',ag [] M M'→Q (.tup [N .i64 (((Sort.choosePivot lN d a e).1:Nat) : Int),N .i64 (iL (Sort.choosePivot lN d a e).2)]) (PM M' b T d))→c [vv b d.size,N .i64 (a:Int),N .i64 (e:Int)] (PM M b T d) Q
theorem QM {T TI:Nat} {ca cm:ai} (ha:Ms T TI ca) (hm:Hg T TI cm) : Mv T fun args M Q=>∃ a0 a1 a2,args=[a0,a1,a2]∧jV TI ca cm a0 a1 a2 M Q:=by
 intro M b a e d Q hb hsz hae he hQ
 refine⟨_,_,_,rfl, ?_⟩
 unfold jV
 simp only[bH]
 rw[df (by omega) (by omega),aX,PM.push hb]
 have hnx:(PM M b T d).next=M.next:=rfl
 rw[hnx]
 have kk:ag [] M (M.push (.row [N .i64 0] false TI 0)):=(ag.refl _ _).push _
 have kS:∀ k,ag [] M (SM (M.push (.row [N .i64 0] false TI 0)) M.next TI k):=fun k=>kk.new _ (Nat.le_refl _)
 rw[show PM (M.push (.row [N .i64 0] false TI 0)) b T d=PM (SM (M.push (.row [N .i64 0] false TI 0)) M.next TI 0) b T d by rw[← SM.new]]
 generalize M.push (.row [N .i64 0] false TI 0)=M1 at *
 have hsb:M.next≠b:=by omega
 generalize M.next=s at *
 have hq:∀ (k:Nat) (c:Int),c=(k:Int)→k≤3→∀ (K:AV→Prop),(af .quo (N .i64 ((e - a:Nat) : Int)) (N .i64 4) fun t18=>af .mul t18 (N .i64 c) fun t19=>af .add (N .i64 (a:Int)) t19 K)=K (N .i64 ((a + (e - a) / 4 * k:Nat) : Int)):=fun k c hc hk K=>by
  subst hc
  have hb:(e - a) / 4 * k≤(e - a) * 3:=Nat.mul_le_mul (Nat.div_le_self _ _) hk
  rw[gK,show(4:Int)=((4:Nat) : Int) from rfl,jE,aS (by omega) (by omega),nZ,← Int.natCast_mul,aS (by omega) (by omega),addN (by omega)]
  exact propext ⟨fun h=>h.2,fun h=>⟨by decide,h⟩⟩
 rw[hq 1 1 rfl (by omega),hq 2 2 rfl (by omega),hq 3 3 rfl (by omega)]
 have hcp:Sort.choosePivot lN d a e=((if e - a ≥ 8 then(if e - a ≥ 50 then Sort.median lN d (Sort.medianAdjacent lN d (a + (e - a) / 4 * 1) 0).1 (Sort.medianAdjacent lN d (a + (e - a) / 4 * 2) (Sort.medianAdjacent lN d (a + (e - a) / 4 * 1) 0).2).1 (Sort.medianAdjacent lN d (a + (e - a) / 4 * 3) (Sort.medianAdjacent lN d (a + (e - a) / 4 * 2) (Sort.medianAdjacent lN d (a + (e - a) / 4 * 1) 0).2).2).1 (Sort.medianAdjacent lN d (a + (e - a) / 4 * 3) (Sort.medianAdjacent lN d (a + (e - a) / 4 * 2) (Sort.medianAdjacent lN d (a + (e - a) / 4 * 1) 0).2).2).2
   else Sort.median lN d (a + (e - a) / 4 * 1) (a + (e - a) / 4 * 2) (a + (e - a) / 4 * 3) 0) else(a + (e - a) / 4 * 2,0) : Nat × Nat).1,
   if (if e - a ≥ 8 then(if e - a ≥ 50 then Sort.median lN d (Sort.medianAdjacent lN d (a + (e - a) / 4 * 1) 0).1 (Sort.medianAdjacent lN d (a + (e - a) / 4 * 2) (Sort.medianAdjacent lN d (a + (e - a) / 4 * 1) 0).2).1 (Sort.medianAdjacent lN d (a + (e - a) / 4 * 3) (Sort.medianAdjacent lN d (a + (e - a) / 4 * 2) (Sort.medianAdjacent lN d (a + (e - a) / 4 * 1) 0).2).2).1 (Sort.medianAdjacent lN d (a + (e - a) / 4 * 3) (Sort.medianAdjacent lN d (a + (e - a) / 4 * 2) (Sort.medianAdjacent lN d (a + (e - a) / 4 * 1) 0).2).2).2
   else Sort.median lN d (a + (e - a) / 4 * 1) (a + (e - a) / 4 * 2) (a + (e - a) / 4 * 3) 0) else(a + (e - a) / 4 * 2,0) : Nat × Nat).2=0 then .increasing else if (if e - a ≥ 8 then(if e - a ≥ 50 then Sort.median lN d (Sort.medianAdjacent lN d (a + (e - a) / 4 * 1) 0).1 (Sort.medianAdjacent lN d (a + (e - a) / 4 * 2) (Sort.medianAdjacent lN d (a + (e - a) / 4 * 1) 0).2).1 (Sort.medianAdjacent lN d (a + (e - a) / 4 * 3) (Sort.medianAdjacent lN d (a + (e - a) / 4 * 2) (Sort.medianAdjacent lN d (a + (e - a) / 4 * 1) 0).2).2).1 (Sort.medianAdjacent lN d (a + (e - a) / 4 * 3) (Sort.medianAdjacent lN d (a + (e - a) / 4 * 2) (Sort.medianAdjacent lN d (a + (e - a) / 4 * 1) 0).2).2).2
   else Sort.median lN d (a + (e - a) / 4 * 1) (a + (e - a) / 4 * 2) (a + (e - a) / 4 * 3) 0) else(a + (e - a) / 4 * 2,0) : Nat × Nat).2=12 then .decreasing else .unknown):=rfl
 rw[hcp] at hQ
 generalize hr:(if e - a ≥ 8 then(if e - a ≥ 50 then Sort.median lN d (Sort.medianAdjacent lN d (a + (e - a) / 4 * 1) 0).1 (Sort.medianAdjacent lN d (a + (e - a) / 4 * 2) (Sort.medianAdjacent lN d (a + (e - a) / 4 * 1) 0).2).1 (Sort.medianAdjacent lN d (a + (e - a) / 4 * 3) (Sort.medianAdjacent lN d (a + (e - a) / 4 * 2) (Sort.medianAdjacent lN d (a + (e - a) / 4 * 1) 0).2).2).1 (Sort.medianAdjacent lN d (a + (e - a) / 4 * 3) (Sort.medianAdjacent lN d (a + (e - a) / 4 * 2) (Sort.medianAdjacent lN d (a + (e - a) / 4 * 1) 0).2).2).2
   else Sort.median lN d (a + (e - a) / 4 * 1) (a + (e - a) / 4 * 2) (a + (e - a) / 4 * 3) 0) else(a + (e - a) / 4 * 2,0) : Nat × Nat)=r at hQ
 refine aT (fun zs M'=>zs=[N .i64 ((r.1:Nat) : Int)]∧M'=PM (SM M1 s TI r.2) b T d) ?_ ?_
 ·rintro zs M' ⟨rfl,rfl⟩
  dsimp only[aa]
  have hh:(PM (SM M1 s TI r.2) b T d).heap s=some (.row [N .i64 (r.2:Int)] false TI 0):=by
   rw[PM.Lg hsb]; exact RM.vO _ _
  have:=hQ _ (kS r.2)
  rw[aA hh rfl,bV]
  by_cases h0:r.2=0
  ·rw[show((r.2:Int) == 0)=true by rw[h0]; rfl,cO]
   rw[if_pos h0] at this
   exact this
  ·rw[show((r.2:Int) == 0)=false by rw[beq_eq_false_iff_ne]; omega,bz,bV]
   rw[if_neg h0] at this
   by_cases h12:r.2=12
   ·rw[show((r.2:Int) == 12)=true by rw[h12]; rfl,cO]
    rw[if_pos h12] at this
    exact this
   ·rw[show((r.2:Int) == 12)=false by rw[beq_eq_false_iff_ne]; omega,bz]
    rw[if_neg h12] at this
    exact this
 intro J hJ
 rw[show(8:Int)=((8:Nat) : Int) from rfl,eY]
 refine aD (fun h8=>?_) (fun h8=>?_)
 ·have h8:e - a ≥ 8:=of_decide_eq_true h8
  rw[if_pos h8] at hr
  refine aT (fun zs M'=>∃ x y z k:Nat,zs=[N .i64 (x:Int),N .i64 (y:Int),N .i64 (z:Int)]∧M'=PM (SM M1 s TI k) b T d∧x<d.size∧y<d.size∧z<d.size∧k≤900∧Sort.median lN d x y z k=r) ?_ ?_
  ·rintro zs M' ⟨x,y,z,k,rfl,rfl,hx,hy,hz,hk,he⟩
   dsimp only[aa]
   refine hm hsb hx hy hz hk ?_
   rw[he]
   exact hJ _ _ ⟨rfl,rfl⟩
  intro J0 hJ0
  rw[show(50:Int)=((50:Nat) : Int) from rfl,eY]
  refine aD (fun h50=>?_) (fun h50=>?_)
  ·have h50:e - a ≥ 50:=of_decide_eq_true h50
   rw[if_pos h50] at hr
   have m1:=Gj d (i:=a + (e - a) / 4 * 1 - 1) (j:=a + (e - a) / 4 * 1) (h:=a + (e - a) / 4 * 1 + 1) (k:=0) (n:=d.size) (by omega) (by omega) (by omega)
   have r1:(Sort.medianAdjacent lN d (a + (e - a) / 4 * 1) 0).1<d.size∧(Sort.medianAdjacent lN d (a + (e - a) / 4 * 1) 0).2≤0 + 3:=m1
   refine ha hsb hsz (by omega) (by omega) (by omega) ?_
   generalize Sort.medianAdjacent lN d (a + (e - a) / 4 * 1) 0=q1 at *
   have m2:=Gj d (i:=a + (e - a) / 4 * 2 - 1) (j:=a + (e - a) / 4 * 2) (h:=a + (e - a) / 4 * 2 + 1) (k:=q1.2) (n:=d.size) (by omega) (by omega) (by omega)
   have r2:(Sort.medianAdjacent lN d (a + (e - a) / 4 * 2) q1.2).1<d.size∧(Sort.medianAdjacent lN d (a + (e - a) / 4 * 2) q1.2).2≤q1.2 + 3:=m2
   refine ha hsb hsz (by omega) (by omega) (by omega) ?_
   generalize Sort.medianAdjacent lN d (a + (e - a) / 4 * 2) q1.2=q2 at *
   have m3:=Gj d (i:=a + (e - a) / 4 * 3 - 1) (j:=a + (e - a) / 4 * 3) (h:=a + (e - a) / 4 * 3 + 1) (k:=q2.2) (n:=d.size) (by omega) (by omega) (by omega)
   have r3:(Sort.medianAdjacent lN d (a + (e - a) / 4 * 3) q2.2).1<d.size∧(Sort.medianAdjacent lN d (a + (e - a) / 4 * 3) q2.2).2≤q2.2 + 3:=m3
   refine ha hsb hsz (by omega) (by omega) (by omega) ?_
   generalize Sort.medianAdjacent lN d (a + (e - a) / 4 * 3) q2.2=q3 at *
   exact hJ0 _ _ ⟨q1.1,q2.1,q3.1,q3.2,rfl,rfl,r1.1,r2.1,r3.1,by omega,hr⟩
  ·have h50:¬ e - a ≥ 50:=of_decide_eq_false h50
   rw[if_neg h50] at hr
   exact hJ0 _ _ ⟨_,_,_,0,rfl,rfl,by omega,by omega,by omega,by omega,hr⟩
 ·have h8:¬ e - a ≥ 8:=of_decide_eq_false h8
  rw[if_neg h8] at hr
  subst hr
  exact hJ _ _ ⟨rfl,rfl⟩
theorem Aj:∀ (j:Nat) (d:Array Nat),(Sort.shiftDown lN j d).size=d.size
 | 0,d=>rfl
 | j + 1,d=>by
   rw[Sort.shiftDown]
   split
   ·rfl
   ·rw[Aj j,eB]
theorem Ez (e:Nat) : ∀ (k j:Nat) (d:Array Nat),e - j≤k→(Sort.shiftUp lN e j d).size=d.size
 | 0,j,d,h=>by rw[Sort.shiftUp,if_neg (by omega)]
 | k + 1,j,d,h=>by
   rw[Sort.shiftUp]
   split
   ·split
    ·rfl
    ·rw[Ez e k _ _ (by omega),eB]
   ·rfl
def JR (T:Nat) (c:ai) : Prop:=∀ {M:RM} {b a e:Nat} {d:Array Nat} {Q:ak},b<M.next→d.size≤1000000→a<e→e≤d.size→Q (Bo (Sort.partialInsertionSort lN d a e).2) (PM M b T (Sort.partialInsertionSort lN d a e).1) →
 c [vv b d.size,N .i64 (a:Int),N .i64 (e:Int)] (PM M b T d) Q
theorem E8 (a b s i:Nat) (d:Array Nat) : Sort.partialIns lN a b (s + 1) i d =
  if Sort.scanSorted lN d b i=b then(d,true) else if b - a<50 then(d,false) else
   Sort.partialIns lN a b s (Sort.scanSorted lN d b i) (if b - Sort.scanSorted lN d b i ≥ 2 then Sort.shiftUp lN b (Sort.scanSorted lN d b i + 1) (if Sort.scanSorted lN d b i - a ≥ 2 then Sort.shiftDown lN (Sort.scanSorted lN d b i - 1) (Sort.swp d (Sort.scanSorted lN d b i) (Sort.scanSorted lN d b i - 1)) else Sort.swp d (Sort.scanSorted lN d b i) (Sort.scanSorted lN d b i - 1))
    else(if Sort.scanSorted lN d b i - a ≥ 2 then Sort.shiftDown lN (Sort.scanSorted lN d b i - 1) (Sort.swp d (Sort.scanSorted lN d b i) (Sort.scanSorted lN d b i - 1)) else Sort.swp d (Sort.scanSorted lN d b i) (Sort.scanSorted lN d b i - 1))):=rfl
theorem PN {T:Nat} {cl:ai} (hl:wH cl) : JR T fun args M Q=>∃ a0 a1 a2,args=[a0,a1,a2]∧gm cl a0 a1 a2 M Q:=by
 intro M b a e d Q hb hsz hae he hQ
 refine⟨_,_,_,rfl, ?_⟩
 unfold gm
 simp only[dP,dz,dK,bH]
 rw[add1 (by omega)]
 unfold Sort.partialInsertionSort at hQ
 obtain⟨R,hR⟩ : ∃ R,R=Sort.partialIns lN a e 5 (a + 1) d:=⟨_,rfl⟩
 rw[← hR] at hQ
 refine aG (fun m ys M3=>∃ (i s:Nat) (d3:Array Nat),m=s∧s≤5∧ys=[N .i64 (i:Int),N .i64 ((5 - s:Nat) : Int)]∧a + 1≤i∧i≤e∧M3=PM M b T d3∧d3.size=d.size∧R=Sort.partialIns lN a e s i d3) _ ⟨a + 1,5,d,rfl,by omega,rfl,by omega,by omega,rfl,rfl,hR⟩ ?_
 rintro next m ys M3 hnext ⟨i,s,d3,hms,hs5,rfl,hai,hie,rfl,hs3,hm⟩
 dsimp only[aa]
 rw[show(5:Int)=((5:Nat) : Int) from rfl,dC]
 refine aD (fun hg=>?_) (fun hg=>?_)
 ·have hg:5 - s<5:=of_decide_eq_true hg
  obtain⟨s',rfl⟩ : ∃ s',s=s' + 1:=⟨s - 1,by omega⟩
  rw[E8] at hm
  refine aT (fun zs M'=>∃ (i' : Nat) (d4:Array Nat),zs=[N .i64 (i' : Int)]∧a + 1≤i'∧i'≤e∧M'=PM M b T d4∧d4.size=d.size∧R=Sort.partialIns lN a e s' i' d4) ?_ ?_
  ·rintro zs M' ⟨i',d4,rfl,h1,h2,rfl,h3,h4⟩
   dsimp only[aa]
   rw[add1 (by omega)]
   exact hnext _ _ _ (by omega) ⟨i',s',d4,rfl,by omega,by congr 4; omega,h1,h2,rfl,h3,h4⟩
  intro J hJ
  obtain⟨R5,hR5⟩ : ∃ R5,R5=Sort.scanSorted lN d3 e i:=⟨_,rfl⟩
  rw[← hR5] at hm
  refine aG (fun m ys M5=>∃ (j:Nat),m=e - j∧ys=[N .i64 (j:Int)]∧i≤j∧j≤e∧M5=PM M b T d3∧R5=Sort.scanSorted lN d3 e j) _ ⟨i,rfl,rfl,Nat.le_refl _,hie,rfl,hR5⟩ ?_
  rintro fq m ys M5 dx ⟨j,rfl,rfl,hij,hje,rfl,hm5⟩
  dsimp only[aa]
  rw[Sort.scanSorted] at hm5
  rw[dC]
  refine Rf (p:=!lN d3[j]! d3[j - 1]!) (fun hc k hk=>?_) ?_
  ·have hc:j<e:=of_decide_eq_true hc
   rw[PM.rd hs3.symm (by omega),aZ (by omega) (by omega),PM.rd hs3.symm (by omega)]
   refine hl ?_
   rw[bu]
   exact hk
  refine aD (fun h=>?_) (fun h=>?_)
  ·have hc:j<e:=by
    rw[Bool.and_eq_true] at h
    exact of_decide_eq_true h.1
   rw[if_pos h] at hm5
   rw[add1 (by omega)]
   exact dx _ _ _ (by omega) ⟨j + 1,rfl,rfl,by omega,by omega,rfl,hm5⟩
  rw[if_neg (by rw[h]; decide)] at hm5
  subst hm5
  rw[F8]
  refine aD (fun lK=>?_) (fun lK=>?_)
  ·rw[if_pos (of_decide_eq_true lK)] at hm
   rw[hm] at hQ
   exact hQ
  have lK:¬ R5=e:=of_decide_eq_false lK
  rw[if_neg lK] at hm
  rw[df (by omega) (by omega),show(50:Int)=((50:Nat) : Int) from rfl,dC]
  refine aD (fun h50=>?_) (fun h50=>?_)
  ·rw[if_pos (of_decide_eq_true h50)] at hm
   rw[hm] at hQ
   exact hQ
  rw[if_neg (of_decide_eq_false h50)] at hm
  rw[aZ (by omega) (by omega),aZ (by omega) (by omega),PM.rd hs3.symm (by omega),PM.rd hs3.symm (by omega),PM.swap hs3.symm (by omega) (by omega)]
  have hs6:=zF (i:=R5) (j:=R5 - 1) hs3
  generalize Sort.swp d3 R5 (R5 - 1)=d6 at *
  refine aT (fun zs M'=>zs=[]∧M'=PM M b T (if R5 - a ≥ 2 then Sort.shiftDown lN (R5 - 1) d6 else d6)) ?_ ?_
  ·rintro zs M' ⟨rfl,rfl⟩
   have hs7:(if R5 - a ≥ 2 then Sort.shiftDown lN (R5 - 1) d6 else d6).size=d.size:=by
    split
    ·rw[Aj,hs6]
    ·exact hs6
   generalize (if R5 - a ≥ 2 then Sort.shiftDown lN (R5 - 1) d6 else d6)=d7 at *
   rw[df (by omega) (by omega),show(2:Int)=((2:Nat) : Int) from rfl,eY]
   refine aD (fun h2=>?_) (fun h2=>?_)
   ·rw[if_pos (of_decide_eq_true h2)] at hm
    rw[add1 (by omega)]
    have hs8:=Ez e e (R5 + 1) d7 (by omega)
    obtain⟨R8,hR8⟩ : ∃ R8,R8=Sort.shiftUp lN e (R5 + 1) d7:=⟨_,rfl⟩
    rw[← hR8] at hm hs8
    refine aG (fun m ys M8=>∃ (j:Nat) (d8:Array Nat),m=e - j∧ys=[N .i64 (j:Int)]∧R5 + 1≤j∧j≤e∧M8=PM M b T d8∧d8.size=d.size∧R8=Sort.shiftUp lN e j d8) _ ⟨R5 + 1,d7,rfl,rfl,Nat.le_refl _,by omega,rfl,hs7,hR8⟩ ?_
    rintro kW m ys M8 lL ⟨j,d8,rfl,rfl,hj1,hj2,rfl,dw,hm8⟩
    dsimp only[aa]
    rw[Sort.shiftUp] at hm8
    rw[dC]
    refine aD (fun hl1=>?_) (fun hl1=>?_)
    ·have hl1:j<e:=of_decide_eq_true hl1
     rw[if_pos hl1] at hm8
     rw[PM.rd dw.symm (by omega),aZ (by omega) (by omega),PM.rd dw.symm (by omega)]
     refine hl ?_
     rw[bu]
     refine aD (fun hn=>?_) (fun hn=>?_)
     ·rw[if_pos hn] at hm8
      subst hm8
      exact hJ _ _ ⟨R5,R8,rfl,by omega,by omega,rfl,dw,hm⟩
     ·rw[if_neg (by rw[show(!lN d8[j]! d8[j - 1]!)=false from hn]; decide)] at hm8
      rw[aZ (by omega) (by omega),aZ (by omega) (by omega),PM.rd dw.symm (by omega),PM.rd dw.symm (by omega),PM.swap dw.symm (by omega) (by omega),add1 (by omega)]
      exact lL _ _ _ (by omega) ⟨j + 1,_,rfl,rfl,by omega,by omega,rfl,zF dw,hm8⟩
    ·rw[if_neg (of_decide_eq_false hl1)] at hm8
     subst hm8
     exact hJ _ _ ⟨R5,R8,rfl,by omega,by omega,rfl,dw,hm⟩
   ·rw[if_neg (of_decide_eq_false h2)] at hm
    exact hJ _ _ ⟨R5,d7,rfl,by omega,by omega,rfl,hs7,hm⟩
  intro J2 hJ2
  rw[df (by omega) (by omega),show(2:Int)=((2:Nat) : Int) from rfl,eY]
  refine aD (fun h2=>?_) (fun h2=>?_)
  ·rw[if_pos (of_decide_eq_true h2)] at hJ2
   rw[aZ (by omega) (by omega)]
   obtain⟨R8,hR8⟩ : ∃ R8,R8=Sort.shiftDown lN (R5 - 1) d6:=⟨_,rfl⟩
   rw[← hR8] at hJ2
   refine aG (fun m ys M8=>∃ (j:Nat) (d8:Array Nat),m=j + 1∧ys=[N .i64 (j:Int)]∧j<R5∧M8=PM M b T d8∧d8.size=d.size∧R8=Sort.shiftDown lN j d8) _ ⟨R5 - 1,d6,rfl,rfl,by omega,rfl,hs6,hR8⟩ ?_
   rintro kW m ys M8 lL ⟨j,d8,rfl,rfl,hj1,rfl,dw,hm8⟩
   dsimp only[aa]
   rw[show(1:Int)=((1:Nat) : Int) from rfl,eY]
   refine aD (fun hl1=>?_) (fun hl1=>?_)
   ·have hl1:j ≥ 1:=of_decide_eq_true hl1
    obtain⟨j',rfl⟩ : ∃ j',j=j' + 1:=⟨j - 1,by omega⟩
    rw[Sort.shiftDown] at hm8
    rw[PM.rd dw.symm (by omega),df (by omega) (by omega),Nat.add_sub_cancel,PM.rd dw.symm (by omega)]
    refine hl ?_
    rw[bu]
    refine aD (fun hn=>?_) (fun hn=>?_)
    ·rw[if_pos hn] at hm8
     subst hm8
     exact hJ2 _ _ ⟨rfl,rfl⟩
    ·rw[if_neg (by rw[show(!lN d8[j' + 1]! d8[j']!)=false from hn]; decide)] at hm8
     rw[df (by omega) (by omega),df (by omega) (by omega),Nat.add_sub_cancel,PM.rd dw.symm (by omega),PM.rd dw.symm (by omega),PM.swap dw.symm (by omega) (by omega),df (by omega) (by omega),Nat.add_sub_cancel]
     exact lL _ _ _ (by omega) ⟨j',_,rfl,rfl,by omega,rfl,zF dw,hm8⟩
   ·have hl1:¬ j ≥ 1:=of_decide_eq_false hl1
    have h0:j=0:=by omega
    subst h0
    rw[Sort.shiftDown] at hm8
    subst hm8
    exact hJ2 _ _ ⟨rfl,rfl⟩
  ·rw[if_neg (of_decide_eq_false h2)] at hJ2
   exact hJ2 _ _ ⟨rfl,rfl⟩
 ·have hg:¬ 5 - s<5:=of_decide_eq_false hg
  have h0:s=0:=by omega
  subst h0
  rw[Sort.partialIns] at hm
  rw[hm] at hQ
  exact hQ
def Wj (P:List Nat→Prop) (f:List Nat→List Nat) (T:Nat) (c:ai) : Prop:=∀ {M:RM} {base:Nat} {v:AV} {xs:List Nat} {Q:ak},Ow bn M base T v xs→P xs→(∀ M',Ow bn M' base T v (f xs)→ag (aI v) M M'→Q (.tup []) M')→c [v] M Q
def Jf (P:List Nat→Prop) (f:List Nat→List Nat) (T:Nat) (c:ai) : Prop:=∀ {M:RM} {base:Nat} {v:AV} {xs:List Nat} {Q:ak},Ow bn M base T v xs→P xs→(∀ v' M',Sl bn M' v' (f xs)→lT v'→(∀ d∈aI v',d∈aI v)→ag (aI v) M M'→Q v' M')→c [v] M Q
def Wy (T:Nat) (c:ai) : Prop:=∀ {M:RM} {n:Nat} {Q:ak},n≤10000000→(n=0→Q bB M) →
 (0<n→∀ b M',M.next≤b→b<M'.next→M'.heap b=some (.row (bU [N .u64 0] n) true T 0)→ag [] M M'→Q (.slc b 0 0 (.op 1)) M')→c [bB,N .i64 (n:Int)] M Q
theorem Yr {TS T:Nat} : Wy T fun args M Q=>∃ a0 a1,args=[a0,a1]∧xV TS T a0 a1 M Q:=by
 intro M n Q hn h0 h1
 refine⟨_,_,rfl, ?_⟩
 unfold xV
 rw[wC,dD,show decide ((n:Int)<0)=false by simp,bz]
 dsimp only
 rw[wC]
 have hcap:∀ K:AV→Prop,BJ bB K=K (N .i64 0):=fun K=>by
  unfold BJ
  exact propext ⟨fun⟨m,h,k⟩=>by cases h; exact k,fun k=>⟨0,rfl,k⟩⟩
 rw[hcap,Jt,eT,show IntKind.wrap .i64 ((0:Int) - 0)=0 from by rw[aS] <;> decide,eT,Int.sub_zero,aS (by omega) (by omega),iQ]
 dsimp only[aa]
 by_cases hz:n=0
 ·rw[show decide ((n:Int) > 0)=false by simp; omega,bz]
  exact h0 hz
 ·rw[show decide ((n:Int) > 0)=true by simp; omega,cO,hcap,show bZ 1 bB none (some (N .i64 0)) none=some bB by simp[bZ,bnd],dO]
  have hr:=qp n
  refine zJ (base:=M.next) (m:=n) (ds:=bU [N .u64 0] n) .nil (Nat.le_refl _) (Nat.le_refl _) (by simp[nK]) (by rw[hr.1,Nat.mul_one]) hr.2 (by omega) (by omega) ?_
  intro v' M' o k _ _
  rw[Nat.zero_add] at o
  obtain⟨b,rfl,q1,q2,q3,q4⟩:=Own.uK o (by omega)
  rw[Jt,show bZ 1 (.slc b 0 n (.op 1)) none (some (N .i64 0)) none=some (.slc b 0 0 (.op 1)) by simp[bZ,bnd]; omega,dO]
  exact h1 (by omega) b M' q1 q2 (by simpa using q3) (by simpa [aI] using k)
theorem Eh (p:Nat→Bool) (d:Array Nat) (J:Nat) : ∀ (n i:Nat),J + 1 - i≤n→i≤Sort.scanUp p d J i∧Sort.scanUp p d J i≤max (J + 1) i
 | 0,i,h=>by
   rw[Sort.scanUp,if_neg (by simp; omega)]; omega
 | n + 1,i,h=>by
   rw[Sort.scanUp]
   split
   ·rename_i hc
    rw[Bool.and_eq_true] at hc
    have:=of_decide_eq_true hc.1
    have:=Eh p d J n (i + 1) (by omega)
    omega
   ·omega
theorem zV (p:Nat→Bool) (d:Array Nat) (i:Nat) : ∀ j,Sort.scanDown p d i j≤j
 | 0=>Nat.le_refl _
 | j + 1=>by
   rw[Sort.scanDown]
   split
   ·have:=zV p d i j; omega
   ·omega
theorem CJ (a:Nat) : ∀ (n i j:Nat) (d:Array Nat),j + 1 - i≤n→i≤(Sort.partEqLoop lN a i j d).1∧(Sort.partEqLoop lN a i j d).1≤max (j + 1) i∧(Sort.partEqLoop lN a i j d).2.size=d.size
 | n,i,j,d,h=>by
   have h1:=Eh (fun x=>!lN d[a]! x) d j _ i (Nat.le_refl _)
   have h2:=zV (fun x=>lN d[a]! x) d (Sort.scanUp (fun x=>!lN d[a]! x) d j i) j
   rw[Sort.partEqLoop]
   generalize Sort.scanUp (fun x=>!lN d[a]! x) d j i=i2 at *
   generalize Sort.scanDown (fun x=>lN d[a]! x) d i2 j=j2 at *
   split
   ·exact⟨h1.1,h1.2,rfl⟩
   ·split
    ·cases n with
     | zero=>omega
     | succ n =>
       have h3:=CJ a n (i2 + 1) (j2 - 1) (Sort.swp d i2 j2) (by omega)
       rw[eB] at h3
       omega
    ·exact⟨h1.1,h1.2,rfl⟩
theorem Ir (a:Nat) : ∀ (n i j:Nat) (d:Array Nat),j + 1 - i≤n→(Sort.partLoop lN a i j d).1≤j∧(Sort.partLoop lN a i j d).2.size=d.size
 | n,i,j,d,h=>by
   have h1:=Eh (fun x=>lN x d[a]!) d j _ i (Nat.le_refl _)
   have h2:=zV (fun x=>!lN x d[a]!) d (Sort.scanUp (fun x=>lN x d[a]!) d j i) j
   rw[Sort.partLoop]
   generalize Sort.scanUp (fun x=>lN x d[a]!) d j i=i2 at *
   generalize Sort.scanDown (fun x=>!lN x d[a]!) d i2 j=j2 at *
   split
   ·exact⟨h2,rfl⟩
   ·split
    ·cases n with
     | zero=>omega
     | succ n =>
       have h3:=Ir a n (i2 + 1) (j2 - 1) (Sort.swp d i2 j2) (by omega)
       rw[eB] at h3
       exact⟨by omega,h3.2⟩
    ·exact⟨h2,rfl⟩
theorem El (a e:Nat) : ∀ (s i:Nat) (d:Array Nat),(Sort.partialIns lN a e s i d).1.size=d.size
 | 0,i,d=>rfl
 | s + 1,i,d=>by
   rw[E8]
   split
   ·rfl
   ·split
    ·rfl
    ·rw[El a e s]
     have h1:∀ x,(if x - a ≥ 2 then Sort.shiftDown lN (x - 1) (Sort.swp d x (x - 1)) else Sort.swp d x (x - 1)).size=d.size:=fun x=>by
      split
      ·rw[Aj,eB]
      ·rw[eB]
     split
     ·rw[Ez e e _ _ (by omega),h1]
     ·rw[h1]
theorem Z5 {x:Nat} (h:256≤x) : Sort.bitsLen x=Sort.bitsLen (x / 256) + 8:=by
 have h0:x / 256≠0:=by omega
 unfold Sort.bitsLen
 rw[if_neg (by omega),if_neg h0]
 have h1:=(Nat.log2_eq_iff h0 (k:=(x / 256).log2)).1 rfl
 have h2:x.log2=(x / 256).log2 + 8:=by
  rw[Nat.log2_eq_iff (by omega)]
  rw[show(x / 256).log2 + 8 + 1=((x / 256).log2 + 1) + 8 by omega,Nat.pow_add,Nat.pow_add _ ((x / 256).log2 + 1)]
  generalize 2 ^ (x / 256).log2=u at *
  generalize 2 ^ ((x / 256).log2 + 1)=v at *
  omega
 omega
theorem Yf {tab:List UInt8} {x:Nat} (h:(List.range 256).all (fun i=>tab[i]? == some (UInt8.ofNat (Sort.bitsLen i)))=true) (hx:x<256) : tab[x]?=some (UInt8.ofNat (Sort.bitsLen x)):=by
 have:=List.all_eq_true.1 h x (List.mem_range.2 hx)
 exact eq_of_beq this
theorem abW {x:Nat} (h:x<256) : Sort.bitsLen x≤8:=by
 unfold Sort.bitsLen
 split
 ·omega
 ·rename_i h0
  have:=(Nat.log2_lt h0 (k:=8)).2 (by omega)
  omega
def BB (c:ai) : Prop:=∀ {M:RM} {x:Nat} {Q:ak},x<65536→Q (N .i64 (Sort.bitsLen x:Nat)) M→c [N .u64 (x:Int)] M Q
theorem TC:BB fun args M Q=>∃ a0,args=[a0]∧ru a0 M Q:=by
 intro M x Q hx hQ
 refine⟨_,rfl, ?_⟩
 unfold ru
 rw[wC,fU,show decide ((x:Int) ≥ 4294967296)=false by simp; omega,bz]
 dsimp only[aa]
 rw[wC,fU,show decide ((x:Int) ≥ 65536)=false by simp; omega,bz]
 dsimp only[aa]
 rw[wC,fU]
 have fin:∀ (y z:Nat),y<256→z≤8→Sort.bitsLen x=z + Sort.bitsLen y→lG .u8 (N .u64 (y:Int)) fun t21=>RU (St [0,1,2,2,3,3,3,3,4,4,4,4,4,4,4,4,5,5,5,5,5,5,5,5,5,5,5,5,5,5,5,5,6,6,6,6,6,6,6,6,6,6,6,6,6,6,6,6,6,6,6,6,6,6,6,6,6,6,6,6,6,6,6,6,7,7,7,7,7,7,7,7,7,7,7,7,7,7,7,7,7,7,7,7,7,7,7,7,7,7,7,7,7,7,7,7,7,7,7,7,7,7,7,7,7,7,7,7,7,7,7,7,7,7,7,7,7,7,7,7,7,7,7,7,7,7,7,7,8,8,8,8,8,8,8,8,8,8,8,8,8,8,8,8,8,8,8,8,8,8,8,8,8,8,8,8,8,8,8,8,8,8,8,8,8,8,8,8,8,8,8,8,8,8,8,8,8,8,8,8,8,8,8,8,8,8,8,8,8,8,8,8,8,8,8,8,8,8,8,8,8,8,8,8,8,8,8,8,8,8,8,8,8,8,8,8,8,8,8,8,8,8,8,8,8,8,8,8,8,8,8,8,8,8,8,8,8,8,8,8,8,8,8,8,8,8,8,8,8,8,8,8,8,8,8,8]) t21 fun t22 =>
   lG .i64 t22 fun t23=>af .add (N .i64 (z:Int)) t23 fun t24=>Q t24 M:=fun y z hy hz e=>by
  rw[jQ,VS (by omega) (by omega),acm]
  refine⟨by omega, ?_⟩
  rw[Int.toNat_natCast]
  refine⟨_,Yf (by kernel_rfl) hy, ?_⟩
  have hb:=abW hy
  have hu:(UInt8.ofNat (Sort.bitsLen y)).toNat=Sort.bitsLen y:=by rw[UInt8.toNat_ofNat']; omega
  rw[hu,jQ,aS (by omega) (by omega),addN (by omega),← e]
  exact hQ
 by_cases h:x ≥ 256
 ·rw[show decide ((x:Int) ≥ 256)=true by simp; omega,cO]
  dsimp only[aa]
  rw[Hy]
  refine⟨by decide, ?_⟩
  rw[show(8:Int)=((8:Nat) : Int) from rfl,JE _ _ _ (by decide),cZ,Int.zero_add,aS (by omega) (by omega)]
  exact fin (x / 256) 8 (by omega) (by omega) (by rw[Z5 h]; omega)
 ·rw[show decide ((x:Int) ≥ 256)=false by simp; omega,bz]
  dsimp only[aa]
  exact fin x 0 (by omega) (by omega) (by omega)
theorem X6 {c3 c6:ai} (h6:BB c6) : BB fun args M Q=>∃ a0,args=[a0]∧uU c3 c6 a0 M Q:=by
 intro M x Q hx hQ
 refine⟨_,rfl, ?_⟩
 unfold uU
 rw[bz]
 exact h6 hx hQ
def XM (M:RM) (s T:Nat) (r:UInt64) : RM:=M.put s (.row [N .u64 (r.toNat:Int)] false T 0)
theorem XM.put {M:RM} {s T:Nat} {r r' : UInt64} : (XM M s T r).put s (.row [N .u64 (r'.toNat:Int)] false T 0)=XM M s T r':=by
 unfold XM RM.put
 congr 1
 funext c
 simp only
 by_cases h:c=s <;> simp[h]
theorem XM.new {M:RM} {T:Nat} {x:RB} {r:UInt64} : (M.push x).put M.next (.row [N .u64 (r.toNat:Int)] false T 0)=XM (M.push x) M.next T r:=rfl
theorem G7 {r k:UInt64} {n:Nat} (hk:k.toNat=n) (h:n<64) : XN .u64 (r.toNat:Int) (n:Int)=((r <<< k).toNat:Int):=by
 rw[RX rfl _ _ (by show n≤64; omega),UInt64.toNat_shiftLeft,hk,Nat.mod_eq_of_lt h,Nat.shiftLeft_eq]; rfl
theorem U0 {r k:UInt64} {n:Nat} (hk:k.toNat=n) (h:n<64) : Tj .u64 (r.toNat:Int) (n:Int)=((r >>> k).toNat:Int):=by
 rw[JE _ _ _ (by show n≤64; omega),UInt64.toNat_shiftRight,hk,Nat.mod_eq_of_lt h,Nat.shiftRight_eq_div_pow]
theorem u64_xor (a b:UInt64) : VX .u64 (a.toNat:Int) (b.toNat:Int)=((a ^^^ b).toNat:Int):=by
 rw[aba rfl,← UInt64.toNat_xor]
 have:=(a ^^^ b).toNat_lt
 rw[Nat.mod_eq_of_lt (by show _<2 ^ 64; omega)]
def aaL (T TX:Nat) (c:ai) : Prop:=∀ {M:RM} {b s:Nat} {r:UInt64} {d:Array Nat} {Q:ak},s≠b→Q (N .u64 ((Sort.xorNext r).toNat:Int)) (PM (XM M s TX (Sort.xorNext r)) b T d)→c [.ptr s 0] (PM (XM M s TX r) b T d) Q
theorem aas {T TX:Nat} : aaL T TX fun args M Q=>∃ a0,args=[a0]∧mh a0 M Q:=by
 intro M b s r d Q hsb hQ
 refine⟨_,rfl, ?_⟩
 unfold mh
 have hh:∀ r,(PM (XM M s TX r) b T d).heap s=some (.row [N .u64 (r.toNat:Int)] false TX 0):=fun r=>by rw[PM.Lg hsb]; exact RM.vO _ _
 have st:∀ (r r' : UInt64) (K:RM→Prop),aC (PM (XM M s TX r) b T d) (.ptr s 0) (N .u64 (r'.toNat:Int)) 1 K=K (PM (XM M s TX r') b T d):=fun r r' K=>by
  rw[dV (hh r) (by simp) rfl rfl,PM.XI hsb]
  rw[show([N .u64 (r.toNat:Int)] : List AV).set 0 (N .u64 (r'.toNat:Int))=[N .u64 (r'.toNat:Int)] from rfl,XM.put]
 rw[aU,aA (hh r) rfl,aU,aA (hh r) rfl,CQ]
 refine⟨by decide, ?_⟩
 rw[show(13:Int)=((13:Nat) : Int) from rfl,G7 (k:=13) (n:=13) rfl (by decide),vD,u64_xor,aU,st]
 rw[aU,aA (hh _) rfl,aU,aA (hh _) rfl,Hy]
 refine⟨by decide, ?_⟩
 rw[show(7:Int)=((7:Nat) : Int) from rfl,U0 (k:=7) (n:=7) rfl (by decide),vD,u64_xor,aU,st]
 rw[aU,aA (hh _) rfl,aU,aA (hh _) rfl,CQ]
 refine⟨by decide, ?_⟩
 rw[show(17:Int)=((17:Nat) : Int) from rfl,G7 (k:=17) (n:=17) rfl (by decide),vD,u64_xor,aU,st]
 rw[aU,aA (hh _) rfl]
 exact hQ
def Nw (c:ai) : Prop:=∀ {M:RM} {x:Nat} {Q:ak},0<x→x<65536→Q (N .u64 ((2 ^ Sort.bitsLen x:Nat) : Int)) M→c [N .i64 (x:Int)] M Q
theorem qG {x:Nat} (h0:0<x) (h:x<65536) : Sort.bitsLen x≤16∧2 ^ Sort.bitsLen x≤2 * x∧x<2 ^ Sort.bitsLen x:=by
 unfold Sort.bitsLen
 rw[if_neg (by omega)]
 have h1:=(Nat.log2_eq_iff (show x≠0 by omega) (k:=x.log2)).1 rfl
 have h2:=(Nat.log2_lt (show x≠0 by omega) (k:=16)).2 (by omega)
 rw[Nat.pow_succ] at *
 omega
theorem aaK {cl:ai} (hl:BB cl) : Nw fun args M Q=>∃ a0,args=[a0]∧sJ cl a0 M Q:=by
 intro M x Q h0 hx hQ
 refine⟨_,rfl, ?_⟩
 unfold sJ
 have hb:=qG h0 hx
 rw[jQ,fJ (by omega) (by omega)]
 refine hl hx ?_
 rw[CQ]
 refine⟨by omega, ?_⟩
 rw[show(1:Int)=((1:Nat) : Int) from rfl,RX rfl _ _ (by show Sort.bitsLen x≤64; omega),Nat.one_mul]
 have:2 ^ Sort.bitsLen x<2 ^ 64:=Nat.pow_lt_pow_right (by decide) (by omega)
 rw[Nat.mod_eq_of_lt (by exact this)]
 exact hQ
def ET (a l m i0:Nat) (d:Array Nat) : Nat→UInt64 × Array Nat
 | 0=>(UInt64.ofNat l,d)
 | k + 1=>Sort.breakStep a l m (ET a l m i0 d k) (i0 + k)
theorem Ya (a l m i0:Nat) (d:Array Nat) : ∀ k,(ET a l m i0 d k).2.size=d.size
 | 0=>rfl
 | k + 1=>by
   rw[ET,Sort.breakStep]
   show(Sort.swp _ _ _).size=_
   rw[eB,Ya a l m i0 d k]
def Sr (T:Nat) (c:ai) : Prop:=∀ {M:RM} {b a e:Nat} {d:Array Nat} {Q:ak},b<M.next→d.size≤60000→a≤e→e≤d.size→(∀ M',ag [] M M'→Q (.tup []) (PM M' b T (Sort.breakPatterns d a e))) →
 c [vv b d.size,N .i64 (a:Int),N .i64 (e:Int)] (PM M b T d) Q
theorem VK {T TX:Nat} {cp cx:ai} (hp:Nw cp) (hx:aaL T TX cx) : Sr T fun args M Q=>∃ a0 a1 a2,args=[a0,a1,a2]∧jf TX cp cx a0 a1 a2 M Q:=by
 intro M b a e d Q hb hsz hae he hQ
 refine⟨_,_,_,rfl, ?_⟩
 unfold jf
 simp only[bH]
 rw[df hae (by omega),show(8:Int)=((8:Nat) : Int) from rfl,eY]
 unfold Sort.breakPatterns at hQ
 refine aD (fun h8=>?_) (fun h8=>?_)
 ·have h8:e - a ≥ 8:=of_decide_eq_true h8
  rw[if_pos h8] at hQ
  have hbl:=qG (x:=e - a) (by omega) (by omega)
  rw[jQ,fJ (by omega) (by omega),aX,PM.push hb]
  have hnx:(PM M b T d).next=M.next:=rfl
  rw[hnx]
  have hsb:M.next≠b:=by omega
  have kk:ag [] M (M.push (.row [(N .u64 0)] false TX 0)):=(ag.refl _ _).push _
  have kS:∀ r,ag [] M (XM (M.push (.row [(N .u64 0)] false TX 0)) M.next TX r):=fun r=>kk.new _ (Nat.le_refl _)
  have hh0:(PM (M.push (.row [(N .u64 0)] false TX 0)) b T d).heap M.next=some (.row [N .u64 0] false TX 0):=by rw[PM.Lg hsb]; exact RM.aQ _
  have JY:(UInt64.ofNat (e - a)).toNat=e - a:=by rw[UInt64.toNat_ofNat']; omega
  rw[dV hh0 (by simp) rfl rfl,PM.XI hsb]
  rw[show([N .u64 0] : List AV).set 0 (N .u64 ((e - a:Nat) : Int))=[N .u64 ((UInt64.ofNat (e - a)).toNat:Int)] by rw[JY]; rfl,XM.new]
  generalize M.push (.row [(N .u64 0)] false TX 0)=M1 at *
  generalize M.next=s at *
  refine hp (by omega) (by omega) ?_
  have hq:∀ (c:Int),c=((2:Nat) : Int)→∀ (K:AV→Prop),(af .quo (N .i64 ((e - a:Nat) : Int)) (N .i64 4) fun t18=>af .mul t18 (N .i64 c) fun t19=>af .add (N .i64 (a:Int)) t19 K)=K (N .i64 ((a + (e - a) / 4 * 2:Nat) : Int)):=fun c hc K=>by
   subst hc
   rw[gK,show(4:Int)=((4:Nat) : Int) from rfl,jE,aS (by omega) (by omega),nZ,← Int.natCast_mul,aS (by omega) (by omega),addN (by omega)]
   exact propext ⟨fun h=>h.2,fun h=>⟨by decide,h⟩⟩
  rw[hq 2 rfl,aZ (by omega) (by omega)]
  have JZ:(Sort.breakStep a (e - a) (1 <<< Sort.bitsLen (e - a)) (Sort.breakStep a (e - a) (1 <<< Sort.bitsLen (e - a)) (Sort.breakStep a (e - a) (1 <<< Sort.bitsLen (e - a)) (UInt64.ofNat (e - a),d) (a + (e - a) / 4 * 2 - 1)) (a + (e - a) / 4 * 2 - 1 + 1)) (a + (e - a) / 4 * 2 - 1 + 2)).2=(ET a (e - a) (2 ^ Sort.bitsLen (e - a)) (a + (e - a) / 4 * 2 - 1) d 3).2:=by
   rw[Nat.shiftLeft_eq,Nat.one_mul]; rfl
  have hQ:∀ M',ag [] M M'→Q (.tup []) (PM M' b T (ET a (e - a) (2 ^ Sort.bitsLen (e - a)) (a + (e - a) / 4 * 2 - 1) d 3).2):=fun M' k=>by
   have:=hQ M' k
   rw[← JZ]; exact this
  generalize hmd:2 ^ Sort.bitsLen (e - a)=md at *
  generalize hi0:a + (e - a) / 4 * 2 - 1=i0 at *
  refine aG (fun m ys M3=>∃ (k:Nat),m=3 - k∧k≤3∧ys=[N .i64 ((i0 + k:Nat) : Int)]∧M3=PM (XM M1 s TX (ET a (e - a) md i0 d k).1) b T (ET a (e - a) md i0 d k).2) _ ⟨0,rfl,by omega,rfl,rfl⟩ ?_
  rintro next m ys M3 hnext ⟨k,rfl,hk,rfl,rfl⟩
  dsimp only[aa]
  have hsk:=Ya a (e - a) md i0 d k
  have JQ:ET a (e - a) md i0 d (k + 1)=Sort.breakStep a (e - a) md (ET a (e - a) md i0 d k) (i0 + k):=rfl
  generalize Ka:ET a (e - a) md i0 d k=st at *
  rw[hq 2 rfl,add1 (by omega),gU]
  refine aD (fun hg=>?_) (fun hg=>?_)
  ·have hg:i0 + k≤a + (e - a) / 4 * 2 + 1:=of_decide_eq_true hg
   refine aT (fun zs M'=>M'=PM (XM M1 s TX (ET a (e - a) md i0 d (k + 1)).1) b T (ET a (e - a) md i0 d (k + 1)).2) ?_ ?_
   ·rintro zs M' rfl
    rw[add1 (by omega)]
    exact hnext _ _ _ (by omega) ⟨k + 1,rfl,by omega,rfl,rfl⟩
   intro J hJ
   refine hx hsb ?_
   rw[JQ] at hJ
   unfold Sort.breakStep at hJ
   dsimp only at hJ
   generalize Sort.xorNext st.1=r at *
   rw[eT,fJ (by omega) (by omega),show(md:Int) - 1=((md - 1:Nat) : Int) by omega,AA,Ea rfl]
   have hlt:r.toNat &&& (md - 1)<md:=by
    rw[← hmd,Nat.and_two_pow_sub_one_eq_mod]
    exact Nat.mod_lt _ (by rw[hmd]; omega)
   rw[Nat.mod_eq_of_lt (show r.toNat &&& (md - 1)<2 ^ wI .u64 by show _<2 ^ 64; omega)]
   generalize r.toNat &&& (md - 1)=o at *
   rw[jQ,aS (by omega) (by omega)]
   refine aT (fun zs M'=>zs=[N .i64 (((if o ≥ e - a then o - (e - a) else o) : Nat) : Int)]∧M'=PM (XM M1 s TX r) b T st.2) ?_ ?_
   ·rintro zs M' ⟨rfl,rfl⟩
    dsimp only[aa]
    have ho:(if o ≥ e - a then o - (e - a) else o)<e - a:=by split <;> omega
    generalize (if o ≥ e - a then o - (e - a) else o)=o2 at *
    rw[addN (by omega),addN (by omega),PM.rd hsk.symm (by omega),PM.rd hsk.symm (by omega),PM.swap hsk.symm (by omega) (by omega)]
    exact hJ _ _ rfl
   intro J4 hJ4
   rw[eY]
   refine aD (fun hg2=>?_) (fun hg2=>?_)
   ·have hg2:o ≥ e - a:=of_decide_eq_true hg2
    rw[df (by omega) (by omega)]
    exact hJ4 _ _ ⟨by rw[if_pos hg2],rfl⟩
   ·exact hJ4 _ _ ⟨by rw[if_neg (of_decide_eq_false hg2)],rfl⟩
  ·have hg:¬ i0 + k≤a + (e - a) / 4 * 2 + 1:=of_decide_eq_false hg
   have h3:k=3:=by omega
   subst h3
   rw[Ka] at hQ
   exact hQ _ (kS _)
 ·rw[if_neg (of_decide_eq_false h8)] at hQ
  exact hQ M (ag.refl _ _)
theorem Qy:Sort.SWO lN where
 irrefl x:=by simp[lN]
 trans x y z:=by simp[lN]; omega
 ntrans x y z:=by simp[lN]; omega
def Sm (d3:Array Nat) (a e pv limit:Nat) (wb wp:Bool) : Array Nat :=
 if a > 0 && !lN d3[a - 1]! d3[pv]! then
  match Sort.partitionEqual lN d3 a e pv with
  | (mid,d4)=>if _h:a<mid∧mid≤e then Sort.pdq lN d4 mid e limit wb wp else d4
 else
  match Sort.partition lN d3 a e pv with
  | (mid,ap,d4) =>
    if _h:a≤mid∧mid<e then
     if mid - a<e - mid then Sort.pdq lN (Sort.pdq lN d4 a mid limit true true) (mid + 1) e limit (decide (mid - a ≥ (e - a) / 8)) ap
     else Sort.pdq lN (Sort.pdq lN d4 (mid + 1) e limit true true) a mid limit (decide (e - mid ≥ (e - a) / 8)) ap
    else d4
def aaz (pi:Array Nat × Bool) (a e pv limit:Nat) (wb wp:Bool) : Array Nat:=if pi.2 then pi.1 else Sm pi.1 a e pv limit wb wp
def ZW (d2:Array Nat) (a e pv:Nat) (hint:Sort.Hint) (limit:Nat) (wb wp:Bool) : Array Nat :=
 aaz (if wb && wp && hint=.increasing then Sort.partialInsertionSort lN d2 a e else(d2,false)) a e pv limit wb wp
def aaU (d1:Array Nat) (a e limit:Nat) (wb wp:Bool) : Array Nat :=
 ZW (if (Sort.choosePivot lN d1 a e).2=.decreasing then Sort.reverseRange d1 a e else d1) a e (if (Sort.choosePivot lN d1 a e).2=.decreasing then(e - 1) - ((Sort.choosePivot lN d1 a e).1 - a) else(Sort.choosePivot lN d1 a e).1)
  (if (Sort.choosePivot lN d1 a e).2=.decreasing then .increasing else(Sort.choosePivot lN d1 a e).2) limit wb wp
theorem pdq_eq (d:Array Nat) (a e limit:Nat) (wb wp:Bool) : Sort.pdq lN d a e limit wb wp =
  if e - a≤12 then Sort.insertionSort lN d a e else if limit=0 then Sort.heapSort lN d a e else aaU (if !wb then Sort.breakPatterns d a e else d) a e (if !wb then limit - 1 else limit) wb wp:=by
 rw[Sort.pdq]; rfl
theorem IJ (a e:Nat) : ∀ (k i:Nat) (d:Array Nat),e - i≤k→(Sort.insOuter lN a e i d).size=d.size
 | 0,i,d,h=>by rw[Sort.insOuter,if_neg (by omega)]
 | k + 1,i,d,h=>by
   rw[Sort.insOuter]
   split
   ·rw[IJ a e k _ _ (by omega),Iy]
   ·rfl
theorem adP (d:Array Nat) (a e:Nat) : (Sort.insertionSort lN d a e).size=d.size:=IJ a e _ _ _ (Nat.le_refl _)
theorem Yp (first:Nat) : ∀ (k:Nat) (d:Array Nat),(Sort.heapPop lN first k d).size=d.size
 | 0,d=>rfl
 | k + 1,d=>by rw[Sort.heapPop,Yp first k,zH _ _ k _ _ (by omega),eB]
theorem Z8 (d:Array Nat) (a e:Nat) : (Sort.heapSort lN d a e).size=d.size:=by rw[Sort.heapSort,Yp,Sn]
theorem LM:∀ (k i j:Nat) (d:Array Nat),j - i≤k→(Sort.reverseLoop i j d).size=d.size
 | 0,i,j,d,h=>by rw[Sort.reverseLoop,if_neg (by omega)]
 | k + 1,i,j,d,h=>by
   rw[Sort.reverseLoop]
   split
   ·rw[LM k _ _ _ (by omega),eB]
   ·rfl
theorem YW (d:Array Nat) (a e:Nat) : (Sort.reverseRange d a e).size=d.size:=LM _ _ _ _ (Nat.le_refl _)
theorem AB (a l m:Nat) (st:UInt64 × Array Nat) (i:Nat) : (Sort.breakStep a l m st i).2.size=st.2.size:=eB _ _ _
theorem Q9 (d:Array Nat) (a e:Nat) : (Sort.breakPatterns d a e).size=d.size:=by
 unfold Sort.breakPatterns
 dsimp only
 split
 ·rw[AB,AB,AB]
 ·rfl
theorem Su (d:Array Nat) (a e pv:Nat) (h:a<e) : (Sort.partitionEqual lN d a e pv).2.size=d.size∧a<(Sort.partitionEqual lN d a e pv).1∧(Sort.partitionEqual lN d a e pv).1≤e:=by
 unfold Sort.partitionEqual
 have:=CJ a _ (a + 1) (e - 1) (Sort.swp d a pv) (Nat.le_refl _)
 rw[eB] at this
 omega
theorem Vo (d:Array Nat) (a e pv:Nat) : (Sort.partition lN d a e pv).2.2.size=d.size:=by
 rw[GG]
 split
 ·show(Sort.swp _ _ _).size=_
  rw[eB,eB]
 ·show(Sort.swp _ _ _).size=_
  rw[eB,(Ir a _ _ _ _ (Nat.le_refl _)).2,eB,eB]
theorem Ak:∀ (n:Nat) (d:Array Nat) (a e limit:Nat) (wb wp:Bool),e - a≤n→(Sort.pdq lN d a e limit wb wp).size=d.size
 | n,d,a,e,limit,wb,wp,hn=>by
   rw[pdq_eq]
   split
   ·exact adP d a e
   split
   ·exact Z8 d a e
   have h1:(if !wb then Sort.breakPatterns d a e else d).size=d.size:=by split; exact Q9 d a e; rfl
   rw[← h1]
   generalize (if !wb then Sort.breakPatterns d a e else d)=d1
   unfold aaU
   have h2:(if (Sort.choosePivot lN d1 a e).2=.decreasing then Sort.reverseRange d1 a e else d1).size=d1.size:=by split; exact YW d1 a e; rfl
   rw[← h2]
   generalize (if (Sort.choosePivot lN d1 a e).2=.decreasing then Sort.reverseRange d1 a e else d1)=d2
   generalize (if (Sort.choosePivot lN d1 a e).2=.decreasing then(e - 1) - ((Sort.choosePivot lN d1 a e).1 - a) else(Sort.choosePivot lN d1 a e).1)=pv
   generalize (if (Sort.choosePivot lN d1 a e).2=.decreasing then Sort.Hint.increasing else(Sort.choosePivot lN d1 a e).2)=hint
   unfold ZW
   have h3:(if wb && wp && hint=.increasing then Sort.partialInsertionSort lN d2 a e else(d2,false)).1.size=d2.size:=by
    split
    ·exact El a e _ _ _
    ·rfl
   rw[← h3]
   generalize (if wb && wp && hint=.increasing then Sort.partialInsertionSort lN d2 a e else(d2,false))=pi
   unfold aaz
   split
   ·rfl
   unfold Sm
   have hE:=Su pi.1 a e pv
   have hP:=Vo pi.1 a e pv
   generalize Sort.partitionEqual lN pi.1 a e pv=pe at *
   generalize Sort.partition lN pi.1 a e pv=pp at *
   obtain⟨mid,d4⟩:=pe
   obtain⟨afA,ap,d5⟩:=pp
   cases n with
   | zero=>omega
   | succ n =>
     split
     ·dsimp only
      split
      ·rw[Ak n _ _ _ _ _ _ (by omega)]
       exact(hE (by omega)).1
      ·exact(hE (by omega)).1
     ·dsimp only at hP ⊢
      split
      ·split
       ·rw[Ak n _ _ _ _ _ _ (by omega),Ak n _ _ _ _ _ _ (by omega)]; exact hP
       ·rw[Ak n _ _ _ _ _ _ (by omega),Ak n _ _ _ _ _ _ (by omega)]; exact hP
      ·exact hP
def Wt (T m:Nat) (c:ai) : Prop:=∀ {M:RM} {b a e limit:Nat} {d:Array Nat} {Q:ak},b<M.next→d.size≤60000→a≤e→e≤d.size→e - a<m→limit≤1000000→(∀ M',ag [] M M'→Q (.tup []) (PM M' b T (Sort.pdq lN d a e limit true true))) →
 c [vv b d.size,N .i64 (a:Int),N .i64 (e:Int),N .i64 (limit:Int)] (PM M b T d) Q
theorem Y4 {T m:Nat} {ci ch cb cc cr cp cl ce ct cq:ai} (hi:yE T (Sort.insertionSort lN) (fun _ _ _=>True) ci) (hh:yE T (Sort.heapSort lN) (fun _ a e=>a<e) ch) (hb:Sr T cb) (hc:Mv T cc) (hr:yE T Sort.reverseRange (fun _ a e=>a<e) cr)
  (hp:JR T cp) (hl:wH cl) (he:Na T ce) (ht:W9 T ct) (hq:Wt T m cq) : Wt T (m + 1) fun args M Q=>∃ a0 a1 a2 a3,args=[a0,a1,a2,a3]∧gF ci ch cb cc cr cp cl ce ct cq a0 a1 a2 a3 M Q:=by
 intro M b a e limit d Q hbn hsz hae hed hm hlim hQ
 refine⟨_,_,_,_,rfl, ?_⟩
 unfold gF
 simp only[dP,dz,dK,bH]
 obtain⟨R,hR⟩ : ∃ R,R=Sort.pdq lN d a e limit true true:=⟨_,rfl⟩
 rw[← hR] at hQ
 refine aG (fun m' ys M3=>∃ (a e limit:Nat) (wb wp:Bool) (d3:Array Nat) (M4:RM),m'=e - a∧ys=[N .i64 (a:Int),N .i64 (e:Int),N .i64 (limit:Int),Bo wb,Bo wp]∧a≤e∧e≤d.size∧e - a<m + 1∧limit≤1000000∧M3=PM M4 b T d3∧ag [] M M4∧d3.size=d.size∧R=Sort.pdq lN d3 a e limit wb wp) _
  ⟨a,e,limit,true,true,d,M,rfl,rfl,hae,hed,hm,hlim,rfl,ag.refl _ _,rfl,hR⟩ ?_
 clear hR hae hed hm hlim
 rintro next m' ys M3 hnext ⟨a,e,limit,wb,wp,d3,M4,rfl,rfl,hae,hed,hm,hlim,rfl,k4,hs3,hR⟩
 dsimp only[aa]
 have hb4:b<M4.next:=Nat.lt_of_lt_of_le hbn k4.next
 rw[pdq_eq] at hR
 rw[df hae (by omega),show(12:Int)=((12:Nat) : Int) from rfl,gU]
 refine aD (fun hg=>?_) (fun hg=>?_)
 ·rw[if_pos (of_decide_eq_true hg)] at hR
  rw[← hs3]
  refine hi hb4 (by omega) hae (by omega) trivial ?_
  rw[← hR]
  exact hQ M4 k4
 have hg:¬ e - a≤12:=of_decide_eq_false hg
 rw[if_neg hg] at hR
 rw[show(0:Int)=((0:Nat) : Int) from rfl,F8]
 refine aD (fun hg0=>?_) (fun hg0=>?_)
 ·rw[if_pos (of_decide_eq_true hg0)] at hR
  rw[← hs3]
  refine hh hb4 (by omega) hae (by omega) (by omega) ?_
  rw[← hR]
  exact hQ M4 k4
 have hg0:¬ limit=0:=of_decide_eq_false hg0
 rw[if_neg hg0] at hR
 refine aT (fun zs M'=>∃ (M5:RM),zs=[N .i64 (((if !wb then limit - 1 else limit) : Nat) : Int)]∧M'=PM M5 b T (if !wb then Sort.breakPatterns d3 a e else d3)∧ag [] M M5) ?_ ?_
 ·rintro zs M' ⟨M5,rfl,rfl,k5⟩
  dsimp only[aa]
  have hs5:(if !wb then Sort.breakPatterns d3 a e else d3).size=d.size:=by
   split
   ·rw[Q9,hs3]
   ·exact hs3
  have hl5:(if !wb then limit - 1 else limit)≤1000000:=by split <;> omega
  generalize (if !wb then Sort.breakPatterns d3 a e else d3)=d5 at *
  generalize (if !wb then limit - 1 else limit)=lim at *
  have hb5:b<M5.next:=Nat.lt_of_lt_of_le hbn k5.next
  rw[← hs5]
  refine hc hb5 (by omega) (by omega) (by omega) fun M6 k6=>?_
  rw[hs5]
  have hcr:=Sort.choosePivot_holds lN d5 a e (by omega)
  unfold aaU at hR
  generalize Sort.choosePivot lN d5 a e=cpv at *
  have k6':=k5.trans k6
  have hb6:b<M6.next:=Nat.lt_of_lt_of_le hbn k6'.next
  rw[fo,fu]
  refine aT (fun zs M'=>zs=[N .i64 (((if cpv.2=.decreasing then(e - 1) - (cpv.1 - a) else cpv.1) : Nat) : Int),N .i64 (iL (if cpv.2=.decreasing then .increasing else cpv.2))]∧M'=PM M6 b T (if cpv.2=.decreasing then Sort.reverseRange d5 a e else d5)) ?_ ?_
  ·rintro zs M' ⟨rfl,rfl⟩
   dsimp only[aa]
   have hs7:(if cpv.2=.decreasing then Sort.reverseRange d5 a e else d5).size=d.size:=by
    split
    ·rw[YW,hs5]
    ·exact hs5
   have hpv:a≤(if cpv.2=.decreasing then(e - 1) - (cpv.1 - a) else cpv.1)∧(if cpv.2=.decreasing then(e - 1) - (cpv.1 - a) else cpv.1)<e:=by
    split <;> omega
   generalize (if cpv.2=.decreasing then Sort.reverseRange d5 a e else d5)=d7 at *
   generalize (if cpv.2=.decreasing then(e - 1) - (cpv.1 - a) else cpv.1)=pv at *
   generalize (if cpv.2=.decreasing then Sort.Hint.increasing else cpv.2)=hint at *
   unfold ZW aaz at hR
   -- behind the short insertion sort
   have rest:∀ d8:Array Nat,d8.size=d.size→R=Sm d8 a e pv lim wb wp→∀ (J:ak),True→af .gtr (N .i64 (a:Int)) (N .i64 ((0:Nat) : Int)) fun t74 =>
     ae t74 true (fun k'=>af .sub (N .i64 (a:Int)) (N .i64 1) fun t78=>ah (vv b d.size) t78 1 fun t79=>az (PM M6 b T d8) t79 fun t80=>ah (vv b d.size) (N .i64 (pv:Int)) 1 fun t83=>az (PM M6 b T d8) t83 fun t84=>cl [t80,t84] (PM M6 b T d8) fun t85 afQ=>cK t85 fun t86=>k' t86 afQ none) (fun k=>k .undef (PM M6 b T d8) none) fun aea acS b_58 =>
     aL t74 aea (Bo false) fun t87=>au t87 (
      ce [vv b d.size,N .i64 (a:Int),N .i64 (e:Int),N .i64 (pv:Int)] acS fun t92 agt=>next [t92,N .i64 (e:Int),N .i64 (lim:Int),Bo wb,Bo wp] agt) (
      ct [vv b d.size,N .i64 (a:Int),N .i64 (e:Int),N .i64 (pv:Int)] acS fun t99 adv=>dm t99 0 fun MN=>dm t99 1 fun adH=>af .sub MN (N .i64 (a:Int)) fun t105=>af .sub (N .i64 (e:Int)) MN fun aei =>
      af .quo (N .i64 ((e - a:Nat) : Int)) (N .i64 8) fun aeh=>af .lss t105 aei fun agX=>au agX (af .geq t105 aeh fun t116=>cq [vv b d.size,N .i64 (a:Int),MN,N .i64 (lim:Int)] adv fun t121 ag6=>af .add MN (N .i64 1) fun afZ=>next [afZ,N .i64 (e:Int),N .i64 (lim:Int),t116,adH] ag6) (
      af .geq aei aeh fun agl=>af .add MN (N .i64 1) fun afM=>cq [vv b d.size,afM,N .i64 (e:Int),N .i64 (lim:Int)] adv fun t132 agI=>next [N .i64 (a:Int),MN,N .i64 (lim:Int),agl,adH] agI)):=fun d8 hs8 hR8 _ _=>by
    unfold Sm at hR8
    rw[lX]
    refine Rf (p:=!lN d8[a - 1]! d8[pv]!) (fun hc k hk=>?_) ?_
    ·have hc:a > 0:=of_decide_eq_true hc
     rw[aZ (by omega) (by omega),PM.rd hs8.symm (by omega),PM.rd hs8.symm (by omega)]
     refine hl ?_
     rw[bu]
     exact hk
    refine aD (fun h=>?_) (fun h=>?_)
    ·rw[if_pos h] at hR8
     rw[← hs8]
     refine he hb6 (by omega) hpv.1 hpv.2 (by omega) ?_
     have hE:=Su d8 a e pv (by omega)
     generalize Sort.partitionEqual lN d8 a e pv=pe at *
     dsimp only at hR8
     rw[dif_pos ⟨hE.2.1,hE.2.2⟩] at hR8
     exact hnext _ _ _ (by omega) ⟨pe.1,e,lim,wb,wp,pe.2,M6,rfl,rfl,hE.2.2,hed,by omega,hl5,rfl,k6',by rw[hE.1,hs8],hR8⟩
    ·rw[if_neg (by rw[h]; decide)] at hR8
     rw[← hs8]
     refine ht hb6 (by omega) hpv.1 hpv.2 (by omega) ?_
     have hT:=Sort.partition_holds lN Qy d8 a e pv hpv.1 hpv.2 (by omega)
     have hTs:=Vo d8 a e pv
     generalize Sort.partition lN d8 a e pv=pp at *
     obtain⟨mid,ap,d9⟩:=pp
     dsimp only at hR8 hT hTs ⊢
     rw[dif_pos ⟨hT.1,hT.2.1⟩] at hR8
     have hT1:=hT.1
     have hT2:=hT.2.1
     rw[fo,fu,df hT1 (by omega),df (by omega) (by omega),gK]
     refine⟨by decide, ?_⟩
     rw[show(8:Int)=((8:Nat) : Int) from rfl,jE,aS (by omega) (by omega),dC]
     refine aD (fun hc1=>?_) (fun hc1=>?_)
     ·have hc1:mid - a<e - mid:=of_decide_eq_true hc1
      rw[if_pos hc1] at hR8
      rw[eY,← hTs]
      refine hq hb6 (by omega) hT1 (by omega) (by omega) hl5 fun M7 k7=>?_
      rw[add1 (by omega)]
      exact hnext _ _ _ (by omega) ⟨mid + 1,e,lim,_,ap,_,M7,rfl,rfl,by omega,hed,by omega,hl5,rfl,k6'.trans k7,by rw[Ak _ _ _ _ _ _ _ (Nat.le_refl _),hTs,hs8],hR8⟩
     ·have hc1:¬ mid - a<e - mid:=of_decide_eq_false hc1
      rw[if_neg hc1] at hR8
      rw[eY,add1 (by omega),← hTs]
      refine hq hb6 (by omega) (by omega) (by omega) (by omega) hl5 fun M7 k7=>?_
      exact hnext _ _ _ (by omega) ⟨a,mid,lim,_,ap,_,M7,rfl,rfl,hT1,by omega,by omega,hl5,rfl,k6'.trans k7,by rw[Ak _ _ _ _ _ _ _ (Nat.le_refl _),hTs,hs8],hR8⟩
   refine aT (fun zs M'=>∃ d8:Array Nat,M'=PM M6 b T d8∧d8.size=d.size∧R=Sm d8 a e pv lim wb wp) ?_ ?_
   ·rintro zs M' ⟨d8,rfl,hs8,hR8⟩
    exact rest d8 hs8 hR8 (fun _ _=>True) trivial
   intro J10 Ac
   have no:¬ (wb && wp && decide (hint=.increasing))=true→J10 [] (PM M6 b T d7):=fun hn=>by
    have hpi:(if (wb && wp && decide (hint=.increasing))=true then Sort.partialInsertionSort lN d7 a e else(d7,false))=(d7,false):=if_neg hn
    rw[hpi] at hR
    exact Ac _ _ ⟨d7,rfl,hs7,hR⟩
   cases wb with
   | false =>
     rw[bI]
     dsimp only
     rw[cz,bI]
     dsimp only
     rw[bI]
     dsimp only
     rw[cz,bz]
     exact no (by simp)
   | true =>
     rw[cB]
     dsimp only
     rw[dN]
     cases wp with
     | false =>
       rw[bI]
       dsimp only
       rw[bI]
       dsimp only
       rw[cz,bz]
       exact no (by simp)
     | true =>
       rw[cB]
       dsimp only
       rw[cB]
       dsimp only
       rw[bV,dN]
       by_cases hin:hint=.increasing
       ·rw[show(iL hint == 1)=true by rw[hin]; rfl,cO]
        have hpi:(if (true && true && decide (hint=.increasing))=true then Sort.partialInsertionSort lN d7 a e else(d7,false))=Sort.partialInsertionSort lN d7 a e:=if_pos (by simp[hin])
        rw[hpi] at hR
        rw[← hs7]
        refine hp hb6 (by omega) (by omega) (by omega) ?_
        have hs8:(Sort.partialInsertionSort lN d7 a e).1.size=d.size:=by
         rw[Sort.partialInsertionSort,El,hs7]
        generalize Sort.partialInsertionSort lN d7 a e=pi at *
        refine aD (fun h=>?_) (fun h=>?_)
        ·rw[if_pos h] at hR
         rw[← hR]
         exact hQ M6 k6'
        ·rw[if_neg (by rw[h]; decide)] at hR
         exact Ac _ _ ⟨pi.1,rfl,hs8,hR⟩
       ·rw[show(iL hint == 1)=false by cases hint <;> first | rfl | exact absurd rfl hin,bz]
        exact no (by simp[hin])
  intro J6 hJ6
  rw[bV]
  by_cases hdec:cpv.2=.decreasing
  ·rw[show(iL cpv.2 == 2)=true by rw[hdec]; rfl,cO,← hs5]
   refine hr hb6 (by omega) hae (by omega) (by omega) ?_
   rw[aZ (by omega) (by omega),df (by omega) (by omega),df (by omega) (by omega)]
   exact hJ6 _ _ ⟨by rw[if_pos hdec,if_pos hdec]; rfl,by rw[if_pos hdec]⟩
  ·rw[show(iL cpv.2 == 2)=false by cases h:cpv.2 <;> first | rfl | exact absurd h hdec,bz]
   exact hJ6 _ _ ⟨by rw[if_neg hdec,if_neg hdec],by rw[if_neg hdec]⟩
 intro J hJ
 rw[bu]
 cases wb with
 | true =>
   rw[Bool.not_true,bz]
   exact hJ _ _ ⟨M4,rfl,rfl,k4⟩
 | false =>
   rw[Bool.not_false,cO,← hs3]
   refine hb hb4 (by omega) hae (by omega) fun M5 k5=>?_
   rw[aZ (by omega) (by omega)]
   exact hJ _ _ ⟨M5,rfl,rfl,k4.trans k5⟩
end Go.Ab.ay
namespace Go.Ab.Crw
open Go Go.Ab Go.Ab.ay
section
variable {α:Type} [Inhabited α] {E:Enc α} {M M' : RM} {T b z n i j:Nat} {d:Array α}
structure At (E:Enc α) (T b:Nat) (d:Array α) (M:RM) : Prop where
 heap:M.heap b=some (.row (E.row d.toList) true T 0)
 lt:b<M.next
abbrev sv (b n z:Nat) : AV:=.slc b 0 n (.op z)
theorem At.keep {α:Type} {E:Enc α} {d:Array α} (h:At E T b d M) (k:ag [] M M') : At E T b d M':=⟨k.aK h.heap h.lt (by simp),Nat.lt_of_lt_of_le h.lt k.next⟩
theorem NA (hi:i<d.size) : d[i]! = d[i]:=getElem!_pos d i hi
theorem At.idx {kd:IntKind} {K:AV→Prop} (hi:i<n) : ah (sv b n z) (N kd (i:Int)) z K=K (.ptr b (i * z)):=by
 rw[nV]
 simp only[Int.toNat_natCast]
 rw[Nat.zero_add]
 exact propext ⟨fun h=>h.2.2,fun h=>⟨by omega,by omega,h⟩⟩
theorem At.ld (h:At E T b d M) (hz:E.size=z) (hi:i<d.size) {K:AV→Prop} : av M (.ptr b (i * z)) z K=K (.agg (E.cells d[i]!)):=by
 subst hz
 have hl:M.loads b (i * E.size) E.size=some (E.cells d[i]!):=by
  have hlen:(E.row d.toList).length=d.size * E.size:=by rw[Enc.eu,Array.length_toList]
  have hsum:i * E.size + E.size≤d.size * E.size:=by rw[← Nat.succ_mul]; exact Nat.mul_le_mul_right _ hi
  rw[RM.dF h.heap (by omega),E.Ns (by rw[Array.length_toList]; exact hi),NA hi]
  simp
 rw[dQ,hl]
 simp
theorem At.rd (h:At E T b d M) (hz:E.size=z) (hn:n=d.size) (hi:i<d.size) {kd:IntKind} {K:AV→Prop} : (ah (sv b n z) (N kd (i:Int)) z fun p=>av M p z K)=K (.agg (E.cells d[i]!)):=by
 rw[At.idx (by omega),h.ld hz hi]
theorem ace {α:Type} {E:Enc α} {l:List α} {i:Nat} {x:α} (hi:i<l.length) : (E.row l).take (i * E.size)++E.cells x++(E.row l).drop (i * E.size + E.size)=E.row (l.set i x):=by
 rw[List.set_eq_take_append_cons_drop,if_pos hi,E.uu,E.lI,E.vB,← Nat.succ_mul,E.vC,List.append_assoc]
theorem At.st {α:Type} {E:Enc α} {d:Array α} (h:At E T b d M) (hz:E.size=z) (hi:i<d.size) {x:α} {K:RM→Prop} (hK:∀ M',At E T b (d.setIfInBounds i x) M'→ag [b] M M'→M'.next=M.next→K M') : aC M (.ptr b (i * z)) (.agg (E.cells x)) z K:=by
 subst hz
 have hlen:(E.row d.toList).length=d.size * E.size:=by rw[Enc.eu,Array.length_toList]
 have hsum:i * E.size + E.size≤d.size * E.size:=by rw[← Nat.succ_mul]; exact Nat.mul_le_mul_right _ hi
 rw[yX]
 refine⟨E.len x,_,RM.Ec h.heap (by show i * E.size + (E.cells x).length≤_; rw[E.len]; omega) (Nat.zero_le _) (E.one x), ?_⟩
 refine hK _ ⟨?_,h.lt⟩ ((ag.refl _ _).put _ (.inr (by simp))) rfl
 rw[aN]
 have hi' : i<d.toList.length:=by rw[Array.length_toList]; exact hi
 have:=ace (E:=E) (x:=x) hi'
 rw[Array.toList_setIfInBounds,← this]
 show some (RB.row ((E.row d.toList).take (i * E.size)++E.cells x++(E.row d.toList).drop (i * E.size + (E.cells x).length)) true T 0)=_
 rw[E.len]
theorem bF (d:Array α) (i j:Nat) : (Sort.swp d i j).size=d.size:=by simp[Sort.swp]
theorem At.swap (h:At E T b d M) (hz:E.size=z) (hn:n=d.size) (hi:i<d.size) (hj:j<d.size) {k1 k2:IntKind} {K:RM→Prop} (hK:∀ M',At E T b (Sort.swp d i j) M'→ag [b] M M'→K M') :
  ah (sv b n z) (N k1 (i:Int)) z fun p=>aC M p (.agg (E.cells d[j]!)) z fun M1=>ah (sv b n z) (N k2 (j:Int)) z fun q=>aC M1 q (.agg (E.cells d[i]!)) z K:=by
 rw[At.idx (by omega)]
 refine h.st hz hi fun M1 h1 k1 _=>?_
 rw[At.idx (by omega)]
 refine h1.st hz (by simpa using hj) fun M2 h2 k2 _=>?_
 exact hK M2 h2 (k1.trans k2)
def iR (E:Enc α) (lt:α→α→Bool) (c:List AV→RM→ak→Prop) : Prop:=∀ {M:RM} {x y:α} {Q:ak},(∀ (n:Int) M',decide (n<0)=lt x y→ag [] M M'→Q (N .i64 n) M')→c [.agg (E.cells x),.agg (E.cells y)] M Q
theorem iR.use {α:Type} {E:Enc α} {lt:α→α→Bool} {c:List AV→RM→ak→Prop} (h:iR E lt c) {M:RM} {x y:α} {K:AV→RM→Prop} (hK:∀ M',ag [] M M'→K (Bo (lt x y)) M') :
  c [.agg (E.cells x),.agg (E.cells y)] M fun t M'=>af .lss t (N .i64 0) fun u=>K u M':=by
 refine h fun n M' hn k=>?_
 rw[dD,hn]
 exact hK M' k
def SortG (E:Enc α) (T z:Nat) (fv:AV) (f:Array α→Nat→Nat→Array α) (P:Array α→Nat→Nat→Prop) (c:ai) : Prop:=∀ {M:RM} {b a e:Nat} {d:Array α} {Q:ak},At E T b d M→d.size≤60000→a≤e→e≤d.size→P d a e→(∀ M',At E T b (f d a e) M'→ag [b] M M'→Q (.tup []) M') →
 c [sv b d.size z,N .i64 (a:Int),N .i64 (e:Int),fv] M Q
end
section
variable {α:Type} [Inhabited α] (lt:α→α→Bool)
theorem Lu (a:Nat) : ∀ (j:Nat) (d:Array α),(Sort.insInner lt a j d).size=d.size
 | 0,d=>rfl
 | j + 1,d=>by
   rw[Sort.insInner]
   split
   ·rw[Lu a j,bF]
   ·rfl
theorem Lb (a e:Nat) : ∀ (k i:Nat) (d:Array α),e - i≤k→(Sort.insOuter lt a e i d).size=d.size
 | 0,i,d,h=>by rw[Sort.insOuter,if_neg (by omega)]
 | k + 1,i,d,h=>by
   rw[Sort.insOuter]
   split
   ·rw[Lb a e k _ _ (by omega),Lu]
   ·rfl
theorem aeV (d:Array α) (a e:Nat) : (Sort.insertionSort lt d a e).size=d.size:=Lb lt a e _ _ _ (Nat.le_refl _)
theorem rQ (hi first:Nat) : ∀ (k lo:Nat) (d:Array α),hi - lo≤k→(Sort.siftDown lt hi first lo d).size=d.size
 | 0,lo,d,h=>by rw[Sort.siftDown,dif_pos (by omega)]
 | k + 1,lo,d,h=>by
   rw[Sort.siftDown]
   split
   ·rfl
   ·split
    ·split
     ·rfl
     ·split
      ·rw[rQ hi first k _ _ (by omega),bF]
      ·rfl
    ·split
     ·rfl
     ·rw[rQ hi first k _ _ (by omega),bF]
theorem UR (hi first:Nat) : ∀ (k:Nat) (d:Array α),(Sort.heapBuild lt hi first k d).size=d.size
 | 0,d=>rfl
 | k + 1,d=>by rw[Sort.heapBuild,UR hi first k,rQ lt hi first hi _ _ (by omega)]
theorem abo (first:Nat) : ∀ (k:Nat) (d:Array α),(Sort.heapPop lt first k d).size=d.size
 | 0,d=>rfl
 | k + 1,d=>by rw[Sort.heapPop,abo first k,rQ lt _ _ k _ _ (by omega),bF]
theorem adM (d:Array α) (a e:Nat) : (Sort.heapSort lt d a e).size=d.size:=by rw[Sort.heapSort,abo,UR]
theorem O3:∀ (k i j:Nat) (d:Array α),j - i≤k→(Sort.reverseLoop i j d).size=d.size
 | 0,i,j,d,h=>by rw[Sort.reverseLoop,if_neg (by omega)]
 | k + 1,i,j,d,h=>by
   rw[Sort.reverseLoop]
   split
   ·rw[O3 k _ _ _ (by omega),bF]
   ·rfl
theorem P9 (d:Array α) (a e:Nat) : (Sort.reverseRange d a e).size=d.size:=O3 _ _ _ _ (Nat.le_refl _)
theorem wK (a l m:Nat) (st:UInt64 × Array α) (i:Nat) : (Sort.breakStep a l m st i).2.size=st.2.size:=bF _ _ _
theorem Hm (d:Array α) (a e:Nat) : (Sort.breakPatterns d a e).size=d.size:=by
 unfold Sort.breakPatterns
 dsimp only
 split
 ·rw[wK,wK,wK]
 ·rfl
theorem rJ:∀ (j:Nat) (d:Array α),(Sort.shiftDown lt j d).size=d.size
 | 0,d=>rfl
 | j + 1,d=>by
   rw[Sort.shiftDown]
   split
   ·rfl
   ·rw[rJ j,bF]
theorem Pk (e:Nat) : ∀ (k j:Nat) (d:Array α),e - j≤k→(Sort.shiftUp lt e j d).size=d.size
 | 0,j,d,h=>by rw[Sort.shiftUp,if_neg (by omega)]
 | k + 1,j,d,h=>by
   rw[Sort.shiftUp]
   split
   ·split
    ·rfl
    ·rw[Pk e k _ _ (by omega),bF]
   ·rfl
theorem pK (a b s i:Nat) (d:Array α) : Sort.partialIns lt a b (s + 1) i d =
  if Sort.scanSorted lt d b i=b then(d,true) else if b - a<50 then(d,false) else
   Sort.partialIns lt a b s (Sort.scanSorted lt d b i) (if b - Sort.scanSorted lt d b i ≥ 2 then Sort.shiftUp lt b (Sort.scanSorted lt d b i + 1) (if Sort.scanSorted lt d b i - a ≥ 2 then Sort.shiftDown lt (Sort.scanSorted lt d b i - 1) (Sort.swp d (Sort.scanSorted lt d b i) (Sort.scanSorted lt d b i - 1)) else Sort.swp d (Sort.scanSorted lt d b i) (Sort.scanSorted lt d b i - 1))
    else(if Sort.scanSorted lt d b i - a ≥ 2 then Sort.shiftDown lt (Sort.scanSorted lt d b i - 1) (Sort.swp d (Sort.scanSorted lt d b i) (Sort.scanSorted lt d b i - 1)) else Sort.swp d (Sort.scanSorted lt d b i) (Sort.scanSorted lt d b i - 1))):=rfl
theorem wT (a e:Nat) : ∀ (s i:Nat) (d:Array α),(Sort.partialIns lt a e s i d).1.size=d.size
 | 0,i,d=>rfl
 | s + 1,i,d=>by
   rw[pK]
   split
   ·rfl
   ·split
    ·rfl
    ·rw[wT a e s]
     have h1:∀ x,(if x - a ≥ 2 then Sort.shiftDown lt (x - 1) (Sort.swp d x (x - 1)) else Sort.swp d x (x - 1)).size=d.size:=fun x=>by
      split
      ·rw[rJ,bF]
      ·rw[bF]
     split
     ·rw[Pk lt e e _ _ (by omega),h1]
     ·rw[h1]
theorem JF (p:α→Bool) (d:Array α) (J:Nat) : ∀ (n i:Nat),J + 1 - i≤n→i≤Sort.scanUp p d J i∧Sort.scanUp p d J i≤max (J + 1) i
 | 0,i,h=>by
   rw[Sort.scanUp,if_neg (by simp; omega)]; omega
 | n + 1,i,h=>by
   rw[Sort.scanUp]
   split
   ·rename_i hc
    rw[Bool.and_eq_true] at hc
    have:=of_decide_eq_true hc.1
    have:=JF p d J n (i + 1) (by omega)
    omega
   ·omega
theorem Ei (p:α→Bool) (d:Array α) (i:Nat) : ∀ j,Sort.scanDown p d i j≤j
 | 0=>Nat.le_refl _
 | j + 1=>by
   rw[Sort.scanDown]
   split
   ·have:=Ei p d i j; omega
   ·omega
theorem FY (a:Nat) : ∀ (n i j:Nat) (d:Array α),j + 1 - i≤n→i≤(Sort.partEqLoop lt a i j d).1∧(Sort.partEqLoop lt a i j d).1≤max (j + 1) i∧(Sort.partEqLoop lt a i j d).2.size=d.size
 | n,i,j,d,h=>by
   have h1:=JF (fun x=>!lt d[a]! x) d j _ i (Nat.le_refl _)
   have h2:=Ei (fun x=>lt d[a]! x) d (Sort.scanUp (fun x=>!lt d[a]! x) d j i) j
   rw[Sort.partEqLoop]
   generalize Sort.scanUp (fun x=>!lt d[a]! x) d j i=i2 at *
   generalize Sort.scanDown (fun x=>lt d[a]! x) d i2 j=j2 at *
   split
   ·exact⟨h1.1,h1.2,rfl⟩
   ·split
    ·cases n with
     | zero=>omega
     | succ n =>
       have h3:=FY a n (i2 + 1) (j2 - 1) (Sort.swp d i2 j2) (by omega)
       rw[bF] at h3
       omega
    ·exact⟨h1.1,h1.2,rfl⟩
theorem KS (a:Nat) : ∀ (n i j:Nat) (d:Array α),j + 1 - i≤n→(Sort.partLoop lt a i j d).1≤j∧(Sort.partLoop lt a i j d).2.size=d.size
 | n,i,j,d,h=>by
   have h1:=JF (fun x=>lt x d[a]!) d j _ i (Nat.le_refl _)
   have h2:=Ei (fun x=>!lt x d[a]!) d (Sort.scanUp (fun x=>lt x d[a]!) d j i) j
   rw[Sort.partLoop]
   generalize Sort.scanUp (fun x=>lt x d[a]!) d j i=i2 at *
   generalize Sort.scanDown (fun x=>!lt x d[a]!) d i2 j=j2 at *
   split
   ·exact⟨h2,rfl⟩
   ·split
    ·cases n with
     | zero=>omega
     | succ n =>
       have h3:=KS a n (i2 + 1) (j2 - 1) (Sort.swp d i2 j2) (by omega)
       rw[bF] at h3
       exact⟨by omega,h3.2⟩
    ·exact⟨h2,rfl⟩
theorem Hw (d:Array α) (a e pv:Nat) (h:a<e) : (Sort.partitionEqual lt d a e pv).2.size=d.size∧a<(Sort.partitionEqual lt d a e pv).1∧(Sort.partitionEqual lt d a e pv).1≤e:=by
 unfold Sort.partitionEqual
 have:=FY lt a _ (a + 1) (e - 1) (Sort.swp d a pv) (Nat.le_refl _)
 rw[bF] at this
 omega
def pI (d2:Array α) (a e:Nat) : Nat:=Sort.scanUp (fun x=>lt x d2[a]!) d2 (e - 1) (a + 1)
def pJ (d2:Array α) (a e:Nat) : Nat:=Sort.scanDown (fun x=>!lt x d2[a]!) d2 (pI lt d2 a e) (e - 1)
def pL (d2:Array α) (a e:Nat) : Nat × Array α:=Sort.partLoop lt a (pI lt d2 a e + 1) (pJ lt d2 a e - 1) (Sort.swp d2 (pI lt d2 a e) (pJ lt d2 a e))
theorem qI (d:Array α) (a e pv:Nat) : Sort.partition lt d a e pv =
  if pI lt (Sort.swp d a pv) a e > pJ lt (Sort.swp d a pv) a e then(pJ lt (Sort.swp d a pv) a e,true,Sort.swp (Sort.swp d a pv) (pJ lt (Sort.swp d a pv) a e) a)
  else((pL lt (Sort.swp d a pv) a e).1,false,Sort.swp (pL lt (Sort.swp d a pv) a e).2 (pL lt (Sort.swp d a pv) a e).1 a):=rfl
theorem KD (d:Array α) (a e pv:Nat) : (Sort.partition lt d a e pv).2.2.size=d.size:=by
 rw[qI]
 split
 ·show(Sort.swp _ _ _).size=_
  rw[bF,bF]
 ·show(Sort.swp _ _ _).size=_
  rw[bF,pL,(KS lt a _ _ _ _ (Nat.le_refl _)).2,bF,bF]
def gC (d3:Array α) (a e pv limit:Nat) (wb wp:Bool) : Array α :=
 if a > 0 && !lt d3[a - 1]! d3[pv]! then
  match Sort.partitionEqual lt d3 a e pv with
  | (mid,d4)=>if _h:a<mid∧mid≤e then Sort.pdq lt d4 mid e limit wb wp else d4
 else
  match Sort.partition lt d3 a e pv with
  | (mid,ap,d4) =>
    if _h:a≤mid∧mid<e then
     if mid - a<e - mid then Sort.pdq lt (Sort.pdq lt d4 a mid limit true true) (mid + 1) e limit (decide (mid - a ≥ (e - a) / 8)) ap
     else Sort.pdq lt (Sort.pdq lt d4 (mid + 1) e limit true true) a mid limit (decide (e - mid ≥ (e - a) / 8)) ap
    else d4
def gP (pi:Array α × Bool) (a e pv limit:Nat) (wb wp:Bool) : Array α:=if pi.2 then pi.1 else gC lt pi.1 a e pv limit wb wp
def gB (d2:Array α) (a e pv:Nat) (hint:Sort.Hint) (limit:Nat) (wb wp:Bool) : Array α :=
 gP lt (if wb && wp && hint=.increasing then Sort.partialInsertionSort lt d2 a e else(d2,false)) a e pv limit wb wp
def gA (d1:Array α) (a e limit:Nat) (wb wp:Bool) : Array α :=
 gB lt (if (Sort.choosePivot lt d1 a e).2=.decreasing then Sort.reverseRange d1 a e else d1) a e (if (Sort.choosePivot lt d1 a e).2=.decreasing then(e - 1) - ((Sort.choosePivot lt d1 a e).1 - a) else(Sort.choosePivot lt d1 a e).1)
  (if (Sort.choosePivot lt d1 a e).2=.decreasing then .increasing else(Sort.choosePivot lt d1 a e).2) limit wb wp
theorem sD (d:Array α) (a e limit:Nat) (wb wp:Bool) : Sort.pdq lt d a e limit wb wp =
  if e - a≤12 then Sort.insertionSort lt d a e else if limit=0 then Sort.heapSort lt d a e else gA lt (if !wb then Sort.breakPatterns d a e else d) a e (if !wb then limit - 1 else limit) wb wp:=by
 rw[Sort.pdq]; rfl
theorem ul:∀ (n:Nat) (d:Array α) (a e limit:Nat) (wb wp:Bool),e - a≤n→(Sort.pdq lt d a e limit wb wp).size=d.size
 | n,d,a,e,limit,wb,wp,hn=>by
   rw[sD]
   split
   ·exact aeV lt d a e
   split
   ·exact adM lt d a e
   have h1:(if !wb then Sort.breakPatterns d a e else d).size=d.size:=by split; exact Hm d a e; rfl
   rw[← h1]
   generalize (if !wb then Sort.breakPatterns d a e else d)=d1
   unfold gA
   have h2:(if (Sort.choosePivot lt d1 a e).2=.decreasing then Sort.reverseRange d1 a e else d1).size=d1.size:=by split; exact P9 d1 a e; rfl
   rw[← h2]
   generalize (if (Sort.choosePivot lt d1 a e).2=.decreasing then Sort.reverseRange d1 a e else d1)=d2
   generalize (if (Sort.choosePivot lt d1 a e).2=.decreasing then(e - 1) - ((Sort.choosePivot lt d1 a e).1 - a) else(Sort.choosePivot lt d1 a e).1)=pv
   generalize (if (Sort.choosePivot lt d1 a e).2=.decreasing then Sort.Hint.increasing else(Sort.choosePivot lt d1 a e).2)=hint
   unfold gB
   have h3:(if wb && wp && hint=.increasing then Sort.partialInsertionSort lt d2 a e else(d2,false)).1.size=d2.size:=by
    split
    ·exact wT lt a e _ _ _
    ·rfl
   rw[← h3]
   generalize (if wb && wp && hint=.increasing then Sort.partialInsertionSort lt d2 a e else(d2,false))=pi
   unfold gP
   split
   ·rfl
   unfold gC
   have hE:=Hw lt pi.1 a e pv
   have hP:=KD lt pi.1 a e pv
   generalize Sort.partitionEqual lt pi.1 a e pv=pe at *
   generalize Sort.partition lt pi.1 a e pv=pp at *
   obtain⟨mid,d4⟩:=pe
   obtain⟨afA,ap,d5⟩:=pp
   cases n with
   | zero=>omega
   | succ n =>
     split
     ·dsimp only
      split
      ·rw[ul n _ _ _ _ _ _ (by omega)]
       exact(hE (by omega)).1
      ·exact(hE (by omega)).1
     ·dsimp only at hP ⊢
      split
      ·split
       ·rw[ul n _ _ _ _ _ _ (by omega),ul n _ _ _ _ _ _ (by omega)]; exact hP
       ·rw[ul n _ _ _ _ _ _ (by omega),ul n _ _ _ _ _ _ (by omega)]; exact hP
      ·exact hP
theorem om (d:Array α) (i j k:Nat) : (((Sort.order2 lt d i j k).1=i∧(Sort.order2 lt d i j k).2.1=j)∨((Sort.order2 lt d i j k).1=j∧(Sort.order2 lt d i j k).2.1=i))∧k≤(Sort.order2 lt d i j k).2.2∧(Sort.order2 lt d i j k).2.2≤k + 1:=by
 unfold Sort.order2
 split <;> simp
theorem ol (d:Array α) {i j h k n:Nat} (hi:i<n) (hj:j<n) (hh:h<n) : (Sort.median lt d i j h k).1<n∧(Sort.median lt d i j h k).2≤k + 3:=by
 unfold Sort.median
 dsimp only
 have o1:=om lt d i j k
 generalize Sort.order2 lt d i j k=r1 at *
 have o2:=om lt d r1.2.1 h r1.2.2
 generalize Sort.order2 lt d r1.2.1 h r1.2.2=r2 at *
 have o3:=om lt d r1.1 r2.1 r2.2.2
 omega
end
section
variable {α:Type} [Inhabited α] {E:Enc α} {M M' : RM} {T b z n i j:Nat} {d:Array α} {ks:List Nat}
theorem At.keep' {α:Type} {E:Enc α} {d:Array α} (h:At E T b d M) (k:ag ks M M') (hb:b ∉ ks) : At E T b d M':=⟨k.aK h.heap h.lt hb,Nat.lt_of_lt_of_le h.lt k.next⟩
theorem je {c p:Bool} {f:KR→Prop} {P:RM→Prop} {G:AV→RM→Prop} (h0:P M) (hf:c=true→∀ k:KR,(∀ M',P M'→k (Bo p) M' none)→f k) (hG:∀ M',P M'→G (Bo (c && p)) M') :
  ae (Bo c) true f (fun k=>k .undef M none) (fun t M' b=>aL (Bo c) t (Bo false) fun u=>G u M'):=by
 cases c with
 | false=>rw[jd]; dsimp only; rw[cz]; exact hG M h0
 | true=>rw[iK]; exact hf rfl _ fun M' h=>by rw[dN]; exact hG M' h
variable {body:(List AV→RM→Prop)→List AV→RM→Prop} {p:α→Bool} {P:RM→Prop}
theorem qV {J i0:Nat} (hP:P M) (h:∀ (next:List AV→RM→Prop) (i:Nat) (M' : RM),P M'→i0≤i→i≤max (J + 1) i0→((decide (i≤J) && p d[i]!)=true→∀ M'',P M''→next [N .i64 ((i + 1:Nat) : Int)] M'')→((decide (i≤J) && p d[i]!)=false→i=Sort.scanUp p d J i0)→body next [N .i64 (i:Int)] M') :
  aM body [N .i64 (i0:Int)] M:=by
 obtain⟨R,hR⟩ : ∃ R,R=Sort.scanUp p d J i0:=⟨_,rfl⟩
 refine aG (fun m ys M3=>∃ (i:Nat),m=J + 1 - i∧ys=[N .i64 (i:Int)]∧i0≤i∧i≤max (J + 1) i0∧P M3∧R=Sort.scanUp p d J i) _ ⟨i0,rfl,rfl,Nat.le_refl _,by omega,hP,hR⟩ ?_
 rintro next m ys M3 hnext ⟨i,rfl,rfl,h0,hi,h3,hm⟩
 rw[Sort.scanUp] at hm
 refine h next i M3 h3 h0 hi (fun hc M4 h4=>?_) (fun hc=>?_)
 ·rw[if_pos hc] at hm
  have hij:i≤J:=by
   rw[Bool.and_eq_true] at hc
   exact of_decide_eq_true hc.1
  exact hnext _ _ _ (by omega) ⟨i + 1,rfl,rfl,by omega,by omega,h4,hm⟩
 ·rw[if_neg (by rw[hc]; decide)] at hm
  rw[← hR]; exact hm.symm
theorem mG {i j0:Nat} (hP:P M) (h1:1≤i) (h:∀ (next:List AV→RM→Prop) (j:Nat) (M' : RM),P M'→j≤j0→(j=j0∨i≤j + 1)→((decide (i≤j) && p d[j]!)=true→∀ M'',P M''→next [N .i64 ((j - 1:Nat) : Int)] M'')→((decide (i≤j) && p d[j]!)=false→j=Sort.scanDown p d i j0)→body next [N .i64 (j:Int)] M') :
  aM body [N .i64 (j0:Int)] M:=by
 obtain⟨R,hR⟩ : ∃ R,R=Sort.scanDown p d i j0:=⟨_,rfl⟩
 refine aG (fun m ys M3=>∃ (j:Nat),m=j + 1∧ys=[N .i64 (j:Int)]∧j≤j0∧(j=j0∨i≤j + 1)∧P M3∧R=Sort.scanDown p d i j) _ ⟨j0,rfl,rfl,Nat.le_refl _,.inl rfl,hP,hR⟩ ?_
 rintro next m ys M3 hnext ⟨j,rfl,rfl,h0,hi,h3,hm⟩
 refine h next j M3 h3 h0 hi (fun hc M4 h4=>?_) (fun hc=>?_)
 ·have hij:i≤j:=by
   rw[Bool.and_eq_true] at hc
   exact of_decide_eq_true hc.1
  obtain⟨k,rfl⟩ : ∃ k,j=k + 1:=⟨j - 1,by omega⟩
  rw[Sort.scanDown,if_pos hc] at hm
  exact hnext _ _ _ (by omega) ⟨k,rfl,rfl,by omega,by omega,h4,hm⟩
 ·rw[← hR]
  cases j with
  | zero=>exact hm.symm
  | succ k=>rw[Sort.scanDown,if_neg (by rw[hc]; decide)] at hm; exact hm.symm
end
def Tv (TX:Nat) (c:ai) : Prop:=∀ {M:RM} {s:Nat} {r:UInt64} {Q:ak},M.heap s=some (.row [N .u64 (r.toNat:Int)] false TX 0)→s<M.next→(∀ M',M'.heap s=some (.row [N .u64 ((Sort.xorNext r).toNat:Int)] false TX 0)→ag [s] M M'→M'.next=M.next→Q (N .u64 ((Sort.xorNext r).toNat:Int)) M')→c [.ptr s 0] M Q
theorem Yt {TX:Nat} : Tv TX fun args M Q=>∃ a0,args=[a0]∧mh a0 M Q:=by
 intro M s r Q hh hlt hQ
 refine⟨_,rfl, ?_⟩
 unfold mh
 have st:∀ (M:RM) (r r' : UInt64) (K:RM→Prop),M.heap s=some (.row [N .u64 (r.toNat:Int)] false TX 0)→(∀ M',M'.heap s=some (.row [N .u64 (r'.toNat:Int)] false TX 0)→ag [s] M M'→M'.next=M.next→K M')→aC M (.ptr s 0) (N .u64 (r'.toNat:Int)) 1 K:=fun M r r' K h hK=>by
  rw[dV h (by simp) rfl rfl]
  exact hK _ (aN _) ((ag.refl _ _).put _ (.inr (by simp))) rfl
 rw[aU,aA hh rfl,aU,aA hh rfl,CQ]
 refine⟨by decide, ?_⟩
 rw[show(13:Int)=((13:Nat) : Int) from rfl,G7 (k:=13) (n:=13) rfl (by decide),vD,u64_xor,aU]
 refine st _ _ _ _ hh fun M1 h1 k1 n1=>?_
 rw[aU,aA h1 rfl,aU,aA h1 rfl,Hy]
 refine⟨by decide, ?_⟩
 rw[show(7:Int)=((7:Nat) : Int) from rfl,U0 (k:=7) (n:=7) rfl (by decide),vD,u64_xor,aU]
 refine st _ _ _ _ h1 fun M2 h2 k2 n2=>?_
 rw[aU,aA h2 rfl,aU,aA h2 rfl,CQ]
 refine⟨by decide, ?_⟩
 rw[show(17:Int)=((17:Nat) : Int) from rfl,G7 (k:=17) (n:=17) rfl (by decide),vD,u64_xor,aU]
 refine st _ _ _ _ h2 fun M3 h3 k3 n3=>?_
 rw[aU,aA h3 rfl]
 exact hQ M3 h3 ((k1.trans k2).trans k3) (by omega)
def lU {α:Type} [Inhabited α] (a l m i0:Nat) (d:Array α) : Nat→UInt64 × Array α
 | 0=>(UInt64.ofNat l,d)
 | k + 1=>Sort.breakStep a l m (lU a l m i0 d k) (i0 + k)
theorem K4 {α:Type} [Inhabited α] (a l m i0:Nat) (d:Array α) : ∀ k,(lU a l m i0 d k).2.size=d.size
 | 0=>rfl
 | k + 1=>by
   rw[lU,wK,K4 a l m i0 d k]
abbrev aH:=ay × (List UInt8 × List UInt8 × List UInt8)
def aF:Enc aH:=⟨5,fun x=>aO x.1++[St x.2.1,St x.2.2.1,St x.2.2.2],fun _=>rfl,fun _=>rfl⟩
theorem aa0 {T:Nat} {fv:AV} {lt:aH→aH→Bool} {cv:FuncId→ai} (hl:iR aF lt (bD cv fv)) : SortG aF T 5 fv (Sort.insertionSort lt) (fun _ _ _=>True) fun args M Q=>∃ a0 a1 a2 a3,args=[a0,a1,a2,a3]∧eO cv a0 a1 a2 a3 M Q:=by
 intro M b a e d Q hat hsz hae he _ hQ
 refine⟨_,_,_,_,rfl, ?_⟩
 unfold eO
 simp only[dP,dz,dK]
 rw[add1 (by omega)]
 rw[Sort.insertionSort] at hQ
 obtain⟨R,hR⟩ : ∃ R,R=Sort.insOuter lt a e (a + 1) d:=⟨_,rfl⟩
 rw[← hR] at hQ
 refine aG (fun m ys M3=>∃ (i:Nat) (d3:Array aH),m=d.size - i∧ys=[N .i64 (i:Int)]∧i≤d.size + 1∧At aF T b d3 M3∧ag [b] M M3∧d3.size=d.size∧R=Sort.insOuter lt a e i d3) _ ⟨a + 1,d,rfl,rfl,by omega,hat,ag.refl _ _,rfl,hR⟩ ?_
 rintro next m ys M3 hnext ⟨i,d3,rfl,rfl,hi,h3,k3,hs3,hm⟩
 dsimp only[aa]
 rw[dC]
 refine aD (fun hlt=>?_) (fun hge=>?_)
 ·have hlt:i<e:=of_decide_eq_true hlt
  rw[Sort.insOuter,if_pos hlt] at hm
  obtain⟨R5,hR5⟩ : ∃ R5,R5=Sort.insInner lt a i d3:=⟨_,rfl⟩
  rw[← hR5] at hm
  refine aG (fun m ys M5=>∃ (j:Nat) (d5:Array aH),m=j + 1∧ys=[N .i64 (j:Int)]∧j≤i∧At aF T b d5 M5∧ag [b] M M5∧d5.size=d.size∧R5=Sort.insInner lt a j d5) _ ⟨i,d3,rfl,rfl,Nat.le_refl _,h3,k3,hs3,hR5⟩ ?_
  rintro fq m ys M5 dx ⟨j,d5,rfl,rfl,hj,h5,k5,hs5,hm5⟩
  dsimp only[aa]
  rw[lX]
  have out:∀ M6,At aF T b d5 M6→ag [b] M M6→Sort.insInner lt a j d5=d5→af .add (N .i64 (i:Int)) (N .i64 1) (fun t14=>next [t14] M6):=fun M6 h6 k6 h=>by
   rw[add1 (by omega)]
   refine hnext _ _ _ (by omega) ⟨i + 1,d5,rfl,rfl,by omega,h6,k6,hs5, ?_⟩
   rw[hm,hm5,h]
  by_cases hg:j > a
  ·obtain⟨k,rfl⟩ : ∃ k,j=k + 1:=⟨j - 1,by omega⟩
   rw[decide_eq_true hg,iK]
   dsimp only
   rw[h5.rd (z:=5) rfl hs5.symm (by omega),aZ (by omega) (by omega),Nat.add_sub_cancel,h5.rd (z:=5) rfl hs5.symm (by omega)]
   refine hl.use fun M6 k6=>?_
   have h6:=h5.keep k6
   have k6':=k5.trans (k6.mono (cs:=[b]) (by simp))
   rw[dN]
   rw[Sort.insInner] at hm5 out
   refine aD (fun h=>?_) (fun h=>?_)
   ·rw[if_pos (by simp[hg,h])] at hm5
    rw[aZ (by omega) (by omega),aZ (by omega) (by omega),Nat.add_sub_cancel,h6.rd (z:=5) rfl hs5.symm (by omega),h6.rd (z:=5) rfl hs5.symm (by omega)]
    refine h6.swap (z:=5) rfl hs5.symm (by omega) (by omega) fun M7 h7 k7=>?_
    rw[aZ (by omega) (by omega),Nat.add_sub_cancel]
    exact dx _ _ _ (by omega) ⟨k,_,rfl,rfl,by omega,h7,k6'.trans k7,by rw[bF]; exact hs5,hm5⟩
   ·exact out M6 h6 k6' (by rw[if_neg (by simp[h])])
  ·rw[decide_eq_false hg,jd]
   dsimp only
   rw[cz,bz]
   refine out M5 h5 k5 ?_
   cases j with
   | zero=>rfl
   | succ k=>rw[Sort.insInner,if_neg (by simp[hg])]
 ·have hge:¬ i<e:=of_decide_eq_false hge
  rw[Sort.insOuter,if_neg hge] at hm
  subst hm
  exact hQ M3 h3 k3
theorem aaD {T:Nat} {fv:AV} : SortG aF T 5 fv Sort.reverseRange (fun _ a e=>a<e) fun args M Q=>∃ a0 a1 a2 a3,args=[a0,a1,a2,a3]∧jO a0 a1 a2 a3 M Q:=by
 intro M b a e d Q hat hsz hae he hP hQ
 refine⟨_,_,_,_,rfl, ?_⟩
 unfold jO
 rw[aZ (by omega) (by omega)]
 rw[Sort.reverseRange] at hQ
 obtain⟨R,hR⟩ : ∃ R,R=Sort.reverseLoop a (e - 1) d:=⟨_,rfl⟩
 rw[← hR] at hQ
 refine aG (fun m ys M3=>∃ (i j:Nat) (d3:Array aH),m=j - i∧ys=[N .i64 (i:Int),N .i64 (j:Int)]∧j<d.size∧i≤d.size∧At aF T b d3 M3∧ag [b] M M3∧d3.size=d.size∧R=Sort.reverseLoop i j d3) _ ⟨a,e - 1,d,rfl,rfl,by omega,by omega,hat,ag.refl _ _,rfl,hR⟩ ?_
 rintro next m ys M3 hnext ⟨i,j,d3,rfl,rfl,hj,hi,h3,k3,hs3,hm⟩
 dsimp only[aa]
 rw[dC]
 rw[Sort.reverseLoop] at hm
 refine aD (fun hlt=>?_) (fun hge=>?_)
 ·have hlt:i<j:=of_decide_eq_true hlt
  rw[if_pos hlt] at hm
  rw[h3.rd (z:=5) rfl hs3.symm (by omega),h3.rd (z:=5) rfl hs3.symm (by omega)]
  refine h3.swap (z:=5) rfl hs3.symm (by omega) (by omega) fun M4 h4 k4=>?_
  rw[add1 (by omega),aZ (by omega) (by omega)]
  exact hnext _ _ _ (by omega) ⟨i + 1,j - 1,_,rfl,rfl,by omega,by omega,h4,k3.trans k4,by rw[bF]; exact hs3,hm⟩
 ·have hge:¬ i<j:=of_decide_eq_false hge
  rw[if_neg hge] at hm
  subst hm
  exact hQ M3 h3 k3
def X4 (T:Nat) (fv:AV) (lt:aH→aH→Bool) (c:ai) : Prop:=∀ {M:RM} {b lo hi first:Nat} {d:Array aH} {Q:ak},At aF T b d M→d.size≤60000→first + hi≤d.size→lo≤1000000→(∀ M',At aF T b (Sort.siftDown lt hi first lo d) M'→ag [b] M M'→Q (.tup []) M') →
 c [sv b d.size 5,N .i64 (lo:Int),N .i64 (hi:Int),N .i64 (first:Int),fv] M Q
theorem WH {T:Nat} {fv:AV} {lt:aH→aH→Bool} {cv:FuncId→ai} (hl:iR aF lt (bD cv fv)) : X4 T fv lt fun args M Q=>∃ a0 a1 a2 a3 a4,args=[a0,a1,a2,a3,a4]∧lY cv a0 a1 a2 a3 a4 M Q:=by
 intro M b lo hi first d Q hat hsz hfe hlo hQ
 refine⟨_,_,_,_,_,rfl, ?_⟩
 unfold lY
 simp only[dP,dz,dK,bH]
 obtain⟨R,hR⟩ : ∃ R,R=Sort.siftDown lt hi first lo d:=⟨_,rfl⟩
 rw[← hR] at hQ
 refine aG (fun m ys M3=>∃ (r:Nat) (d3:Array aH),m=1000000 + hi - r∧ys=[N .i64 (r:Int)]∧(r≤1000000)∧At aF T b d3 M3∧ag [b] M M3∧d3.size=d.size∧R=Sort.siftDown lt hi first r d3) _ ⟨lo,d,rfl,rfl,hlo,hat,ag.refl _ _,rfl,hR⟩ ?_
 rintro next m ys M3 hnext ⟨r,d3,rfl,rfl,hr,h3,k3,hs3,hm⟩
 dsimp only[aa]
 rw[XP (by omega),add1 (by omega),eY]
 rw[Sort.siftDown] at hm
 refine aD (fun hg=>?_) (fun hg=>?_)
 ·rw[dif_pos (of_decide_eq_true hg)] at hm
  subst hm
  exact hQ M3 h3 k3
 have hg:¬ 2 * r + 1 ≥ hi:=of_decide_eq_false hg
 rw[dif_neg hg] at hm
 refine aT (fun zs M'=>∃ c:Nat,zs=[N .i64 (c:Int)]∧At aF T b d3 M'∧ag [b] M M'∧r<c∧c<hi∧R=if !lt d3[first + r]! d3[first + c]! then d3 else Sort.siftDown lt hi first c (Sort.swp d3 (first + r) (first + c))) ?_ ?_
 ·rintro zs M' ⟨c,rfl,h4,k4,hrc,ZO,hm2⟩
  dsimp only[aa]
  rw[addN (by omega),h4.rd (z:=5) rfl hs3.symm (by omega),addN (by omega),h4.rd (z:=5) rfl hs3.symm (by omega)]
  refine hl.use fun M5 k5=>?_
  have h5:=h4.keep k5
  have k5':=k4.trans (k5.mono (cs:=[b]) (by simp))
  rw[bu]
  refine aD (fun h=>?_) (fun h=>?_)
  ·rw[if_pos h] at hm2
   subst hm2
   exact hQ M5 h5 k5'
  ·rw[if_neg (by rw[h]; decide)] at hm2
   rw[addN (by omega),addN (by omega),addN (by omega),h5.rd (z:=5) rfl hs3.symm (by omega),addN (by omega),h5.rd (z:=5) rfl hs3.symm (by omega)]
   refine h5.swap (z:=5) rfl hs3.symm (by omega) (by omega) fun M6 h6 k6=>?_
   exact hnext _ _ _ (by omega) ⟨c,_,rfl,rfl,by omega,h6,k5'.trans k6,by rw[bF]; exact hs3,hm2⟩
 intro J hJ
 rw[add1 (by omega),dC]
 refine je (P:=fun M'=>At aF T b d3 M'∧ag [b] M M') (p:=lt d3[first + (2 * r + 1)]! d3[first + (2 * r + 1) + 1]!) ⟨h3,k3⟩ (fun hc k hk=>?_) fun M4 ⟨h4,k4⟩=>?_
 ·have hc:2 * r + 1 + 1<hi:=of_decide_eq_true hc
  rw[addN (by omega),h3.rd (z:=5) rfl hs3.symm (by omega),addN (by omega),add1 (by omega),h3.rd (z:=5) rfl hs3.symm (by omega)]
  exact hl.use fun M5 k5=>hk M5 ⟨h3.keep k5,k3.trans (k5.mono (cs:=[b]) (by simp))⟩
 refine aD (fun h=>?_) (fun h=>?_)
 ·have hc:2 * r + 1 + 1<hi:=by
   rw[Bool.and_eq_true] at h
   exact of_decide_eq_true h.1
  rw[add1 (by omega)]
  refine hJ _ _ ⟨2 * r + 2,rfl,h4,k4,by omega,by omega, ?_⟩
  rw[if_pos h,dif_pos (by omega)] at hm
  exact hm
 ·refine hJ _ _ ⟨2 * r + 1,rfl,h4,k4,by omega,by omega, ?_⟩
  rw[if_neg (by rw[h]; decide)] at hm
  exact hm
theorem Wo {T:Nat} {fv:AV} {lt:aH→aH→Bool} {cs:ai} (hs:X4 T fv lt cs) : SortG aF T 5 fv (Sort.heapSort lt) (fun _ a e=>a<e) fun args M Q=>∃ a0 a1 a2 a3,args=[a0,a1,a2,a3]∧ma cs a0 a1 a2 a3 M Q:=by
 intro M b a e d Q hat hsz hae he hP hQ
 refine⟨_,_,_,_,rfl, ?_⟩
 unfold ma
 rw[Sort.heapSort] at hQ
 rw[df hae (by omega),aZ (by omega) (by omega),gK]
 refine⟨by decide, ?_⟩
 rw[show(2:Int)=((2:Nat) : Int) from rfl,jE,aS (by omega) (by omega)]
 obtain⟨R,hR⟩ : ∃ R,R=Sort.heapBuild lt (e - a) a ((e - a - 1) / 2 + 1) d:=⟨_,rfl⟩
 rw[← hR] at hQ
 refine aG (fun m ys M3=>∃ (k:Nat) (d3:Array aH),m=k + 1∧ys=[N .i64 ((k:Int) - 1)]∧k≤(e - a - 1) / 2 + 1∧At aF T b d3 M3∧ag [b] M M3∧d3.size=d.size∧R=Sort.heapBuild lt (e - a) a k d3) _ ⟨(e - a - 1) / 2 + 1,d,rfl,by congr 3; omega,Nat.le_refl _,hat,ag.refl _ _,rfl,hR⟩ ?_
 rintro next m ys M3 hnext ⟨k,d3,rfl,rfl,hk,h3,k3,hs3,hm⟩
 dsimp only[aa]
 rw[fU]
 refine aD (fun hg=>?_) (fun hg=>?_)
 ·have hg:1≤k:=by
   have:(k:Int) - 1 ≥ 0:=of_decide_eq_true hg
   omega
  obtain⟨k',rfl⟩ : ∃ k',k=k' + 1:=⟨k - 1,by omega⟩
  rw[Sort.heapBuild] at hm
  rw[show((k' + 1:Nat) : Int) - 1=(k' : Int) by omega,← hs3]
  refine hs h3 (by omega) (by omega) (by omega) fun M4 h4 k4=>?_
  rw[eT,aS (by omega) (by omega)]
  exact hnext _ _ _ (by omega) ⟨k',_,rfl,rfl,by omega,h4,k3.trans k4,by rw[rQ lt _ _ (e - a) _ _ (by omega)]; exact hs3,hm⟩
 ·have hk0:k=0:=by
   have:¬ (k:Int) - 1 ≥ 0:=of_decide_eq_false hg
   omega
  subst hk0
  rw[Sort.heapBuild] at hm
  rw[hm] at hQ
  rw[aZ (by omega) (by omega)]
  obtain⟨R4,hR4⟩ : ∃ R4,R4=Sort.heapPop lt a (e - a) d3:=⟨_,rfl⟩
  rw[← hR4] at hQ
  refine aG (fun m ys M4=>∃ (k:Nat) (d4:Array aH),m=k + 1∧ys=[N .i64 ((k:Int) - 1)]∧k≤e - a∧At aF T b d4 M4∧ag [b] M M4∧d4.size=d.size∧R4=Sort.heapPop lt a k d4) _ ⟨e - a,d3,rfl,by congr 3; omega,Nat.le_refl _,h3,k3,hs3,hR4⟩ ?_
  rintro fq m ys M4 dx ⟨k,d4,rfl,rfl,hk,h4,k4,hs4,hm4⟩
  dsimp only[aa]
  rw[fU]
  refine aD (fun hg=>?_) (fun hg=>?_)
  ·have hg:1≤k:=by
    have:(k:Int) - 1 ≥ 0:=of_decide_eq_true hg
    omega
   obtain⟨k',rfl⟩ : ∃ k',k=k' + 1:=⟨k - 1,by omega⟩
   rw[Sort.heapPop] at hm4
   rw[show((k' + 1:Nat) : Int) - 1=(k' : Int) by omega,addN (by omega),addN (by omega),h4.rd (z:=5) rfl hs4.symm (by omega),h4.rd (z:=5) rfl hs4.symm (by omega)]
   refine h4.swap (z:=5) rfl hs4.symm (by omega) (by omega) fun M5 h5 k5=>?_
   rw[show d.size=(Sort.swp d4 a (a + k')).size by rw[bF]; exact hs4.symm]
   refine hs (lo:=0) h5 (by rw[bF]; omega) (by rw[bF]; omega) (by decide) fun M6 h6 k6=>?_
   rw[eT,aS (by omega) (by omega)]
   exact dx _ _ _ (by omega) ⟨k',_,rfl,rfl,by omega,h6,(k4.trans k5).trans k6,by rw[rQ lt _ _ k' _ _ (by omega),bF]; exact hs4,hm4⟩
  ·have hk0:k=0:=by
    have:¬ (k:Int) - 1 ≥ 0:=of_decide_eq_false hg
    omega
   subst hk0
   rw[Sort.heapPop] at hm4
   subst hm4
   exact hQ M4 h4 k4
def OA (T:Nat) (fv:AV) (lt:aH→aH→Bool) (c:ai) : Prop:=∀ {M:RM} {b a e pv:Nat} {d:Array aH} {Q:ak},At aF T b d M→d.size≤60000→a≤pv→pv<e→e≤d.size→(∀ M',At aF T b (Sort.partitionEqual lt d a e pv).2 M'→ag [b] M M'→Q (N .i64 (((Sort.partitionEqual lt d a e pv).1:Nat) : Int)) M') →
 c [sv b d.size 5,N .i64 (a:Int),N .i64 (e:Int),N .i64 (pv:Int),fv] M Q
theorem NE {T:Nat} {fv:AV} {lt:aH→aH→Bool} {cv:FuncId→ai} (hl:iR aF lt (bD cv fv)) : OA T fv lt fun args M Q=>∃ a0 a1 a2 a3 a4,args=[a0,a1,a2,a3,a4]∧ji cv a0 a1 a2 a3 a4 M Q:=by
 intro M b a e pv d Q hat hsz hap hpe he hQ
 refine⟨_,_,_,_,_,rfl, ?_⟩
 unfold ji
 simp only[dP,dz,dK]
 rw[Sort.partitionEqual] at hQ
 rw[hat.rd (z:=5) rfl rfl (by omega),hat.rd (z:=5) rfl rfl (by omega)]
 refine hat.swap (z:=5) rfl rfl (by omega) (by omega) fun M2 h2 k2=>?_
 rw[add1 (by omega),aZ (by omega) (by omega)]
 obtain⟨R,hR⟩ : ∃ R,R=Sort.partEqLoop lt a (a + 1) (e - 1) (Sort.swp d a pv):=⟨_,rfl⟩
 rw[← hR] at hQ
 refine aG (fun m ys M3=>∃ (i j:Nat) (d3:Array aH),m=j + 1 - i∧ys=[N .i64 (i:Int),N .i64 (j:Int)]∧a + 1≤i∧i≤e + 1∧j<e∧At aF T b d3 M3∧ag [b] M M3∧d3.size=d.size∧R=Sort.partEqLoop lt a i j d3) _ ⟨a + 1,e - 1,_,rfl,rfl,Nat.le_refl _,by omega,by omega,h2,k2,bF _ _ _,hR⟩ ?_
 rintro next m ys M3 hnext ⟨i,j,d3,rfl,rfl,hai,hie,hje,h3,k3,hs3,hm⟩
 dsimp only[aa]
 rw[Sort.partEqLoop] at hm
 refine qV (P:=fun M'=>At aF T b d3 M'∧ag [b] M M') (p:=fun x=>!lt d3[a]! x) (d:=d3) (J:=j) ⟨h3,k3⟩ fun fq i2 M4 ⟨h4,k4⟩ h0 h1 hgo hstop=>?_
 dsimp only[aa]
 rw[gU]
 refine je (P:=fun M'=>At aF T b d3 M'∧ag [b] M M') (p:=!lt d3[a]! d3[i2]!) ⟨h4,k4⟩ (fun hc k hk=>?_) fun M5 h5=>?_
 ·have hc:i2≤j:=of_decide_eq_true hc
  rw[h4.rd (z:=5) rfl hs3.symm (by omega),h4.rd (z:=5) rfl hs3.symm (by omega)]
  refine hl.use fun M5 k5=>?_
  rw[bu]
  exact hk M5 ⟨h4.keep k5,k4.trans (k5.mono (cs:=[b]) (by simp))⟩
 refine aD (fun h=>?_) (fun h=>?_)
 ·rw[add1 (by omega)]
  exact hgo h M5 h5
 have hi2:=hstop h
 rw[← hi2] at hm
 refine mG (P:=fun M'=>At aF T b d3 M'∧ag [b] M M') (p:=fun x=>lt d3[a]! x) (d:=d3) (i:=i2) h5 (by omega) fun kW j2 M6 ⟨h6,k6⟩ q0 q1 lH gp=>?_
 dsimp only[aa]
 rw[gU]
 refine je (P:=fun M'=>At aF T b d3 M'∧ag [b] M M') (p:=lt d3[a]! d3[j2]!) ⟨h6,k6⟩ (fun hc k hk=>?_) fun M7 ⟨h7,k7⟩=>?_
 ·have hc:i2≤j2:=of_decide_eq_true hc
  rw[h6.rd (z:=5) rfl hs3.symm (by omega),h6.rd (z:=5) rfl hs3.symm (by omega)]
  exact hl.use fun M5 k5=>hk M5 ⟨h6.keep k5,k6.trans (k5.mono (cs:=[b]) (by simp))⟩
 refine aD (fun h=>?_) (fun h=>?_)
 ·have hc:i2≤j2:=by
   rw[Bool.and_eq_true] at h
   exact of_decide_eq_true h.1
  rw[aZ (by omega) (by omega)]
  exact lH h M7 ⟨h7,k7⟩
 have hj2:=gp h
 simp only[← hj2] at hm
 rw[lX]
 refine aD (fun hg=>?_) (fun hg=>?_)
 ·rw[if_pos (of_decide_eq_true hg)] at hm
  rw[hm] at hQ
  exact hQ M7 h7 k7
 ·have hg:¬ i2 > j2:=of_decide_eq_false hg
  rw[if_neg hg,dif_pos (by omega)] at hm
  rw[h7.rd (z:=5) rfl hs3.symm (by omega),h7.rd (z:=5) rfl hs3.symm (by omega)]
  refine h7.swap (z:=5) rfl hs3.symm (by omega) (by omega) fun M8 h8 k8=>?_
  rw[add1 (by omega),aZ (by omega) (by omega)]
  exact hnext _ _ _ (by omega) ⟨i2 + 1,j2 - 1,_,rfl,rfl,by omega,by omega,by omega,h8,k7.trans k8,by rw[bF,hs3],hm⟩
def VJ (T:Nat) (fv:AV) (lt:aH→aH→Bool) (c:ai) : Prop:=∀ {M:RM} {b a e pv:Nat} {d:Array aH} {Q:ak},At aF T b d M→d.size≤60000→a≤pv→pv<e→e≤d.size→(∀ M',At aF T b (Sort.partition lt d a e pv).2.2 M'→ag [b] M M'→Q (.tup [N .i64 (((Sort.partition lt d a e pv).1:Nat) : Int),Bo (Sort.partition lt d a e pv).2.1]) M') →
 c [sv b d.size 5,N .i64 (a:Int),N .i64 (e:Int),N .i64 (pv:Int),fv] M Q
theorem WI {T:Nat} {fv:AV} {lt:aH→aH→Bool} {cv:FuncId→ai} (hl:iR aF lt (bD cv fv)) : VJ T fv lt fun args M Q=>∃ a0 a1 a2 a3 a4,args=[a0,a1,a2,a3,a4]∧lc cv a0 a1 a2 a3 a4 M Q:=by
 intro M b a e pv d Q hat hsz hap hpe he hQ
 refine⟨_,_,_,_,_,rfl, ?_⟩
 unfold lc
 simp only[dP,dz,dK]
 have hs2:=bF d a pv
 rw[qI] at hQ
 rw[hat.rd (z:=5) rfl rfl (by omega),hat.rd (z:=5) rfl rfl (by omega)]
 refine hat.swap (z:=5) rfl rfl (by omega) (by omega) fun M2 h2 k2=>?_
 rw[add1 (by omega),aZ (by omega) (by omega)]
 generalize Sort.swp d a pv=d2 at *
 refine qV (P:=fun M'=>At aF T b d2 M'∧ag [b] M M') (p:=fun x=>lt x d2[a]!) (d:=d2) (J:=e - 1) ⟨h2,k2⟩ fun fq i M3 ⟨h3,k3⟩ h0 h1 hgo hstop=>?_
 dsimp only[aa]
 rw[gU]
 refine je (P:=fun M'=>At aF T b d2 M'∧ag [b] M M') (p:=lt d2[i]! d2[a]!) ⟨h3,k3⟩ (fun hc k hk=>?_) fun M4 h4=>?_
 ·have hc:i≤e - 1:=of_decide_eq_true hc
  rw[h3.rd (z:=5) rfl hs2.symm (by omega),h3.rd (z:=5) rfl hs2.symm (by omega)]
  exact hl.use fun M5 k5=>hk M5 ⟨h3.keep k5,k3.trans (k5.mono (cs:=[b]) (by simp))⟩
 refine aD (fun h=>?_) (fun h=>?_)
 ·rw[add1 (by omega)]
  exact hgo h M4 h4
 have hi2:i=pI lt d2 a e:=hstop h
 have uT:pJ lt d2 a e=Sort.scanDown (fun x=>!lt x d2[a]!) d2 (pI lt d2 a e) (e - 1):=rfl
 have uw:pL lt d2 a e=Sort.partLoop lt a (pI lt d2 a e + 1) (pJ lt d2 a e - 1) (Sort.swp d2 (pI lt d2 a e) (pJ lt d2 a e)):=rfl
 rw[← hi2] at uT uw hQ
 refine mG (P:=fun M'=>At aF T b d2 M'∧ag [b] M M') (p:=fun x=>!lt x d2[a]!) (d:=d2) (i:=i) h4 (by omega) fun kW j M5 ⟨h5,k5⟩ q0 q1 lH gp=>?_
 dsimp only[aa]
 rw[gU]
 refine je (P:=fun M'=>At aF T b d2 M'∧ag [b] M M') (p:=!lt d2[j]! d2[a]!) ⟨h5,k5⟩ (fun hc k hk=>?_) fun M6 ⟨h6,k6⟩=>?_
 ·have hc:i≤j:=of_decide_eq_true hc
  rw[h5.rd (z:=5) rfl hs2.symm (by omega),h5.rd (z:=5) rfl hs2.symm (by omega)]
  refine hl.use fun M7 k7=>?_
  rw[bu]
  exact hk M7 ⟨h5.keep k7,k5.trans (k7.mono (cs:=[b]) (by simp))⟩
 refine aD (fun h=>?_) (fun h=>?_)
 ·have hc:i≤j:=by
   rw[Bool.and_eq_true] at h
   exact of_decide_eq_true h.1
  rw[aZ (by omega) (by omega)]
  exact lH h M6 ⟨h6,k6⟩
 have hj2:=gp h
 rw[← hj2] at uT
 rw[uT] at uw hQ
 rw[lX]
 refine aD (fun hg=>?_) (fun hg=>?_)
 ·rw[if_pos (of_decide_eq_true hg)] at hQ
  rw[h6.rd (z:=5) rfl hs2.symm (by omega),h6.rd (z:=5) rfl hs2.symm (by omega)]
  exact h6.swap (z:=5) rfl hs2.symm (by omega) (by omega) fun M7 h7 k7=>hQ M7 h7 (k6.trans k7)
 have hg:¬ i > j:=of_decide_eq_false hg
 rw[if_neg hg] at hQ
 rw[h6.rd (z:=5) rfl hs2.symm (by omega),h6.rd (z:=5) rfl hs2.symm (by omega)]
 refine h6.swap (z:=5) rfl hs2.symm (by omega) (by omega) fun M7 h7 k7=>?_
 rw[add1 (by omega),aZ (by omega) (by omega)]
 generalize pL lt d2 a e=R at *
 refine aG (fun m ys M3=>∃ (i j:Nat) (d3:Array aH),m=j + 1 - i∧ys=[N .i64 (i:Int),N .i64 (j:Int)]∧a + 1≤i∧i≤e + 1∧j<e∧At aF T b d3 M3∧ag [b] M M3∧d3.size=d.size∧R=Sort.partLoop lt a i j d3) _ ⟨i + 1,j - 1,_,rfl,rfl,by omega,by omega,by omega,h7,k6.trans k7,by rw[bF,hs2],uw⟩ ?_
 rintro next m ys M3 hnext ⟨i,j,d3,rfl,rfl,hai,hie,hje,h3,k3,hs3,hm⟩
 dsimp only[aa]
 rw[Sort.partLoop] at hm
 refine qV (P:=fun M'=>At aF T b d3 M'∧ag [b] M M') (p:=fun x=>lt x d3[a]!) (d:=d3) (J:=j) ⟨h3,k3⟩ fun fq i2 M4 ⟨h4,k4⟩ h0 h1 hgo hstop=>?_
 dsimp only[aa]
 rw[gU]
 refine je (P:=fun M'=>At aF T b d3 M'∧ag [b] M M') (p:=lt d3[i2]! d3[a]!) ⟨h4,k4⟩ (fun hc k hk=>?_) fun M5 h5=>?_
 ·have hc:i2≤j:=of_decide_eq_true hc
  rw[h4.rd (z:=5) rfl hs3.symm (by omega),h4.rd (z:=5) rfl hs3.symm (by omega)]
  exact hl.use fun M5 k5=>hk M5 ⟨h4.keep k5,k4.trans (k5.mono (cs:=[b]) (by simp))⟩
 refine aD (fun h=>?_) (fun h=>?_)
 ·rw[add1 (by omega)]
  exact hgo h M5 h5
 have hi2:=hstop h
 rw[← hi2] at hm
 refine mG (P:=fun M'=>At aF T b d3 M'∧ag [b] M M') (p:=fun x=>!lt x d3[a]!) (d:=d3) (i:=i2) h5 (by omega) fun kW j2 M6 ⟨h6,k6⟩ q0 q1 lH gp=>?_
 dsimp only[aa]
 rw[gU]
 refine je (P:=fun M'=>At aF T b d3 M'∧ag [b] M M') (p:=!lt d3[j2]! d3[a]!) ⟨h6,k6⟩ (fun hc k hk=>?_) fun M7 ⟨h7,k7⟩=>?_
 ·have hc:i2≤j2:=of_decide_eq_true hc
  rw[h6.rd (z:=5) rfl hs3.symm (by omega),h6.rd (z:=5) rfl hs3.symm (by omega)]
  refine hl.use fun M8 k8=>?_
  rw[bu]
  exact hk M8 ⟨h6.keep k8,k6.trans (k8.mono (cs:=[b]) (by simp))⟩
 refine aD (fun h=>?_) (fun h=>?_)
 ·have hc:i2≤j2:=by
   rw[Bool.and_eq_true] at h
   exact of_decide_eq_true h.1
  rw[aZ (by omega) (by omega)]
  exact lH h M7 ⟨h7,k7⟩
 have hj2:=gp h
 simp only[← hj2] at hm
 rw[lX]
 refine aD (fun hg=>?_) (fun hg=>?_)
 ·rw[if_pos (of_decide_eq_true hg)] at hm
  rw[hm] at hQ
  rw[h7.rd (z:=5) rfl hs3.symm (by omega),h7.rd (z:=5) rfl hs3.symm (by omega)]
  exact h7.swap (z:=5) rfl hs3.symm (by omega) (by omega) fun M8 h8 k8=>hQ M8 h8 (k7.trans k8)
 ·have hg:¬ i2 > j2:=of_decide_eq_false hg
  rw[if_neg hg,dif_pos (by omega)] at hm
  rw[h7.rd (z:=5) rfl hs3.symm (by omega),h7.rd (z:=5) rfl hs3.symm (by omega)]
  refine h7.swap (z:=5) rfl hs3.symm (by omega) (by omega) fun M8 h8 k8=>?_
  rw[add1 (by omega),aZ (by omega) (by omega)]
  exact hnext _ _ _ (by omega) ⟨i2 + 1,j2 - 1,_,rfl,rfl,by omega,by omega,by omega,h8,k7.trans k8,by rw[bF,hs3],hm⟩
def KX (T TI b s:Nat) (d:Array aH) (k:Nat) (M:RM) : Prop:=At aF T b d M∧M.heap s=some (.row [N .i64 (k:Int)] false TI 0)∧s<M.next
def OB (T TI:Nat) (fv:AV) (lt:aH→aH→Bool) (c:ai) : Prop:=∀ {M:RM} {b s k i j:Nat} {d:Array aH} {Q:ak},KX T TI b s d k M→s≠b→i<d.size→j<d.size→k≤1000 →
 (∀ M',KX T TI b s d (Sort.order2 lt d i j k).2.2 M'→ag [s] M M'→Q (.tup [N .i64 (((Sort.order2 lt d i j k).1:Nat) : Int),N .i64 (((Sort.order2 lt d i j k).2.1:Nat) : Int)]) M')→c [sv b d.size 5,N .i64 (i:Int),N .i64 (j:Int),.ptr s 0,fv] M Q
theorem L9 {T TI:Nat} {fv:AV} {lt:aH→aH→Bool} {cv:FuncId→ai} (hl:iR aF lt (bD cv fv)) : OB T TI fv lt fun args M Q=>∃ a0 a1 a2 a3 a4,args=[a0,a1,a2,a3,a4]∧nN cv a0 a1 a2 a3 a4 M Q:=by
 intro M b s k i j d Q ⟨hat,hh,hlt⟩ hsb hi hj hk hQ
 refine⟨_,_,_,_,_,rfl, ?_⟩
 unfold nN
 rw[hat.rd (z:=5) rfl rfl (by omega),hat.rd (z:=5) rfl rfl (by omega)]
 refine hl.use fun M1 k1=>?_
 have h1:=hat.keep k1
 have hh1:=k1.aK hh hlt (by simp)
 have n1:=k1.next
 unfold Sort.order2 at hQ
 refine aD (fun h=>?_) (fun h=>?_)
 ·rw[if_pos h] at hQ
  rw[aU,aA hh1 rfl,add1 (by omega),aU,dV hh1 (by simp) rfl rfl]
  have kk:ag [s] M1 (M1.put s (.row ([N .i64 (k:Int)].set 0 (N .i64 ((k + 1:Nat) : Int))) false TI 0)):=(ag.refl _ _).put _ (.inr (by simp))
  refine hQ _ ⟨h1.keep' kk (by simp; omega),aN _,by rw[gJ]; omega⟩ ((k1.mono (by simp)).trans kk)
 ·rw[if_neg (by rw[h]; decide)] at hQ
  exact hQ M1 ⟨h1,hh1,by omega⟩ (k1.mono (by simp))
def GV (T TI:Nat) (fv:AV) (lt:aH→aH→Bool) (c:ai) : Prop:=∀ {M:RM} {b s k i j h:Nat} {d:Array aH} {Q:ak},KX T TI b s d k M→s≠b→i<d.size→j<d.size→h<d.size→k≤900 →
 (∀ M',KX T TI b s d (Sort.median lt d i j h k).2 M'→ag [s] M M'→Q (N .i64 (((Sort.median lt d i j h k).1:Nat) : Int)) M')→c [sv b d.size 5,N .i64 (i:Int),N .i64 (j:Int),N .i64 (h:Int),.ptr s 0,fv] M Q
theorem GH {T TI:Nat} {fv:AV} {lt:aH→aH→Bool} {c2:ai} (h2:OB T TI fv lt c2) : GV T TI fv lt fun args M Q=>∃ a0 a1 a2 a3 a4 a5,args=[a0,a1,a2,a3,a4,a5]∧nJ c2 a0 a1 a2 a3 a4 a5 M Q:=by
 intro M b s k i j h d Q hsw hsb hi hj hh hk hQ
 refine⟨_,_,_,_,_,_,rfl, ?_⟩
 unfold nJ
 unfold Sort.median at hQ
 have o1:=om lt d i j k
 refine h2 hsw hsb hi hj (by omega) fun M1 s1 k1=>?_
 rw[fo,fu]
 dsimp only at hQ
 generalize Sort.order2 lt d i j k=r1 at *
 have o2:=om lt d r1.2.1 h r1.2.2
 refine h2 s1 hsb (by omega) hh (by omega) fun M2 s2 k2=>?_
 rw[fo,fu]
 generalize Sort.order2 lt d r1.2.1 h r1.2.2=r2 at *
 refine h2 s2 hsb (by omega) (by omega) (by omega) fun M3 s3 k3=>?_
 rw[fo,fu]
 exact hQ M3 s3 ((k1.trans k2).trans k3)
def NT (T TI:Nat) (fv:AV) (lt:aH→aH→Bool) (c:ai) : Prop:=∀ {M:RM} {b s k i:Nat} {d:Array aH} {Q:ak},KX T TI b s d k M→s≠b→d.size≤60000→1≤i→i + 1<d.size→k≤900 →
 (∀ M',KX T TI b s d (Sort.medianAdjacent lt d i k).2 M'→ag [s] M M'→Q (N .i64 (((Sort.medianAdjacent lt d i k).1:Nat) : Int)) M')→c [sv b d.size 5,N .i64 (i:Int),.ptr s 0,fv] M Q
theorem Ni {T TI:Nat} {fv:AV} {lt:aH→aH→Bool} {cm:ai} (hm:GV T TI fv lt cm) : NT T TI fv lt fun args M Q=>∃ a0 a1 a2 a3,args=[a0,a1,a2,a3]∧jh cm a0 a1 a2 a3 M Q:=by
 intro M b s k i d Q hsw hsb hsz h1 h2 hk hQ
 refine⟨_,_,_,_,rfl, ?_⟩
 unfold jh
 rw[aZ (by omega) (by omega),add1 (by omega)]
 exact hm hsw hsb (by omega) (by omega) (by omega) hk fun M1 s1 k1=>hQ M1 s1 k1
def En (lt:aH→aH→Bool) (d:Array aH) (a e:Nat) : Nat × Nat :=
 if e - a ≥ 8 then(if e - a ≥ 50 then Sort.median lt d (Sort.medianAdjacent lt d (a + (e - a) / 4 * 1) 0).1 (Sort.medianAdjacent lt d (a + (e - a) / 4 * 2) (Sort.medianAdjacent lt d (a + (e - a) / 4 * 1) 0).2).1 (Sort.medianAdjacent lt d (a + (e - a) / 4 * 3) (Sort.medianAdjacent lt d (a + (e - a) / 4 * 2) (Sort.medianAdjacent lt d (a + (e - a) / 4 * 1) 0).2).2).1 (Sort.medianAdjacent lt d (a + (e - a) / 4 * 3) (Sort.medianAdjacent lt d (a + (e - a) / 4 * 2) (Sort.medianAdjacent lt d (a + (e - a) / 4 * 1) 0).2).2).2
  else Sort.median lt d (a + (e - a) / 4 * 1) (a + (e - a) / 4 * 2) (a + (e - a) / 4 * 3) 0) else(a + (e - a) / 4 * 2,0)
theorem aaW (lt:aH→aH→Bool) (d:Array aH) (a e:Nat) : Sort.choosePivot lt d a e=((En lt d a e).1,if (En lt d a e).2=0 then .increasing else if (En lt d a e).2=12 then .decreasing else .unknown):=rfl
def Oo (T:Nat) (fv:AV) (lt:aH→aH→Bool) (c:ai) : Prop:=∀ {M:RM} {b a e:Nat} {d:Array aH} {Q:ak},At aF T b d M→d.size≤60000→a<e→e≤d.size →
 (∀ M',At aF T b d M'→ag [] M M'→Q (.tup [N .i64 (((Sort.choosePivot lt d a e).1:Nat) : Int),N .i64 (iL (Sort.choosePivot lt d a e).2)]) M')→c [sv b d.size 5,N .i64 (a:Int),N .i64 (e:Int),fv] M Q
theorem MH {T TI:Nat} {fv:AV} {lt:aH→aH→Bool} {ca cm:ai} (ha:NT T TI fv lt ca) (hm:GV T TI fv lt cm) : Oo T fv lt fun args M Q=>∃ a0 a1 a2 a3,args=[a0,a1,a2,a3]∧kF TI ca cm a0 a1 a2 a3 M Q:=by
 intro M b a e d Q hat hsz hae he hQ
 refine⟨_,_,_,_,rfl, ?_⟩
 unfold kF
 simp only[bH]
 rw[df (by omega) (by omega),aX]
 have kk:ag [] M (M.push (.row [N .i64 0] false TI 0)):=(ag.refl _ _).push _
 have sw0:KX T TI b M.next d 0 (M.push (.row [N .i64 0] false TI 0)):=⟨hat.keep kk,RM.aQ _,by simp[RM.push]⟩
 have hsb:M.next≠b:=by have:=hat.lt; omega
 have back:∀ M',ag [M.next] (M.push (.row [N .i64 0] false TI 0)) M'→ag [] M M':=fun M' k=>kk.bW k fun c hc=>.inl (by simp at hc; omega)
 generalize M.push (.row [N .i64 0] false TI 0)=M1 at *
 generalize M.next=s at *
 have hq:∀ (k:Nat) (c:Int),c=(k:Int)→k≤3→∀ (K:AV→Prop),(af .quo (N .i64 ((e - a:Nat) : Int)) (N .i64 4) fun t18=>af .mul t18 (N .i64 c) fun t19=>af .add (N .i64 (a:Int)) t19 K)=K (N .i64 ((a + (e - a) / 4 * k:Nat) : Int)):=fun k c hc hk K=>by
  subst hc
  have hb:(e - a) / 4 * k≤(e - a) * 3:=Nat.mul_le_mul (Nat.div_le_self _ _) hk
  rw[gK,show(4:Int)=((4:Nat) : Int) from rfl,jE,aS (by omega) (by omega),nZ,← Int.natCast_mul,aS (by omega) (by omega),addN (by omega)]
  exact propext ⟨fun h=>h.2,fun h=>⟨by decide,h⟩⟩
 rw[hq 1 1 rfl (by omega),hq 2 2 rfl (by omega),hq 3 3 rfl (by omega)]
 rw[aaW] at hQ
 have hr:En lt d a e=En lt d a e:=rfl
 conv at hr=>rhs; unfold En
 generalize En lt d a e=r at *
 refine aT (fun zs M'=>zs=[N .i64 ((r.1:Nat) : Int)]∧KX T TI b s d r.2 M'∧ag [s] M1 M') ?_ ?_
 ·rintro zs M' ⟨rfl,⟨h3,hh,_⟩,k3⟩
  dsimp only[aa]
  have:=hQ M' h3 (back M' k3)
  rw[aA hh rfl,bV]
  by_cases h0:r.2=0
  ·rw[show((r.2:Int) == 0)=true by rw[h0]; rfl,cO]
   rw[if_pos h0] at this
   exact this
  ·rw[show((r.2:Int) == 0)=false by rw[beq_eq_false_iff_ne]; omega,bz,bV]
   rw[if_neg h0] at this
   by_cases h12:r.2=12
   ·rw[show((r.2:Int) == 12)=true by rw[h12]; rfl,cO]
    rw[if_pos h12] at this
    exact this
   ·rw[show((r.2:Int) == 12)=false by rw[beq_eq_false_iff_ne]; omega,bz]
    rw[if_neg h12] at this
    exact this
 intro J hJ
 rw[show(8:Int)=((8:Nat) : Int) from rfl,eY]
 refine aD (fun h8=>?_) (fun h8=>?_)
 ·have h8:e - a ≥ 8:=of_decide_eq_true h8
  rw[if_pos h8] at hr
  refine aT (fun zs M'=>∃ x y z k:Nat,zs=[N .i64 (x:Int),N .i64 (y:Int),N .i64 (z:Int)]∧KX T TI b s d k M'∧ag [s] M1 M'∧x<d.size∧y<d.size∧z<d.size∧k≤900∧r=Sort.median lt d x y z k) ?_ ?_
  ·rintro zs M' ⟨x,y,z,k,rfl,s3,k3,hx,hy,hz,hk,rfl⟩
   dsimp only[aa]
   exact hm s3 hsb hx hy hz hk fun M4 s4 k4=>hJ _ _ ⟨rfl,s4,k3.trans k4⟩
  intro J0 hJ0
  rw[show(50:Int)=((50:Nat) : Int) from rfl,eY]
  refine aD (fun h50=>?_) (fun h50=>?_)
  ·have h50:e - a ≥ 50:=of_decide_eq_true h50
   rw[if_pos h50] at hr
   have m1:=ol lt d (i:=a + (e - a) / 4 * 1 - 1) (j:=a + (e - a) / 4 * 1) (h:=a + (e - a) / 4 * 1 + 1) (k:=0) (n:=d.size) (by omega) (by omega) (by omega)
   have r1:(Sort.medianAdjacent lt d (a + (e - a) / 4 * 1) 0).1<d.size∧(Sort.medianAdjacent lt d (a + (e - a) / 4 * 1) 0).2≤0 + 3:=m1
   refine ha sw0 hsb hsz (by omega) (by omega) (by omega) fun M2 s2 k2=>?_
   generalize Sort.medianAdjacent lt d (a + (e - a) / 4 * 1) 0=q1 at *
   have m2:=ol lt d (i:=a + (e - a) / 4 * 2 - 1) (j:=a + (e - a) / 4 * 2) (h:=a + (e - a) / 4 * 2 + 1) (k:=q1.2) (n:=d.size) (by omega) (by omega) (by omega)
   have r2:(Sort.medianAdjacent lt d (a + (e - a) / 4 * 2) q1.2).1<d.size∧(Sort.medianAdjacent lt d (a + (e - a) / 4 * 2) q1.2).2≤q1.2 + 3:=m2
   refine ha s2 hsb hsz (by omega) (by omega) (by omega) fun M3 s3 k3=>?_
   generalize Sort.medianAdjacent lt d (a + (e - a) / 4 * 2) q1.2=q2 at *
   have m3:=ol lt d (i:=a + (e - a) / 4 * 3 - 1) (j:=a + (e - a) / 4 * 3) (h:=a + (e - a) / 4 * 3 + 1) (k:=q2.2) (n:=d.size) (by omega) (by omega) (by omega)
   have r3:(Sort.medianAdjacent lt d (a + (e - a) / 4 * 3) q2.2).1<d.size∧(Sort.medianAdjacent lt d (a + (e - a) / 4 * 3) q2.2).2≤q2.2 + 3:=m3
   refine ha s3 hsb hsz (by omega) (by omega) (by omega) fun M4 s4 k4=>?_
   generalize Sort.medianAdjacent lt d (a + (e - a) / 4 * 3) q2.2=q3 at *
   exact hJ0 _ _ ⟨q1.1,q2.1,q3.1,q3.2,rfl,s4,(k2.trans k3).trans k4,r1.1,r2.1,r3.1,by omega,hr⟩
  ·have h50:¬ e - a ≥ 50:=of_decide_eq_false h50
   rw[if_neg h50] at hr
   exact hJ0 _ _ ⟨_,_,_,0,rfl,sw0,ag.refl _ _,by omega,by omega,by omega,by omega,hr⟩
 ·have h8:¬ e - a ≥ 8:=of_decide_eq_false h8
  rw[if_neg h8] at hr
  subst hr
  exact hJ _ _ ⟨rfl,sw0,ag.refl _ _⟩
def Jq (T:Nat) (fv:AV) (lt:aH→aH→Bool) (c:ai) : Prop:=∀ {M:RM} {b a e:Nat} {d:Array aH} {Q:ak},At aF T b d M→d.size≤60000→a<e→e≤d.size→(∀ M',At aF T b (Sort.partialInsertionSort lt d a e).1 M'→ag [b] M M'→Q (Bo (Sort.partialInsertionSort lt d a e).2) M') →
 c [sv b d.size 5,N .i64 (a:Int),N .i64 (e:Int),fv] M Q
theorem JG {T:Nat} {fv:AV} {lt:aH→aH→Bool} {cv:FuncId→ai} (hl:iR aF lt (bD cv fv)) : Jq T fv lt fun args M Q=>∃ a0 a1 a2 a3,args=[a0,a1,a2,a3]∧gu cv a0 a1 a2 a3 M Q:=by
 intro M b a e d Q hat hsz hae he hQ
 refine⟨_,_,_,_,rfl, ?_⟩
 unfold gu
 simp only[dP,dz,dK,bH]
 rw[add1 (by omega)]
 unfold Sort.partialInsertionSort at hQ
 obtain⟨R,hR⟩ : ∃ R,R=Sort.partialIns lt a e 5 (a + 1) d:=⟨_,rfl⟩
 rw[← hR] at hQ
 refine aG (fun m ys M3=>∃ (i s:Nat) (d3:Array aH),m=s∧s≤5∧ys=[N .i64 (i:Int),N .i64 ((5 - s:Nat) : Int)]∧a + 1≤i∧i≤e∧At aF T b d3 M3∧ag [b] M M3∧d3.size=d.size∧R=Sort.partialIns lt a e s i d3) _ ⟨a + 1,5,d,rfl,by omega,rfl,by omega,by omega,hat,ag.refl _ _,rfl,hR⟩ ?_
 rintro next m ys M3 hnext ⟨i,s,d3,hms,hs5,rfl,hai,hie,h3,k3,hs3,hm⟩
 dsimp only[aa]
 rw[show(5:Int)=((5:Nat) : Int) from rfl,dC]
 refine aD (fun hg=>?_) (fun hg=>?_)
 ·have hg:5 - s<5:=of_decide_eq_true hg
  obtain⟨s',rfl⟩ : ∃ s',s=s' + 1:=⟨s - 1,by omega⟩
  rw[pK] at hm
  refine aT (fun zs M'=>∃ (i' : Nat) (d4:Array aH),zs=[N .i64 (i' : Int)]∧a + 1≤i'∧i'≤e∧At aF T b d4 M'∧ag [b] M M'∧d4.size=d.size∧R=Sort.partialIns lt a e s' i' d4) ?_ ?_
  ·rintro zs M' ⟨i',d4,rfl,h1,h2,h4,k4,h5,h6⟩
   dsimp only[aa]
   rw[add1 (by omega)]
   exact hnext _ _ _ (by omega) ⟨i',s',d4,rfl,by omega,by congr 4; omega,h1,h2,h4,k4,h5,h6⟩
  intro J hJ
  obtain⟨R5,hR5⟩ : ∃ R5,R5=Sort.scanSorted lt d3 e i:=⟨_,rfl⟩
  rw[← hR5] at hm
  refine aG (fun m ys M5=>∃ (j:Nat),m=e - j∧ys=[N .i64 (j:Int)]∧i≤j∧j≤e∧At aF T b d3 M5∧ag [b] M M5∧R5=Sort.scanSorted lt d3 e j) _ ⟨i,rfl,rfl,Nat.le_refl _,hie,h3,k3,hR5⟩ ?_
  rintro fq m ys M5 dx ⟨j,rfl,rfl,hij,hje,h5,k5,hm5⟩
  dsimp only[aa]
  rw[Sort.scanSorted] at hm5
  rw[dC]
  refine je (P:=fun M'=>At aF T b d3 M'∧ag [b] M M') (p:=!lt d3[j]! d3[j - 1]!) ⟨h5,k5⟩ (fun hc k hk=>?_) fun M6 ⟨h6,k6⟩=>?_
  ·have hc:j<e:=of_decide_eq_true hc
   rw[h5.rd (z:=5) rfl hs3.symm (by omega),aZ (by omega) (by omega),h5.rd (z:=5) rfl hs3.symm (by omega)]
   refine hl.use fun M7 k7=>?_
   rw[bu]
   exact hk M7 ⟨h5.keep k7,k5.trans (k7.mono (cs:=[b]) (by simp))⟩
  refine aD (fun h=>?_) (fun h=>?_)
  ·have hc:j<e:=by
    rw[Bool.and_eq_true] at h
    exact of_decide_eq_true h.1
   rw[if_pos h] at hm5
   rw[add1 (by omega)]
   exact dx _ _ _ (by omega) ⟨j + 1,rfl,rfl,by omega,by omega,h6,k6,hm5⟩
  rw[if_neg (by rw[h]; decide)] at hm5
  subst hm5
  rw[F8]
  refine aD (fun lK=>?_) (fun lK=>?_)
  ·rw[if_pos (of_decide_eq_true lK)] at hm
   rw[hm] at hQ
   exact hQ M6 h6 k6
  have lK:¬ R5=e:=of_decide_eq_false lK
  rw[if_neg lK] at hm
  rw[df (by omega) (by omega),show(50:Int)=((50:Nat) : Int) from rfl,dC]
  refine aD (fun h50=>?_) (fun h50=>?_)
  ·rw[if_pos (of_decide_eq_true h50)] at hm
   rw[hm] at hQ
   exact hQ M6 h6 k6
  rw[if_neg (of_decide_eq_false h50)] at hm
  rw[aZ (by omega) (by omega),aZ (by omega) (by omega),h6.rd (z:=5) rfl hs3.symm (by omega),h6.rd (z:=5) rfl hs3.symm (by omega)]
  refine h6.swap (z:=5) rfl hs3.symm (by omega) (by omega) fun M7 h7 k7'=>?_
  have k7:=k6.trans k7'
  have hs6:(Sort.swp d3 R5 (R5 - 1)).size=d.size:=by rw[bF,hs3]
  generalize Sort.swp d3 R5 (R5 - 1)=d6 at *
  refine aT (fun zs M'=>zs=[]∧At aF T b (if R5 - a ≥ 2 then Sort.shiftDown lt (R5 - 1) d6 else d6) M'∧ag [b] M M') ?_ ?_
  ·rintro zs M8 ⟨rfl,h8,k8⟩
   have hs7:(if R5 - a ≥ 2 then Sort.shiftDown lt (R5 - 1) d6 else d6).size=d.size:=by
    split
    ·rw[rJ,hs6]
    ·exact hs6
   generalize (if R5 - a ≥ 2 then Sort.shiftDown lt (R5 - 1) d6 else d6)=d7 at *
   rw[df (by omega) (by omega),show(2:Int)=((2:Nat) : Int) from rfl,eY]
   refine aD (fun h2=>?_) (fun h2=>?_)
   ·rw[if_pos (of_decide_eq_true h2)] at hm
    rw[add1 (by omega)]
    obtain⟨R8,hR8⟩ : ∃ R8,R8=Sort.shiftUp lt e (R5 + 1) d7:=⟨_,rfl⟩
    rw[← hR8] at hm
    refine aG (fun m ys M8=>∃ (j:Nat) (d8:Array aH),m=e - j∧ys=[N .i64 (j:Int)]∧R5 + 1≤j∧j≤e∧At aF T b d8 M8∧ag [b] M M8∧d8.size=d.size∧R8=Sort.shiftUp lt e j d8) _ ⟨R5 + 1,d7,rfl,rfl,Nat.le_refl _,by omega,h8,k8,hs7,hR8⟩ ?_
    rintro kW m ys M9 lL ⟨j,d8,rfl,rfl,hj1,hj2,h9,k9,dw,hm8⟩
    dsimp only[aa]
    rw[Sort.shiftUp] at hm8
    rw[dC]
    refine aD (fun hl1=>?_) (fun hl1=>?_)
    ·have hl1:j<e:=of_decide_eq_true hl1
     rw[if_pos hl1] at hm8
     rw[h9.rd (z:=5) rfl dw.symm (by omega),aZ (by omega) (by omega),h9.rd (z:=5) rfl dw.symm (by omega)]
     refine hl.use fun M10 jR=>?_
     have h10:=h9.keep jR
     have k10:=k9.trans (jR.mono (cs:=[b]) (by simp))
     rw[bu]
     refine aD (fun hn=>?_) (fun hn=>?_)
     ·rw[if_pos hn] at hm8
      subst hm8
      exact hJ _ _ ⟨R5,R8,rfl,by omega,by omega,h10,k10,dw,hm⟩
     ·rw[if_neg (by rw[hn]; decide)] at hm8
      rw[aZ (by omega) (by omega),aZ (by omega) (by omega),h10.rd (z:=5) rfl dw.symm (by omega),h10.rd (z:=5) rfl dw.symm (by omega)]
      refine h10.swap (z:=5) rfl dw.symm (by omega) (by omega) fun M11 h11 k11=>?_
      rw[add1 (by omega)]
      exact lL _ _ _ (by omega) ⟨j + 1,_,rfl,rfl,by omega,by omega,h11,k10.trans k11,by rw[bF,dw],hm8⟩
    ·rw[if_neg (of_decide_eq_false hl1)] at hm8
     subst hm8
     exact hJ _ _ ⟨R5,R8,rfl,by omega,by omega,h9,k9,dw,hm⟩
   ·rw[if_neg (of_decide_eq_false h2)] at hm
    exact hJ _ _ ⟨R5,d7,rfl,by omega,by omega,h8,k8,hs7,hm⟩
  intro J2 hJ2
  rw[df (by omega) (by omega),show(2:Int)=((2:Nat) : Int) from rfl,eY]
  refine aD (fun h2=>?_) (fun h2=>?_)
  ·rw[if_pos (of_decide_eq_true h2)] at hJ2
   rw[aZ (by omega) (by omega)]
   obtain⟨R8,hR8⟩ : ∃ R8,R8=Sort.shiftDown lt (R5 - 1) d6:=⟨_,rfl⟩
   rw[← hR8] at hJ2
   refine aG (fun m ys M8=>∃ (j:Nat) (d8:Array aH),m=j + 1∧ys=[N .i64 (j:Int)]∧j<R5∧At aF T b d8 M8∧ag [b] M M8∧d8.size=d.size∧R8=Sort.shiftDown lt j d8) _ ⟨R5 - 1,d6,rfl,rfl,by omega,h7,k7,hs6,hR8⟩ ?_
   rintro kW m ys M8 lL ⟨j,d8,rfl,rfl,hj1,h8,k8,dw,hm8⟩
   dsimp only[aa]
   rw[show(1:Int)=((1:Nat) : Int) from rfl,eY]
   refine aD (fun hl1=>?_) (fun hl1=>?_)
   ·have hl1:j ≥ 1:=of_decide_eq_true hl1
    obtain⟨j',rfl⟩ : ∃ j',j=j' + 1:=⟨j - 1,by omega⟩
    rw[Sort.shiftDown] at hm8
    rw[h8.rd (z:=5) rfl dw.symm (by omega),df (by omega) (by omega),Nat.add_sub_cancel,h8.rd (z:=5) rfl dw.symm (by omega)]
    refine hl.use fun M10 jR=>?_
    have h10:=h8.keep jR
    have k10:=k8.trans (jR.mono (cs:=[b]) (by simp))
    rw[bu]
    refine aD (fun hn=>?_) (fun hn=>?_)
    ·rw[if_pos hn] at hm8
     subst hm8
     exact hJ2 _ _ ⟨rfl,h10,k10⟩
    ·rw[if_neg (by rw[hn]; decide)] at hm8
     rw[df (by omega) (by omega),df (by omega) (by omega),Nat.add_sub_cancel,h10.rd (z:=5) rfl dw.symm (by omega),h10.rd (z:=5) rfl dw.symm (by omega)]
     refine h10.swap (z:=5) rfl dw.symm (by omega) (by omega) fun M11 h11 k11=>?_
     rw[df (by omega) (by omega),Nat.add_sub_cancel]
     exact lL _ _ _ (by omega) ⟨j',_,rfl,rfl,by omega,h11,k10.trans k11,by rw[bF,dw],hm8⟩
   ·have hl1:¬ j ≥ 1:=of_decide_eq_false hl1
    have h0:j=0:=by omega
    subst h0
    rw[Sort.shiftDown] at hm8
    subst hm8
    exact hJ2 _ _ ⟨rfl,h8,k8⟩
  ·rw[if_neg (of_decide_eq_false h2)] at hJ2
   exact hJ2 _ _ ⟨rfl,h7,k7⟩
 ·have hg:¬ 5 - s<5:=of_decide_eq_false hg
  have h0:s=0:=by omega
  subst h0
  rw[Sort.partialIns] at hm
  rw[hm] at hQ
  exact hQ M3 h3 k3
theorem Qq {T TX:Nat} {fv:AV} {cp cx:ai} (hp:Nw cp) (hx:Tv TX cx) : SortG aF T 5 fv Sort.breakPatterns (fun _ _ _=>True) fun args M Q=>∃ a0 a1 a2 a3,args=[a0,a1,a2,a3]∧jC TX cp cx a0 a1 a2 a3 M Q:=by
 intro M b a e d Q hat hsz hae he _ hQ
 refine⟨_,_,_,_,rfl, ?_⟩
 unfold jC
 simp only[bH]
 rw[df hae (by omega),show(8:Int)=((8:Nat) : Int) from rfl,eY]
 unfold Sort.breakPatterns at hQ
 refine aD (fun h8=>?_) (fun h8=>?_)
 ·have h8:e - a ≥ 8:=of_decide_eq_true h8
  rw[if_pos h8] at hQ
  have hbl:=qG (x:=e - a) (by omega) (by omega)
  rw[jQ,fJ (by omega) (by omega),aX]
  have kk:ag [] M (M.push (.row [(N .u64 0)] false TX 0)):=(ag.refl _ _).push _
  have hsb:M.next≠b:=by have:=hat.lt; omega
  have hh0:(M.push (.row [(N .u64 0)] false TX 0)).heap M.next=some (.row [N .u64 0] false TX 0):=RM.aQ _
  have JY:(UInt64.ofNat (e - a)).toNat=e - a:=by rw[UInt64.toNat_ofNat']; omega
  have hn0:M.next<(M.push (.row [(N .u64 0)] false TX 0)).next:=by simp[RM.push]
  rw[dV hh0 (by simp) rfl rfl]
  have kS:ag [] M ((M.push (.row [(N .u64 0)] false TX 0)).put M.next (.row (([N .u64 0] : List AV).set 0 (N .u64 ((e - a:Nat) : Int))) false TX 0)):=kk.new _ (Nat.le_refl _)
  have hs1:((M.push (.row [(N .u64 0)] false TX 0)).put M.next (.row (([N .u64 0] : List AV).set 0 (N .u64 ((e - a:Nat) : Int))) false TX 0)).heap M.next=some (.row [N .u64 ((UInt64.ofNat (e - a)).toNat:Int)] false TX 0):=by
   rw[aN,JY]; rfl
  have hn1:M.next<((M.push (.row [(N .u64 0)] false TX 0)).put M.next (.row (([N .u64 0] : List AV).set 0 (N .u64 ((e - a:Nat) : Int))) false TX 0)).next:=hn0
  generalize (M.push (.row [(N .u64 0)] false TX 0)).put M.next (.row (([N .u64 0] : List AV).set 0 (N .u64 ((e - a:Nat) : Int))) false TX 0)=M1 at *
  have Sw:=hat.keep kS
  have back:∀ M',ag [b,M.next] M1 M'→ag [b] M M':=fun M' k=>(kS.mono (cs:=[b]) (by simp)).bW k fun c hc=>by simp at hc; rcases hc with h | h <;> simp[h]
  generalize M.next=s at *
  refine hp (by omega) (by omega) ?_
  have hq:∀ (c:Int),c=((2:Nat) : Int)→∀ (K:AV→Prop),(af .quo (N .i64 ((e - a:Nat) : Int)) (N .i64 4) fun t18=>af .mul t18 (N .i64 c) fun t19=>af .add (N .i64 (a:Int)) t19 K)=K (N .i64 ((a + (e - a) / 4 * 2:Nat) : Int)):=fun c hc K=>by
   subst hc
   rw[gK,show(4:Int)=((4:Nat) : Int) from rfl,jE,aS (by omega) (by omega),nZ,← Int.natCast_mul,aS (by omega) (by omega),addN (by omega)]
   exact propext ⟨fun h=>h.2,fun h=>⟨by decide,h⟩⟩
  rw[hq 2 rfl,aZ (by omega) (by omega)]
  have JZ:(Sort.breakStep a (e - a) (1 <<< Sort.bitsLen (e - a)) (Sort.breakStep a (e - a) (1 <<< Sort.bitsLen (e - a)) (Sort.breakStep a (e - a) (1 <<< Sort.bitsLen (e - a)) (UInt64.ofNat (e - a),d) (a + (e - a) / 4 * 2 - 1)) (a + (e - a) / 4 * 2 - 1 + 1)) (a + (e - a) / 4 * 2 - 1 + 2)).2=(lU a (e - a) (2 ^ Sort.bitsLen (e - a)) (a + (e - a) / 4 * 2 - 1) d 3).2:=by
   rw[Nat.shiftLeft_eq,Nat.one_mul]; rfl
  have hQ:∀ M',At aF T b (lU a (e - a) (2 ^ Sort.bitsLen (e - a)) (a + (e - a) / 4 * 2 - 1) d 3).2 M'→ag [b] M M'→Q (.tup []) M':=fun M' h k=>hQ M' (by rw[JZ]; exact h) k
  generalize hmd:2 ^ Sort.bitsLen (e - a)=md at *
  generalize hi0:a + (e - a) / 4 * 2 - 1=i0 at *
  refine aG (fun m ys M3=>∃ (k:Nat),m=3 - k∧k≤3∧ys=[N .i64 ((i0 + k:Nat) : Int)]∧At aF T b (lU a (e - a) md i0 d k).2 M3∧M3.heap s=some (.row [N .u64 ((lU a (e - a) md i0 d k).1.toNat:Int)] false TX 0)∧s<M3.next∧ag [b,s] M1 M3) _ ⟨0,rfl,by omega,rfl,Sw,hs1,hn1,ag.refl _ _⟩ ?_
  rintro next m ys M3 hnext ⟨k,rfl,hk,rfl,h3,hh3,hn3,k3⟩
  dsimp only[aa]
  have hsk:=K4 a (e - a) md i0 d k
  have JQ:lU a (e - a) md i0 d (k + 1)=Sort.breakStep a (e - a) md (lU a (e - a) md i0 d k) (i0 + k):=rfl
  generalize Ka:lU a (e - a) md i0 d k=st at *
  rw[hq 2 rfl,add1 (by omega),gU]
  refine aD (fun hg=>?_) (fun hg=>?_)
  ·have hg:i0 + k≤a + (e - a) / 4 * 2 + 1:=of_decide_eq_true hg
   refine aT (fun zs M'=>At aF T b (lU a (e - a) md i0 d (k + 1)).2 M'∧M'.heap s=some (.row [N .u64 ((lU a (e - a) md i0 d (k + 1)).1.toNat:Int)] false TX 0)∧s<M'.next∧ag [b,s] M1 M') ?_ ?_
   ·rintro zs M' ⟨c1,c2,c3,c4⟩
    rw[add1 (by omega)]
    exact hnext _ _ _ (by omega) ⟨k + 1,rfl,by omega,rfl,c1,c2,c3,c4⟩
   intro J hJ
   refine hx hh3 hn3 fun M4 hh4 k4 n4=>?_
   have h4:=h3.keep' k4 (by simp; omega)
   rw[JQ] at hJ
   unfold Sort.breakStep at hJ
   dsimp only at hJ
   generalize Sort.xorNext st.1=r at *
   rw[eT,fJ (by omega) (by omega),show(md:Int) - 1=((md - 1:Nat) : Int) by omega,AA,Ea rfl]
   have hlt:r.toNat &&& (md - 1)<md:=by
    rw[← hmd,Nat.and_two_pow_sub_one_eq_mod]
    exact Nat.mod_lt _ (by rw[hmd]; omega)
   rw[Nat.mod_eq_of_lt (show r.toNat &&& (md - 1)<2 ^ wI .u64 by show _<2 ^ 64; omega)]
   generalize r.toNat &&& (md - 1)=o at *
   rw[jQ,aS (by omega) (by omega)]
   refine aT (fun zs M'=>zs=[N .i64 (((if o ≥ e - a then o - (e - a) else o) : Nat) : Int)]∧M'=M4) ?_ ?_
   ·rintro zs M' ⟨rfl,rfl⟩
    dsimp only[aa]
    have ho:(if o ≥ e - a then o - (e - a) else o)<e - a:=by split <;> omega
    generalize (if o ≥ e - a then o - (e - a) else o)=o2 at *
    rw[addN (by omega),addN (by omega),h4.rd (z:=5) rfl hsk.symm (by omega),h4.rd (z:=5) rfl hsk.symm (by omega)]
    refine h4.swap (z:=5) rfl hsk.symm (by omega) (by omega) fun M5 h5 k5=>?_
    exact hJ _ _ ⟨h5,k5.aK hh4 (by omega) (by simp; omega),by have:=k5.next; omega,(k3.trans (k4.mono (cs:=[b,s]) (by simp))).trans (k5.mono (cs:=[b,s]) (by simp))⟩
   intro J4 hJ4
   rw[eY]
   refine aD (fun hg2=>?_) (fun hg2=>?_)
   ·have hg2:o ≥ e - a:=of_decide_eq_true hg2
    rw[df (by omega) (by omega)]
    exact hJ4 _ _ ⟨by rw[if_pos hg2],rfl⟩
   ·exact hJ4 _ _ ⟨by rw[if_neg (of_decide_eq_false hg2)],rfl⟩
  ·have hg:¬ i0 + k≤a + (e - a) / 4 * 2 + 1:=of_decide_eq_false hg
   have hk3:k=3:=by omega
   subst hk3
   rw[Ka] at hQ
   exact hQ M3 h3 (back M3 k3)
 ·rw[if_neg (of_decide_eq_false h8)] at hQ
  exact hQ M hat (ag.refl _ _)
def VF (T m:Nat) (fv:AV) (lt:aH→aH→Bool) (c:ai) : Prop:=∀ {M:RM} {b a e limit:Nat} {d:Array aH} {Q:ak},At aF T b d M→d.size≤60000→a≤e→e≤d.size→e - a<m→limit≤1000000→(∀ M',At aF T b (Sort.pdq lt d a e limit true true) M'→ag [b] M M'→Q (.tup []) M') →
 c [sv b d.size 5,N .i64 (a:Int),N .i64 (e:Int),N .i64 (limit:Int),fv] M Q
theorem WU {T m:Nat} {fv:AV} {lt:aH→aH→Bool} {cv:FuncId→ai} {ci ch cb cc cr cp ce ct cq:ai} (hlt:Sort.SWO lt) (hi:SortG aF T 5 fv (Sort.insertionSort lt) (fun _ _ _=>True) ci) (hh:SortG aF T 5 fv (Sort.heapSort lt) (fun _ a e=>a<e) ch) (hb:SortG aF T 5 fv Sort.breakPatterns (fun _ _ _=>True) cb) (hc:Oo T fv lt cc) (hr:SortG aF T 5 fv Sort.reverseRange (fun _ a e=>a<e) cr)
  (hp:Jq T fv lt cp) (hl:iR aF lt (bD cv fv)) (he:OA T fv lt ce) (ht:VJ T fv lt ct) (hq:VF T m fv lt cq) : VF T (m + 1) fv lt fun args M Q=>∃ a0 a1 a2 a3 a4,args=[a0,a1,a2,a3,a4]∧gW ci ch cb cc cr cp cv ce ct cq a0 a1 a2 a3 a4 M Q:=by
 intro M b a e limit d Q hat hsz hae hed hm hlim hQ
 refine⟨_,_,_,_,_,rfl, ?_⟩
 unfold gW
 simp only[dP,dz,dK,bH]
 obtain⟨R,hR⟩ : ∃ R,R=Sort.pdq lt d a e limit true true:=⟨_,rfl⟩
 rw[← hR] at hQ
 refine aG (fun m' ys M3=>∃ (a e limit:Nat) (wb wp:Bool) (d3:Array aH),m'=e - a∧ys=[N .i64 (a:Int),N .i64 (e:Int),N .i64 (limit:Int),Bo wb,Bo wp]∧a≤e∧e≤d.size∧e - a<m + 1∧limit≤1000000∧At aF T b d3 M3∧ag [b] M M3∧d3.size=d.size∧R=Sort.pdq lt d3 a e limit wb wp) _
  ⟨a,e,limit,true,true,d,rfl,rfl,hae,hed,hm,hlim,hat,ag.refl _ _,rfl,hR⟩ ?_
 clear hR hae hed hm hlim
 rintro next m' ys M4 hnext ⟨a,e,limit,wb,wp,d3,rfl,rfl,hae,hed,hm,hlim,h4,k4,hs3,hR⟩
 dsimp only[aa]
 rw[sD] at hR
 rw[df hae (by omega),show(12:Int)=((12:Nat) : Int) from rfl,gU]
 refine aD (fun hg=>?_) (fun hg=>?_)
 ·rw[if_pos (of_decide_eq_true hg)] at hR
  rw[← hs3]
  refine hi h4 (by omega) hae (by omega) trivial fun M5 h5 k5=>?_
  rw[← hR] at h5
  exact hQ M5 h5 (k4.trans k5)
 have hg:¬ e - a≤12:=of_decide_eq_false hg
 rw[if_neg hg] at hR
 rw[show(0:Int)=((0:Nat) : Int) from rfl,F8]
 refine aD (fun hg0=>?_) (fun hg0=>?_)
 ·rw[if_pos (of_decide_eq_true hg0)] at hR
  rw[← hs3]
  refine hh h4 (by omega) hae (by omega) (by omega) fun M5 h5 k5=>?_
  rw[← hR] at h5
  exact hQ M5 h5 (k4.trans k5)
 have hg0:¬ limit=0:=of_decide_eq_false hg0
 rw[if_neg hg0] at hR
 refine aT (fun zs M'=>zs=[N .i64 (((if !wb then limit - 1 else limit) : Nat) : Int)]∧At aF T b (if !wb then Sort.breakPatterns d3 a e else d3) M'∧ag [b] M M') ?_ ?_
 ·rintro zs M5 ⟨rfl,h5,k5⟩
  dsimp only[aa]
  have hs5:(if !wb then Sort.breakPatterns d3 a e else d3).size=d.size:=by
   split
   ·rw[Hm,hs3]
   ·exact hs3
  have hl5:(if !wb then limit - 1 else limit)≤1000000:=by split <;> omega
  generalize (if !wb then Sort.breakPatterns d3 a e else d3)=d5 at *
  generalize (if !wb then limit - 1 else limit)=lim at *
  rw[← hs5]
  refine hc h5 (by omega) (by omega) (by omega) fun M6 h6 k6=>?_
  rw[hs5]
  have hcr:=Sort.choosePivot_holds lt d5 a e (by omega)
  unfold gA at hR
  generalize Sort.choosePivot lt d5 a e=cpv at *
  have k6':=k5.trans (k6.mono (cs:=[b]) (by simp))
  rw[fo,fu]
  refine aT (fun zs M'=>zs=[N .i64 (((if cpv.2=.decreasing then(e - 1) - (cpv.1 - a) else cpv.1) : Nat) : Int),N .i64 (iL (if cpv.2=.decreasing then .increasing else cpv.2))]∧At aF T b (if cpv.2=.decreasing then Sort.reverseRange d5 a e else d5) M'∧ag [b] M M') ?_ ?_
  ·rintro zs M7 ⟨rfl,h7,k7⟩
   dsimp only[aa]
   have hs7:(if cpv.2=.decreasing then Sort.reverseRange d5 a e else d5).size=d.size:=by
    split
    ·rw[P9,hs5]
    ·exact hs5
   have hpv:a≤(if cpv.2=.decreasing then(e - 1) - (cpv.1 - a) else cpv.1)∧(if cpv.2=.decreasing then(e - 1) - (cpv.1 - a) else cpv.1)<e:=by
    split <;> omega
   generalize (if cpv.2=.decreasing then Sort.reverseRange d5 a e else d5)=d7 at *
   generalize (if cpv.2=.decreasing then(e - 1) - (cpv.1 - a) else cpv.1)=pv at *
   generalize (if cpv.2=.decreasing then Sort.Hint.increasing else cpv.2)=hint at *
   unfold gB gP at hR
   refine aT (fun zs M'=>∃ d8:Array aH,At aF T b d8 M'∧ag [b] M M'∧d8.size=d.size∧R=gC lt d8 a e pv lim wb wp) ?_ ?_
   ·rintro zs M8 ⟨d8,h8,k8,hs8,hR8⟩
    unfold gC at hR8
    rw[lX]
    refine je (P:=fun M'=>At aF T b d8 M'∧ag [b] M M') (p:=!lt d8[a - 1]! d8[pv]!) ⟨h8,k8⟩ (fun hc k hk=>?_) fun M9 ⟨h9,k9⟩=>?_
    ·have hc:a > 0:=of_decide_eq_true hc
     rw[aZ (by omega) (by omega),h8.rd (z:=5) rfl hs8.symm (by omega),h8.rd (z:=5) rfl hs8.symm (by omega)]
     refine hl.use fun M10 k10=>?_
     rw[bu]
     exact hk M10 ⟨h8.keep k10,k8.trans (k10.mono (cs:=[b]) (by simp))⟩
    refine aD (fun h=>?_) (fun h=>?_)
    ·rw[if_pos h] at hR8
     rw[← hs8]
     have hE:=Hw lt d8 a e pv (by omega)
     refine he h9 (by omega) hpv.1 hpv.2 (by omega) fun M10 h10 k10=>?_
     generalize Sort.partitionEqual lt d8 a e pv=pe at *
     dsimp only at hR8
     rw[dif_pos ⟨hE.2.1,hE.2.2⟩] at hR8
     exact hnext _ _ _ (by omega) ⟨pe.1,e,lim,wb,wp,pe.2,rfl,rfl,hE.2.2,hed,by omega,hl5,h10,k9.trans k10,by rw[hE.1,hs8],hR8⟩
    ·rw[if_neg (by rw[h]; decide)] at hR8
     rw[← hs8]
     have hT:=Sort.partition_holds lt hlt d8 a e pv hpv.1 hpv.2 (by omega)
     have hTs:=KD lt d8 a e pv
     refine ht h9 (by omega) hpv.1 hpv.2 (by omega) fun M10 h10 k10=>?_
     have jR:=k9.trans k10
     generalize Sort.partition lt d8 a e pv=pp at *
     obtain⟨mid,ap,d9⟩:=pp
     dsimp only at hR8 hT hTs h10 ⊢
     rw[dif_pos ⟨hT.1,hT.2.1⟩] at hR8
     have hT1:=hT.1
     have hT2:=hT.2.1
     rw[fo,fu,df hT1 (by omega),df (by omega) (by omega),gK]
     refine⟨by decide, ?_⟩
     rw[show(8:Int)=((8:Nat) : Int) from rfl,jE,aS (by omega) (by omega),dC]
     refine aD (fun hc1=>?_) (fun hc1=>?_)
     ·have hc1:mid - a<e - mid:=of_decide_eq_true hc1
      rw[if_pos hc1] at hR8
      rw[eY,← hTs]
      refine hq h10 (by omega) hT1 (by omega) (by omega) hl5 fun M11 h11 k11=>?_
      rw[add1 (by omega)]
      exact hnext _ _ _ (by omega) ⟨mid + 1,e,lim,_,ap,_,rfl,rfl,by omega,hed,by omega,hl5,h11,jR.trans k11,by rw[ul lt _ _ _ _ _ _ _ (Nat.le_refl _),hTs,hs8],hR8⟩
     ·have hc1:¬ mid - a<e - mid:=of_decide_eq_false hc1
      rw[if_neg hc1] at hR8
      rw[eY,add1 (by omega),← hTs]
      refine hq h10 (by omega) (by omega) (by omega) (by omega) hl5 fun M11 h11 k11=>?_
      exact hnext _ _ _ (by omega) ⟨a,mid,lim,_,ap,_,rfl,rfl,hT1,by omega,by omega,hl5,h11,jR.trans k11,by rw[ul lt _ _ _ _ _ _ _ (Nat.le_refl _),hTs,hs8],hR8⟩
   intro J10 Ac
   have no:¬ (wb && wp && decide (hint=.increasing))=true→J10 [] M7:=fun hn=>by
    have hpi:(if (wb && wp && decide (hint=.increasing))=true then Sort.partialInsertionSort lt d7 a e else(d7,false))=(d7,false):=if_neg hn
    rw[hpi] at hR
    exact Ac _ _ ⟨d7,h7,k7,hs7,hR⟩
   cases wb with
   | false =>
     rw[bI]
     dsimp only
     rw[cz,bI]
     dsimp only
     rw[bI]
     dsimp only
     rw[cz,bz]
     exact no (by simp)
   | true =>
     rw[cB]
     dsimp only
     rw[dN]
     cases wp with
     | false =>
       rw[bI]
       dsimp only
       rw[bI]
       dsimp only
       rw[cz,bz]
       exact no (by simp)
     | true =>
       rw[cB]
       dsimp only
       rw[cB]
       dsimp only
       rw[bV,dN]
       by_cases hin:hint=.increasing
       ·rw[show(iL hint == 1)=true by rw[hin]; rfl,cO]
        have hpi:(if (true && true && decide (hint=.increasing))=true then Sort.partialInsertionSort lt d7 a e else(d7,false))=Sort.partialInsertionSort lt d7 a e:=if_pos (by simp[hin])
        rw[hpi] at hR
        rw[← hs7]
        have hs8:(Sort.partialInsertionSort lt d7 a e).1.size=d.size:=by
         rw[Sort.partialInsertionSort,wT,hs7]
        refine hp h7 (by omega) (by omega) (by omega) fun M8 h8 k8=>?_
        generalize Sort.partialInsertionSort lt d7 a e=pi at *
        refine aD (fun h=>?_) (fun h=>?_)
        ·rw[if_pos h] at hR
         rw[← hR] at h8
         exact hQ M8 h8 (k7.trans k8)
        ·rw[if_neg (by rw[h]; decide)] at hR
         exact Ac _ _ ⟨pi.1,h8,k7.trans k8,hs8,hR⟩
       ·rw[show(iL hint == 1)=false by cases hint <;> first | rfl | exact absurd rfl hin,bz]
        exact no (by simp[hin])
  intro J6 hJ6
  rw[bV]
  by_cases hdec:cpv.2=.decreasing
  ·rw[show(iL cpv.2 == 2)=true by rw[hdec]; rfl,cO,← hs5]
   refine hr h6 (by omega) hae (by omega) (by omega) fun M7 h7 k7=>?_
   rw[aZ (by omega) (by omega),df (by omega) (by omega),df (by omega) (by omega)]
   exact hJ6 _ _ ⟨by rw[if_pos hdec,if_pos hdec]; rfl,by rw[if_pos hdec]; exact h7,k6'.trans k7⟩
  ·rw[show(iL cpv.2 == 2)=false by cases h:cpv.2 <;> first | rfl | exact absurd h hdec,bz]
   exact hJ6 _ _ ⟨by rw[if_neg hdec,if_neg hdec],by rw[if_neg hdec]; exact h6,k6'⟩
 intro J hJ
 rw[bu]
 cases wb with
 | true =>
   rw[Bool.not_true,bz]
   exact hJ _ _ ⟨rfl,h4,k4⟩
 | false =>
   rw[Bool.not_false,cO,← hs3]
   refine hb h4 (by omega) hae (by omega) trivial fun M5 h5 k5=>?_
   rw[aZ (by omega) (by omega)]
   exact hJ _ _ ⟨rfl,h5,k4.trans k5⟩
def NN (c:ai) : Prop:=∀ {M:RM} {v fv:AV} {Q:ak},Q (.tup []) M→c [v,N .i64 0,N .i64 ((0:Nat) : Int),fv] M Q
theorem NW {cv:FuncId→ai} : NN fun args M Q=>∃ a0 a1 a2 a3,args=[a0,a1,a2,a3]∧eO cv a0 a1 a2 a3 M Q:=by
 intro M v fv Q hQ
 refine⟨_,_,_,_,rfl, ?_⟩
 unfold eO
 rw[cZ,show IntKind.i64.wrap ((0:Int) + 1)=1 from rfl]
 refine aG (fun m ys M3=>m=0∧ys=[N .i64 1]∧M3=M) 0 ⟨rfl,rfl,rfl⟩ ?_
 rintro next m ys M3 hnext ⟨rfl,rfl,rfl⟩
 dsimp only[aa]
 rw[dD,show decide ((1:Int)<((0:Nat) : Int))=false from rfl,bz]
 exact hQ
def MU (c:ai) : Prop:=∀ {M:RM} {v fv:AV} {Q:ak},Q (.tup []) M→c [v,N .i64 0,N .i64 ((0:Nat) : Int),N .i64 ((0:Nat) : Int),fv] M Q
theorem NB {cv:FuncId→ai} {ci c2 c3 cc c4 cp c6 c7 c8:ai} (hi:NN ci) : MU fun args M Q=>∃ a0 a1 a2 a3 a4,args=[a0,a1,a2,a3,a4]∧gW ci c2 c3 cc c4 cp cv c6 c7 c8 a0 a1 a2 a3 a4 M Q:=by
 intro M v fv Q hQ
 refine⟨_,_,_,_,_,rfl, ?_⟩
 unfold gW
 refine aG (fun m ys M3=>m=0∧ys=[N .i64 0,N .i64 ((0:Nat) : Int),N .i64 ((0:Nat) : Int),Bo true,Bo true]∧M3=M) 0 ⟨rfl,rfl,rfl⟩ ?_
 rintro next m ys M3 hnext ⟨rfl,rfl,rfl⟩
 dsimp only[aa]
 rw[eT,show IntKind.i64.wrap (((0:Nat) : Int) - 0)=0 from rfl,kH,show decide ((0:Int)≤12)=true from rfl,cO]
 exact hi hQ
def qU (lt:aH→aH→Bool) (xs:List aH) : List aH:=(Sort.sort lt xs.toArray).toList
theorem YS (lt:aH→aH→Bool) : qU lt []=[]:=by
 unfold qU Sort.sort
 rw[sD,if_pos (by simp),Sort.insertionSort,Sort.insOuter,if_neg (by simp)]
theorem qO {lt:aH→aH→Bool} (hlt:Sort.SWO lt) (xs:List aH) : (qU lt xs).Perm xs:=by
 have h:=(Sort.sort_sorts lt hlt xs.toArray).1
 have h2:=h.2.2
 rw[Array.extract_eq_self_of_le (by rw[h.1]; exact Nat.le_refl _),Array.extract_eq_self_of_le (Nat.le_refl _)] at h2
 exact h2
theorem Z4 {lt:aH→aH→Bool} (hlt:Sort.SWO lt) (xs:List aH) : (qU lt xs).Pairwise fun x y=>lt y x=false:=by
 rw[List.pairwise_iff_getElem]
 intro i j hi hj hij
 have h:=(Sort.sort_sorts lt hlt xs.toArray)
 have hs:(Sort.sort lt xs.toArray).size=xs.toArray.size:=h.1.1
 unfold qU at hi hj ⊢
 rw[Array.length_toList] at hi hj
 have:=h.2 i j (Nat.zero_le _) hij (by omega)
 rw[NA hj,NA hi] at this
 rw[Array.getElem_toList,Array.getElem_toList]
 exact this
def NP (fv:AV) (lt:aH→aH→Bool) (T:Nat) (c:ai) : Prop:=∀ {M:RM} {base:Nat} {v:AV} {xs:List aH} {Q:ak},Ow aF M base T v xs→xs.length≤60000→(∀ M',Ow aF M' base T v (qU lt xs)→ag (aI v) M M'→Q (.tup []) M')→c [v,fv] M Q
theorem abX {T:Nat} {fv:AV} {lt:aH→aH→Bool} {cl cp:ai} (hlt:Sort.SWO lt) (hl:BB cl) (hp:∀ m,VF T m fv lt cp) (h0:MU cp) : NP fv lt T fun args M Q=>∃ a0 a1,args=[a0,a1]∧sM cl cp a0 a1 M Q:=by
 intro M base v xs Q ho hx hQ
 have hs:Sl aF M v xs:=ho.il
 refine⟨_,_,rfl, ?_⟩
 unfold sM
 rw[aR.len hs,jQ,fJ (by omega) (by omega)]
 refine hl (by omega) ?_
 rcases Nat.eq_zero_or_pos xs.length with hn | hn
 ·rw[hn,show Sort.bitsLen 0=0 from rfl]
  refine h0 ?_
  have:=List.length_eq_zero_iff.1 hn
  subst this
  exact hQ M (by rw[YS]; exact ho) (ag.refl _ _)
 ·obtain⟨b,rfl,h1,h2,h3,h4⟩:=Own.uK ho hn
  have hb:=qG hn (by omega)
  have hsz:xs.toArray.size=xs.length:=by simp
  have hat:At aF T b xs.toArray M:=⟨by rw[h3],h2⟩
  have hsl:(qU lt xs).length=xs.length:=(qO hlt xs).length_eq
  have:=hp (xs.length + 1) (M:=M) (b:=b) (a:=0) (e:=xs.toArray.size) (limit:=Sort.bitsLen xs.length) (d:=xs.toArray) (Q:=fun Py M_0=>Q (.tup []) M_0) hat (by omega) (by omega) (Nat.le_refl _) (by omega) (by omega) fun M' h' k'=>?_
  ·have e5:aF.size=5:=rfl
   rw[e5]
   simpa using this
  ·have e:(Sort.pdq lt xs.toArray 0 xs.toArray.size (Sort.bitsLen xs.length) true true)=Sort.sort lt xs.toArray:=by rw[Sort.sort]; simp
   rw[e] at h'
   refine hQ _ ?_ (by simpa [aI] using k')
   have hlast:Own M' base T 5 (.slc b 0 xs.length (.op 5)) (aF.row (qU lt xs)) xs.length:=.op _ _ _ h1 h'.lt h'.heap (by rw[Enc.eu,hsl]; rfl)
   show Own M' base T 5 (.slc b 0 xs.length (.op 5)) (aF.row (qU lt xs)) (qU lt xs).length
   rw[hsl]; exact hlast
end Go.Ab.Crw
