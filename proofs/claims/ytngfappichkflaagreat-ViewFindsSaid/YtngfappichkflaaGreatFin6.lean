/- Part 6 of the ground of the proofs of this seat (texts C5 to V13). By an AI agent. -/
import Derived.Test.YtngfappichkflaaGreatFin5
import Derived.Lib.IndexMore
set_option maxRecDepth 10000
set_option linter.unusedVariables false
set_option linter.unusedSimpArgs false
namespace Go.Ab.Crw
open Go Go.Ab Go.Ab.aB
abbrev Ev:=mE × List aB
def vQ:qa Ev:=qa.pre EvE (dP.zJ.slice)
theorem Pp {M:RM} {v:AV} {l:List Ev} {S:Nat→Prop} (h:gV vQ M v l S) {i:Nat} (hi:i<l.length) :
  ∃ b o kv,(∀ (kd:IntKind) (K:AV→Prop),ax v (N kd (i:Int)) 7 K=K (.ptr b o))∧(∀ K:AV→Prop,aF M (.ptr b o) 7 K=K (.agg (fA l[i].1 kv)))∧(∀ K:AV→Prop,aF M (.ptr b o) 2 K=K (.agg (aP l[i].1.1)))∧Sl dP M kv l[i].2∧∀ d∈aD kv,S d:=by
 obtain⟨b,o,cs,_,_,hidx,hld,ds,hcs,kv,hds,hkv⟩:=h.at (i:=i) 7 (i:Int) hi rfl rfl
 subst hds
 subst hcs
 refine⟨b,o,kv,hidx,fun K=>?_,fun K=>?_,gV.sl hkv, ?_⟩
 ·rw[fK,hld]
  simp
 ·have e2:(fA l[i].1 kv).take 2=aP l[i].1.1:=rfl
  rw[fK,Yd hld 2 (by decide),e2]
  simp
 ·obtain⟨_,_,h2,_⟩:=hkv
  exact h2
theorem YL {M:RM} {e:mE} {kv:AV} {ks:List aB} {S:Nat→Prop} (h:Sl dP M kv ks) (hS:∀ d∈aD kv,S d) : vQ.rel M (fA e kv) (e,ks) S:=⟨[kv],rfl,kv,rfl,gV.Xr h hS⟩
def mI (out:List Ev) (x:Ev) : List Ev:=if !(!dz x.1 x.2 || out.any fun y=>decide (y.1.1=x.1.1)) then out++[x] else out
def rF (l:List Ev) : List Ev:=l.foldl mI []
theorem Oo {l:List Ev} {i:Nat} (h:i<l.length) : rF (l.take (i + 1))=mI (rF (l.take i)) l[i]:=by
 rw[List.take_succ_eq_append_getElem h,rF,List.foldl_append]; rfl
theorem Un (out:List Ev) (x:Ev) : (mI out x).length≤out.length + 1:=by
 unfold mI; split <;> simp
theorem CE (l:List Ev) : ∀ i,(rF (l.take i)).length≤i
 | 0=>Nat.le_refl _
 | i + 1=>by
   by_cases h:i<l.length
   ·rw[Oo h]
    have:=CE l i
    have:=Un (rF (l.take i)) l[i]
    omega
   ·rw[List.take_of_length_le (by omega)]
    have:=CE l i
    rw[List.take_of_length_le (by omega)] at this
    omega
theorem Oa:∀ (l:List Ev) (out:List Ev),(∀ x∈out,dz x.1 x.2=true)→∀ x∈l.foldl mI out,dz x.1 x.2=true
 | [],out,h=>h
 | y :: l,out,h=>Oa l (mI out y) fun x hx=>by
   unfold mI at hx
   split at hx
   ·rename_i hc
    rcases List.mem_append.1 hx with hx | hx
    ·exact h x hx
    ·simp only[List.mem_singleton] at hx
     subst hx
     simp only[Bool.not_eq_true',Bool.or_eq_false_iff,Bool.not_eq_false'] at hc
     exact hc.1
   ·exact h x hx
def aa2 (TE:Nat) (c:au) : Prop:=∀ {M:RM} {v:AV} {l:List Ev} {Q:ai},gV vQ M v l (fun d=>d<M.next)→l.length≤10000 →
 (∀ v' M',gV vQ M' v' (rF l) (fun d=>d<M'.next)→ag [] M M'→Q v' M')→c [v] M Q
theorem abJ {TE:Nat} {cG:au} (hG:xL cG) : aa2 TE fun args M Q=>∃ a0,args=[a0]∧adm TE cG a0 M Q:=by
 intro M v l Q hv hl hQ
 refine⟨_,rfl, ?_⟩
 unfold adm
 simp only[jd,gQ,fC,bZ]
 refine⟨_,_,_,_,rfl,rfl,by decide,by decide,by decide,by decide, ?_⟩
 dsimp only
 rw[bz]
 have kM:ag [] M (M.push (.row (bE [(N .i64 0),(N .u64 0),(N .i64 0),(St []),(St []),(St []),(.sc (.slice none 0 0))] 0) false TE 0)):=(ag.refl _ _).push _
 have oM:l6 vQ (M.push (.row (bE [(N .i64 0),(N .u64 0),(N .i64 0),(St []),(St []),(St []),(.sc (.slice none 0 0))] 0) false TE 0)) M.next TE (.slc M.next 0 0 (.ex 0)) [] (fun d=>d<M.next):=⟨[],Own.lit M (Nat.le_refl _),.nil⟩
 refine aJ (fun m ys M3=>∃ (i:Nat) (w:AV),m=l.length - i∧ys=[w,N .i64 (i:Int)]∧i≤l.length∧ag [] M M3∧l6 vQ M3 M.next TE w (rF (l.take i)) (fun d=>d<M.next)) _ ⟨0,_,rfl,rfl,Nat.zero_le _,kM,oM⟩ ?_
 rintro next m ys M3 hnext ⟨i,w,rfl,rfl,hi,k3,ow⟩
 dsimp only[aa]
 have hv3:gV vQ M3 v l (fun d=>d<M.next):=hv.keep k3 (by simp)
 have n3:=k3.next
 rw[hv3.len,eO]
 refine aH (fun hlt=>?_) (fun hge=>?_)
 ·have hlt:i<l.length:=of_decide_eq_true hlt
  refine bA (fun zs M'=>∃ w',zs=[w']∧ag [] M M'∧l6 vQ M' M.next TE w' (rF (l.take (i + 1))) (fun d=>d<M.next)) ?_ ?_
  ·rintro zs M' ⟨w',rfl,k',o'⟩
   dsimp only[aa]
   rw[add1 (by omega)]
   exact hnext _ _ _ (by omega) ⟨i + 1,w',rfl,rfl,by omega,k',o'⟩
  intro J hJ
  rw[Oo hlt] at hJ
  have hol:=CE l i
  obtain⟨b,o,kv,hidx,hl7,hl2,hkv,hkb⟩:=Pp hv3 hlt
  rw[hidx,hl7]
  refine hG hkv fun M4 k4=>?_
  rw[bK]
  have ow4:=ow.keep k4 (by simp) (by simp)
  generalize rF (l.take i)=out at *
  have k34:=k3.trans k4
  have n4:=k34.next
  have hv4:gV vQ M4 v l (fun d=>d<M.next):=hv.keep k34 (by simp)
  have owS:gV vQ M4 w out (fun d=>d<M4.next):=(ow4.mono (fun d hd=>by omega)).slD (fun d _ h=>h)
  obtain⟨b4,o4,kv4,ac7,aoF,ant,ah4,aoM⟩:=Pp hv4 hlt
  refine aJ (fun m ys M5=>∃ j:Nat,m=out.length - j∧ys=[Bo (!dz l[i].1 l[i].2 || (out.take j).any fun y=>decide (y.1.1=l[i].1.1)),N .i64 (j:Int)]∧j≤out.length∧M5=M4) _ ⟨0,rfl,by simp,Nat.zero_le _,rfl⟩ ?_
  rintro kT m ys M5 eu ⟨j,rfl,rfl,hj,rfl⟩
  dsimp only[aa]
  rw[owS.len,eO]
  refine aH (fun hlt2=>?_) (fun sQ=>?_)
  ·have hlt2:j<out.length:=of_decide_eq_true hlt2
   obtain⟨b5,o5,kv5,als,hl75,aoh,_,_⟩:=Pp owS hlt2
   refine UX (P:=fun M'=>M'=M5) (p:=decide (out[j].1.1=l[i].1.1)) rfl (fun _ k hk=>?_) fun M' hM'=>?_
   ·rw[als,aX,Nat.add_zero,aoh,ac7,aX,Nat.add_zero,ant,vY rfl rfl (Lc _ _),Bool.bne_false]
    exact hk M5 rfl
   subst hM'
   rw[add1 (by omega)]
   refine eu _ _ _ (by omega) ⟨j + 1,rfl, ?_,by omega,rfl⟩
   rw[List.take_succ_eq_append_getElem hlt2,List.any_append,List.any_cons,List.any_nil,Bool.or_false,Bool.or_assoc]
  ·have hje:j=out.length:=by
    have:¬ j<out.length:=of_decide_eq_false sQ
    omega
   subst hje
   rw[List.take_length,bK]
   refine aH (fun hc=>?_) (fun hc=>?_)
   ·rw[ac7,aoF,pM (x:=.agg (fA l[i].1 kv4)) (size:=7) rfl (Lr ah4) rfl,bz]
    have hd:=ow4.blk
    refine l6.app (R:=vQ) ow4 (YL ah4 aoM) (by omega) (by decide) (fun d hd' h=>by have:=(hd d hd').1; omega) (fun d h=>by omega) (by omega) (by omega) ?_
    intro w' M6 o6 k6 n6 _ _
    refine hJ _ _ ⟨w',rfl,k34.dU k6 (fun d hd'=>.inl (hd d hd').1), ?_⟩
    rw[mI,if_pos hc]
    exact o6
   ·refine hJ _ _ ⟨w,rfl,k34, ?_⟩
    rw[mI,if_neg (by rw[hc]; decide)]
    exact ow4
 ·have he:i=l.length:=by
   have:¬ i<l.length:=of_decide_eq_false hge
   omega
  subst he
  rw[List.take_length] at ow
  exact hQ w M3 ((ow.mono (fun d hd=>by omega)).slD (fun d _ h=>h)) k3
theorem Zw {k:Nat} {ps:List Pt} {d e:aB} (h:SI k ps) (hk:k<4096) (hg:good d=true) : gF (jG ps d).2 e=true↔gF ps e=true∨e=d:=by
 have hl:∀ p∈ps,p.2.length<4096:=fun p hp=>by have:=h.few p hp; omega
 rw[gF,gF,Bool.and_eq_true,Bool.and_eq_true,ZX h.len h.wf hl hg]
 constructor
 ·rintro⟨h1,h2 | ⟨h2,h3⟩⟩
  ·exact .inl ⟨h1,h2⟩
  ·refine .inr (Prod.ext ?_ h3)
   have:=(IK h1).1
   have:=(IK hg).1
   omega
 ·rintro(⟨h1,h2⟩ | rfl)
  ·exact⟨h1,.inl h2⟩
  ·exact⟨hg,.inr ⟨rfl,rfl⟩⟩
theorem Ih {e:aB} : ∀ {ds:List aB} {ps:List Pt} {k:Nat},SI k ps→k + ds.length<4096→(∀ d∈ds,good d=true)→(gF (lG ps ds) e=true↔gF ps e=true∨e∈ds)
 | [],ps,k,h,hk,hg=>by simp[lG]
 | d :: ds,ps,k,h,hk,hg=>by
   have:lG ps (d :: ds)=lG (jG ps d).2 ds:=rfl
   rw[this,Ih (UO h) (by simp at hk; omega) (fun x hx=>hg x (by simp[hx])),Zw h (by simp at hk; omega) (hg d (by simp)),List.mem_cons]
   constructor
   ·rintro((h | h) | h)
    ·exact .inl h
    ·exact .inr (.inl h)
    ·exact .inr (.inr h)
   ·rintro(h | h | h)
    ·exact .inl (.inl h)
    ·exact .inl (.inr h)
    ·exact .inr h
theorem Wx (ps:List Pt) (es:List aC) (e:mE) (ks:List aB) : (jM ps es e ks).length≤es.length + 1:=by
 unfold jM
 refine Nat.le_trans (List.length_filter_le _ _) ?_
 split
 ·rw[(pq iI _).length_eq]; simp
 ·omega
structure apA (i:Nat) (ps:List Pt) (es:List aC) (dead:List aB) : Prop where
 si:SI (65 * i) ps
 few:es.length≤i
 dl:dead.length≤64 * i
 seen:∀ d∈dead,gF ps d=true
 gone:∀ x∈es,x.1 ∉ dead
def keq (x y:aC) : Bool:=decide (x.2.1=y.2.1∧x.2.2.1=y.2.2.1∧x.1=y.1)
theorem Gc {α β:Type} [DecidableEq β] {k:α→β} {lt1:β→β→Bool} {lt2:α→α→Bool} (h:LO lt1) {x y:α} (h1:lex k lt1 lt2 x y=false) (h2:lex k lt1 lt2 y x=false) : k x=k y∧lt2 x y=false∧lt2 y x=false:=by
 unfold lex at h1 h2
 rw[Bool.or_eq_false_iff] at h1 h2
 have e:=h.tri _ _ h1.1 h2.1
 have a:=h1.2
 have b:=h2.2
 rw[e,decide_eq_true rfl,Bool.true_and] at a b
 exact⟨e,a,b⟩
theorem UY {x y:aC} (h1:fI x y=false) (h2:fI y x=false) : keq x y=true:=by
 obtain⟨e1,a1,b1⟩:=Gc zg h1 h2
 obtain⟨e2,a2,b2⟩:=Gc zg a1 b1
 obtain⟨e3,a3,b3⟩:=Gc Te a2 b2
 obtain⟨e4,_,_⟩:=Gc SK a3 b3
 exact decide_eq_true ⟨e1,e2,Prod.ext e4 e3⟩
def wY (xs:List aC) : Prop:=xs.Pairwise fun x y=>fI y x=false
theorem wY.at {xs:List aC} (h:wY xs) {i j:Nat} (hij:i≤j) (hj:j<xs.length) : fI xs[j] (xs[i]'(by omega))=false:=by
 rcases Nat.lt_or_ge i j with h1 | h1
 ·exact(List.pairwise_iff_getElem.1 h) i j (by omega) hj h1
 ·have:i=j:=by omega
  subst this
  exact iI.irrefl _
abbrev wV:=List Pt × List aC
def qO (s:wV) (x:Ev) : wV:=if dz x.1 x.2 then(yc s.1 x.1 x.2,jM s.1 s.2 x.1 x.2) else s
def kY (l:List Ev) : wV:=l.foldl qO (iT,[])
theorem NY (l:List Ev) (x:Ev) : kY (l++[x])=qO (kY l) x:=by rw[kY,List.foldl_append]; rfl
structure Ie (i:Nat) (s:wV) : Prop where
 si:SI (65 * i) s.1
 few:s.2.length≤i
 up:wY s.2
theorem Og {ps:List Pt} {es:List aC} {e:mE} {ks:List aB} (h:wY es) : wY (jM ps es e ks):=by
 unfold jM
 refine List.Pairwise.filter _ ?_
 split
 ·exact acj iI _
 ·exact h
theorem Ie.step {i:Nat} {s:wV} (h:Ie i s) (x:Ev) : Ie (i + 1) (qO s x):=by
 unfold qO
 split
 ·rename_i hg
  obtain⟨_,g2,_,_,_⟩:=yJ hg
  refine⟨(zl h.si).mono (by simp; omega), ?_,Og h.up⟩
  have:=Wx s.1 s.2 x.1 x.2
  have:=h.few
  show(jM s.1 s.2 x.1 x.2).length≤i + 1
  omega
 ·exact⟨h.si.mono (by omega),by have:=h.few; omega,h.up⟩
theorem Ie.empty:Ie 0 (iT,[]):=⟨ym,Nat.le_refl _,.nil⟩
theorem Zi:∀ (l:List Ev),Ie l.length (kY l):=fun l=>by
 suffices h:∀ (l:List Ev) (i:Nat) (s:wV),Ie i s→Ie (i + l.length) (l.foldl qO s) by
  have:=h l 0 _ Ie.empty
  rwa [Nat.zero_add] at this
 intro l
 induction l with
 | nil=>intro i s h; exact h
 | cons x l ih =>
   intro i s h
   have:=ih (i + 1) (qO s x) (h.step x)
   rwa [show i + 1 + l.length=i + (x :: l).length by simp; omega] at this
theorem Ig {α:Type} {p:α→Bool} {l:List α} {i:Nat} (h:i<l.length) : (l.take (i + 1)).filter p=(l.take i).filter p++(if p l[i] then[l[i]] else[]):=by
 rw[List.take_succ_eq_append_getElem h,List.filter_append,List.filter_cons,List.filter_nil]
theorem JY {α:Type} (p:α→Bool) (l:List α) (i:Nat) : ((l.take i).filter p).length≤i:=Nat.le_trans (List.length_filter_le _ _) (by rw[List.length_take]; omega)
theorem sD (x:aC) : (aA.cells x).all oneCell=true:=rfl
theorem Yy {M:RM} {b T:Nat} {x:aC} {p:Bool} (h:M.heap b=some (.row (aA.cells x) p T 0)) {K:AV→Prop} : aF M (.ptr b 0) 2 K=K (.agg (aP x.1)):=by
 have e2:((aA.cells x).drop 0).take 2=aP x.1:=rfl
 rw[fK,RM.bW h (by rw[aA.len]; decide),e2]
 simp
theorem Es {α:Type} [DecidableEq α] : ∀ {xs ys:List α},xs.Nodup→(∀ x∈xs,x∈ys)→xs.length≤ys.length
 | [],_,_,_=>Nat.zero_le _
 | x :: xs,ys,hn,hs=>by
   have hx:x∈ys:=hs x (by simp)
   rw[List.nodup_cons] at hn
   have:=Es (xs:=xs) (ys:=ys.erase x) hn.2 fun y hy=>(List.mem_erase_of_ne (by rintro rfl; exact hn.1 hy)).2 (hs y (by simp[hy]))
   rw[List.length_erase_of_mem hx] at this
   have h0:0<ys.length:=List.length_pos_of_mem hx
   simp
   omega
def yj (l:List Ev) : List aB:=l.flatMap fun x=>x.1.1 :: x.2
theorem Yh {k:Nat} {ps:List Pt} {e:mE} {ks:List aB} (h:SI k ps) (hk:k + 65<4096) (hg:dz e ks=true) (d:aB) : gF (yc ps e ks) d=true↔gF ps d=true∨d∈e.1 :: ks:=by
 obtain⟨g1,g2,g3,_,_⟩:=yJ hg
 refine Ih h (by simp; omega) fun d hd=>?_
 rcases List.mem_cons.1 hd with rfl | hd
 ·exact g1
 ·exact g3 d hd
structure StU (s:wV) : Prop where
 seen:∀ x∈s.2,gF s.1 x.1=true
 one:s.2.Pairwise fun x y=>x.1≠y.1
structure StB (a t:wV) : Prop where
 Cq:∀ x∈t.2,gF a.1 x.1=true→x∈a.2
 sets:∀ d,gF a.1 d=true→gF t.1 d=true
theorem StU.empty:StU (iT,[]):=⟨by simp,.nil⟩
theorem YI (d:aB) : gF iT d=false:=by
 rw[gF,CP]
 cases good d with
 | false=>rfl
 | true =>
   simp only[Bool.true_and]
   unfold ed
   simp
   omega
theorem TK (l:List Ev) : (rF l).length≤l.length:=by
 have:=CE l l.length
 rwa [List.take_length] at this
def Live (l:List Ev) (x:aC) : Prop:=∃ e∈l,e.1.2.1=1∧je e.1=x∧∀ f∈l,e.1.1 ∉ f.2
structure Ch (l:List Ev) (s:wV) : Prop where
 Cq:∀ x,x∈s.2↔Live l x
 sets:∀ d,gF s.1 d=true↔d∈yj l
 up:wY s.2
 one:s.2.Pairwise fun x y=>x.1≠y.1
 si:∃ k,SI k s.1
theorem Jr {l:List Ev} {d:aB} : d∈yj l↔∃ e∈l,d=e.1.1∨d∈e.2:=by
 unfold yj
 rw[List.mem_flatMap]
 constructor
 ·rintro⟨e,he,h⟩
  exact⟨e,he,List.mem_cons.1 h⟩
 ·rintro⟨e,he,h⟩
  exact⟨e,he,List.mem_cons.2 h⟩
theorem Ch.stU {l:List Ev} {s:wV} (h:Ch l s) : StU s:=⟨fun x hx=>by
 obtain⟨e,he,_,rfl,_⟩:=(h.Cq x).1 hx
 exact(h.sets _).2 (Jr.2 ⟨e,he,.inl rfl⟩),h.one⟩
theorem Ch.len {l m:List Ev} {s:wV} (h:Ch l s) (hm:∀ e∈l,e∈m) : s.2.length≤m.length:=by
 have hn:(s.2.map fun x=>x.1).Nodup:=by
  rw[List.Nodup,List.pairwise_map]
  exact h.one
 have:=Es hn (ys:=m.map fun e=>e.1.1) fun d hd=>by
  obtain⟨x,hx,rfl⟩:=List.mem_map.1 hd
  obtain⟨e,he,_,rfl,_⟩:=(h.Cq x).1 hx
  exact List.mem_map.2 ⟨e,hm e he,rfl⟩
 rwa [List.length_map,List.length_map] at this
theorem Yp {ps:List Pt} {es:List aC} {e:mE} {ks:List aB} {x:aC} : x∈jM ps es e ks↔x.1 ∉ ks∧(x∈es∨(e.2.1=1∧gF ps e.1=false∧x=je e)):=by
 unfold jM
 rw[List.mem_filter]
 constructor
 ·rintro⟨h1,h2⟩
  refine⟨by simpa using h2, ?_⟩
  split at h1
  ·rename_i hc
   simp only[Bool.and_eq_true,Bool.not_eq_true',decide_eq_true_eq] at hc
   rw[(pq iI _).mem_iff,List.mem_append,List.mem_singleton] at h1
   rcases h1 with h1 | h1
   ·exact .inl h1
   ·exact .inr ⟨hc.1,hc.2,h1⟩
  ·exact .inl h1
 ·rintro⟨h1,h2⟩
  refine⟨?_,by simpa using h1⟩
  split
  ·rw[(pq iI _).mem_iff,List.mem_append,List.mem_singleton]
   rcases h2 with h2 | ⟨_,_,h2⟩
   ·exact .inl h2
   ·exact .inr h2
  ·rename_i hc
   rcases h2 with h2 | ⟨h3,h4,_⟩
   ·exact h2
   ·exact absurd (by rw[h3,h4]; rfl) hc
theorem Ch.step {l:List Ev} {s:wV} {x:Ev} {k:Nat} (h:Ch l s) (hk:SI k s.1) (hk2:k + 65<4096) (hg:dz x.1 x.2=true) (hf:∀ e∈l,e.1.1≠x.1.1) : Ch (l++[x]) (qO s x):=by
 have hU:=h.stU
 have e1:qO s x=(yc s.1 x.1 x.2,jM s.1 s.2 x.1 x.2):=by unfold qO; rw[if_pos hg]
 have hm:=Yh hk hk2 hg
 rw[e1]
 refine⟨fun y=>?_,fun d=>?_,Og h.up, ?_,⟨_,zl hk⟩⟩
 ·rw[Yp,h.Cq]
  constructor
  ·rintro⟨hy,⟨e,he,h1,rfl,h3⟩ | ⟨h1,h2,rfl⟩⟩
   ·refine⟨e,by simp[he],h1,rfl,fun f hf'=>?_⟩
    rcases List.mem_append.1 hf' with hf' | hf'
    ·exact h3 f hf'
    ·rw[List.mem_singleton] at hf'
     subst hf'
     exact hy
   ·refine⟨x,by simp,h1,rfl,fun f hf'=>?_⟩
    rcases List.mem_append.1 hf' with hf' | hf'
    ·intro hk'
     rw[(h.sets x.1.1).2 (Jr.2 ⟨f,hf',.inr hk'⟩)] at h2
     cases h2
    ·rw[List.mem_singleton] at hf'
     subst hf'
     exact hy
  ·rintro⟨e,he,h1,rfl,h3⟩
   refine⟨h3 x (by simp), ?_⟩
   rcases List.mem_append.1 he with he | he
   ·exact .inl ⟨e,he,h1,rfl,fun f hf'=>h3 f (by simp[hf'])⟩
   ·rw[List.mem_singleton] at he
    subst he
    refine .inr ⟨h1, ?_,rfl⟩
    cases hs:gF s.1 e.1.1 with
    | false=>rfl
    | true =>
      obtain⟨f,hf',hd⟩:=Jr.1 ((h.sets _).1 hs)
      rcases hd with hd | hd
      ·exact absurd hd.symm (hf f hf')
      ·exact absurd hd (h3 f (by simp[hf']))
 ·show gF (yc s.1 x.1 x.2) d=true↔_
  rw[hm,h.sets]
  have:yj (l++[x])=yj l++(x.1.1 :: x.2):=by simp[yj]
  rw[this,List.mem_append]
 ·show(jM s.1 s.2 x.1 x.2).Pairwise _
  unfold jM
  refine List.Pairwise.filter _ ?_
  split
  ·rename_i hc
   simp only[Bool.and_eq_true,Bool.not_eq_true',decide_eq_true_eq] at hc
   refine(pq iI _).symm.pairwise ?_ (fun {a b} hab e=>hab e.symm)
   rw[List.pairwise_append]
   refine⟨h.one,by simp,fun a ha b hb e=>?_⟩
   simp only[List.mem_singleton] at hb
   subst hb
   have:=hU.seen a ha
   rw[e,show(je x.1).1=x.1.1 from rfl,hc.2] at this
   cases this
  ·exact h.one
theorem Ch.empty:Ch [] (iT,[]):=⟨fun x=>by simp[Live],fun d=>by rw[YI]; simp[yj],.nil,.nil,⟨0,ym⟩⟩
theorem Ch.run {l:List Ev} (hg:∀ x∈l,dz x.1 x.2=true) (hd:l.Pairwise fun x y=>x.1.1≠y.1.1) (hl:l.length≤60) : Ch l (kY l):=by
 suffices h:∀ n,n≤l.length→Ch (l.take n) (kY (l.take n)) by
  have:=h l.length (Nat.le_refl _)
  rwa [List.take_length] at this
 intro n
 induction n with
 | zero=>intro _; exact Ch.empty
 | succ n ih =>
   intro hn
   have h0:=ih (by omega)
   have e:l.take (n + 1)=l.take n++[l[n]]:=List.take_succ_eq_append_getElem (by omega)
   rw[e,NY]
   have hI:=Zi (l.take n)
   rw[List.length_take,Nat.min_eq_left (by omega)] at hI
   refine h0.step hI.si (by omega) (hg _ (List.getElem_mem _)) fun y hy=>?_
   obtain⟨i,hi,rfl⟩:=List.getElem_of_mem hy
   rw[List.length_take] at hi
   rw[List.getElem_take]
   exact(List.pairwise_iff_getElem.1 hd) i n (by omega) (by omega) (by omega)
theorem acD:∀ {a b:List aC},wY a→wY b→(a.Pairwise fun x y=>x.1≠y.1)→(b.Pairwise fun x y=>x.1≠y.1)→(∀ x,x∈a↔x∈b)→a=b:=by
 intro a b ha hb oa ob hm
 have strict:∀ {c:List aC},wY c→(c.Pairwise fun x y=>x.1≠y.1)→c.Pairwise fun x y=>fI x y=true:=fun {c} hu ho=>by
  refine List.Pairwise.imp (fun {x y} h=>?_) (List.Pairwise.and hu ho)
  cases hxy:fI x y with
  | true=>rfl
  | false=>exact absurd (of_decide_eq_true (UY hxy h.1)).2.2 h.2
 have sa:=strict ha oa
 have sb:=strict hb ob
 clear ha hb oa ob
 induction a generalizing b with
 | nil =>
   cases b with
   | nil=>rfl
   | cons y b=>exact absurd ((hm y).2 (by simp)) (by simp)
 | cons x a ih =>
   cases b with
   | nil=>exact absurd ((hm x).1 (by simp)) (by simp)
   | cons y b =>
     rw[List.pairwise_cons] at sa sb
     have hxy:x=y:=by
      rcases List.mem_cons.1 ((hm x).1 (by simp)) with h | h
      ·exact h
      ·rcases List.mem_cons.1 ((hm y).2 (by simp)) with h' | h'
       ·exact h'.symm
       ·have h1:=sb.1 x h
        have h2:=sa.1 y h'
        have:=iI.trans _ _ _ h1 h2
        rw[iI.irrefl] at this
        cases this
     subst hxy
     rw[ih (fun z=>?_) sa.2 sb.2]
     constructor
     ·intro hz
      rcases List.mem_cons.1 ((hm z).1 (by simp[hz])) with h | h
      ·subst h
       have:=sa.1 z hz
       rw[iI.irrefl] at this
       cases this
      ·exact h
     ·intro hz
      rcases List.mem_cons.1 ((hm z).2 (by simp[hz])) with h | h
      ·subst h
       have:=sb.1 z hz
       rw[iI.irrefl] at this
       cases this
      ·exact h
theorem aaV (l:List Ev) : (rF l).Pairwise fun x y=>x.1.1≠y.1.1:=by
 suffices h:∀ (l out:List Ev),(out.Pairwise fun x y=>x.1.1≠y.1.1)→(l.foldl mI out).Pairwise fun x y=>x.1.1≠y.1.1 from h l [] .nil
 intro l
 induction l with
 | nil=>intro out h; exact h
 | cons x l ih =>
   intro out h
   refine ih _ ?_
   unfold mI
   split
   ·rename_i hc
    simp only[Bool.not_eq_true',Bool.or_eq_false_iff,Bool.not_eq_false'] at hc
    rw[List.pairwise_append]
    refine⟨h,by simp,fun a ha b hb e=>?_⟩
    simp only[List.mem_singleton] at hb
    subst hb
    have:=List.any_eq_false.1 hc.2 a ha
    exact this (decide_eq_true e)
   ·exact h
theorem UW {M:RM} {v:AV} {xs:List aC} (h:Sl aA M v xs) {i:Nat} (hi:i<xs.length) {kd:IntKind} {j:Nat} {x:AV} (hx:(aA.cells xs[i])[j]?=some x) {K:AV→Prop} : (ax v (N kd (i:Int)) 5 fun p=>aI p j fun q=>aj M q K)=K x:=by
 obtain⟨b,o,_,_,hidx,hld⟩:=Sl.at (E:=aA) (i:=i) h 5 (i:Int) hi rfl rfl
 rw[hidx,aX,iy]
 rw[En hld hx]
 simp
def JL (TS T TN:Nat) (c:au) : Prop:=∀ {M:RM} {t:Nat} {B:Nat→Prop} {ps:List Pt} {es:List aC} {s:List UInt8} {Q:ai},qb TS T B M t ps es→es.length≤50000→(∀ v M',Ow aA M' M.next TN v (es.filter fun x=>x.2.1 == s)→ag [] M M'→Q v M')→c [.ptr t 0,St s] M Q
theorem Sq {TS T TN:Nat} : JL TS T TN fun args M Q=>∃ a0 a1,args=[a0,a1]∧tu TN a0 a1 M Q:=by
 intro M t B ps es s Q hst hlen hQ
 refine⟨_,_,rfl, ?_⟩
 unfold tu
 simp only[jd,gQ,fC,gp,bZ]
 obtain⟨s0,v,r1,_,r3,_,_⟩:=hst.row
 rw[aM,aX,av (i:=0 + 1) r1 rfl,aL.len r3]
 refine aJ (fun z ys M3=>∃ (i:Nat) (dv:AV),z=es.length - i∧ys=[dv,N .i64 (i:Int)]∧i≤es.length∧ag [] M M3∧Ow aA M3 M.next TN dv ((es.take i).filter fun x=>x.2.1 == s)) _
  ⟨0,bO,rfl,rfl,Nat.zero_le _,ag.refl _ _,.nil⟩ ?_
 rintro next z ys M3 hnext ⟨i,dv,rfl,rfl,hil,k3,o3⟩
 dsimp only[aa]
 rw[eO]
 refine aH (fun hlt=>?_) (fun hge=>?_)
 ·have hlt:i<es.length:=of_decide_eq_true hlt
  have n3:=k3.next
  have hfl:=JY (fun x:aC=>x.2.1 == s) es i
  refine bA (fun zs M'=>∃ dv',zs=[dv']∧ag [] M M'∧Ow aA M' M.next TN dv' ((es.take (i + 1)).filter fun x=>x.2.1 == s)) ?_ ?_
  ·rintro zs M' ⟨dv',rfl,k',o'⟩
   dsimp only[aa]
   rw[add1 (by omega)]
   exact hnext _ _ _ (by omega) ⟨i + 1,dv',rfl,rfl,by omega,k',o'⟩
  intro J hJ
  rw[Ig hlt] at hJ
  rw[sW (aL.keep r3 k3 (by simp)) hlt]
  generalize ((es.take i).filter fun x=>x.2.1 == s)=acc at *
  generalize es[i]=x at *
  rw[bz,fD (n:=5) (x:=.agg (aA.cells x)) (l:=[(N .i64 0),(N .u64 0),(St []),(St []),(St [])]) (RM.aT _) rfl rfl (sD x)]
  have k4:ag [] M3 ((M3.push (.row [(N .i64 0),(N .u64 0),(St []),(St []),(St [])] false TN 0)).put M3.next (.row (AV.agg (aA.cells x)).cells false TN 0)):=((ag.refl _ _).push _).new _ (Nat.le_refl _)
  have h4:((M3.push (.row [(N .i64 0),(N .u64 0),(St []),(St []),(St [])] false TN 0)).put M3.next (.row (AV.agg (aA.cells x)).cells false TN 0)).heap M3.next=some (.row (aA.cells x) false TN 0):=aU _
  generalize (M3.push (.row [(N .i64 0),(N .u64 0),(St []),(St []),(St [])] false TN 0)).put M3.next (.row (AV.agg (aA.cells x)).cells false TN 0)=M4 at *
  generalize M3.next=b at *
  rw[aX,av (i:=0 + 2) (x:=St x.2.1) h4 rfl,DR]
  have k04:=k3.trans k4
  have o4:=o3.keep k4 (by simp)
  refine aH (fun hc=>?_) (fun hc=>?_)
  ·rw[eX (n:=5) h4 rfl,pM (x:=.agg (aA.cells x)) (size:=5) rfl (sD x) rfl,bz]
   refine uP (E:=aA) (a:=x) o4 (by have:=k04.next; omega) (by decide) (by omega) (by omega) fun v2 M7 o7 k7 n7 _=>?_
   refine hJ _ _ ⟨v2,rfl,k04.dU k7 (fun d hd=>.inl (o4.blk d hd).1), ?_⟩
   rw[hc,if_pos rfl]
   exact o7
  ·refine hJ _ _ ⟨dv,rfl,k04, ?_⟩
   rw[hc,if_neg (by decide),List.append_nil]
   exact o4
 ·have he:i=es.length:=by
   have:¬ i<es.length:=of_decide_eq_false hge
   omega
  subst he
  rw[List.take_length] at o3
  exact hQ dv M3 o3 k3
def Rz (s:List UInt8) (x:aC) : Bool:=(s != []) && (x.2.2.1 != s)
def setOf (d:aB) (c f a:List UInt8) : mE:=(d,(1,(c,(f,a))))
def aes (es:List aC) (c f:List UInt8) : List aC:=(es.filter fun x=>x.2.1 == c).filter fun x=>!Rz f x
def Vi (es:List aC) (c f:List UInt8) : List aB:=alO ltD ((aes es c f).map fun x=>x.1)
structure Apart (w:List Ev) (s:wV) (c f a b cc:List UInt8) : Prop where
 ch:Ch w s
 good:∀ e∈w,dz e.1 e.2=true
 one:w.Pairwise fun x y=>x.1.1≠y.1.1
 len:w.length≤30
 dev:∀ e∈w,e.1.1.1<12∧∀ k∈e.2,k.1<12
 hf:f≠[]
 gx:dz (setOf (12,1) c f a) (Vi s.2 c f)=true
 gy:dz (setOf (13,1) c f b) (Vi s.2 c f)=true
 hc:cc.length≤512
section
variable {w:List Ev} {s:wV} {c f a b cc:List UInt8}
end
structure SH (TS T:Nat) (M:RM) (t:Nat) (B:Nat→Prop) (s:wV) : Prop where
 st:qb TS T B M t s.1 s.2
 lo:∀ d,B d→d<M.next
theorem SH.of {TS T t:Nat} {M:RM} {B:Nat→Prop} {ps:List Pt} {es:List aC} (h:qb TS T B M t ps es) : SH TS T M t (fun d=>B d∧d<M.next) (ps,es):=⟨h.below,fun d hd=>hd.2⟩
structure apD (TE:Nat) (M:RM) (b:Nat) (e:mE) (kv:AV) (ks:List aB) : Prop where
 lt:b<M.next
 row:M.heap b=some (.row (fA e kv) false TE 0)
 kills:Sl dP M kv ks
section
variable {TS T:Nat}
end
def U7 (c:au) : Prop:=∀ {M:RM} {x y:aC} {Q:ai},(∀ M',ag [] M M'→Q (Bo (fI x y)) M')→c [.agg (aA.cells x),.agg (aA.cells y)] M Q
theorem adu {x y:aC} (h:x.2.1≠y.2.1) : fI x y=decide (x.2.1<y.2.1):=by
 rw[fI,lex]; simp[h]
theorem adr {x y:aC} (h:x.2.1=y.2.1) (h2:x.2.2.1≠y.2.2.1) : fI x y=decide (x.2.2.1<y.2.2.1):=by
 rw[fI,lex,lex]; simp[h,h2,List.lt_irrefl]
theorem adA {x y:aC} (h:x.2.1=y.2.1) (h2:x.2.2.1=y.2.2.1) : fI x y=nR x.1 y.1:=by
 rw[fI,lex,lex]; simp[h,h2,List.lt_irrefl,nR,lex]
theorem Ui {TN:Nat} {cl:au} (hl:vS cl) : U7 fun args M Q=>∃ a0 a1,args=[a0,a1]∧JS TN cl a0 a1 M Q:=by
 intro M x y Q hQ
 refine⟨_,_,rfl, ?_⟩
 unfold JS
 rw[dL rfl (by rw[aA.len]; decide),bz,dL rfl (by rw[aA.len]; decide),bz]
 have k0:ag [] M ((M.push (.row (aA.cells x) false TN 0)).push (.row (aA.cells y) false TN 0)):=((ag.refl _ _).push _).push _
 have hx:((M.push (.row (aA.cells x) false TN 0)).push (.row (aA.cells y) false TN 0)).heap M.next=some (.row (aA.cells x) false TN 0):=mo (RM.aT _) (by simp[RM.push])
 have hy:((M.push (.row (aA.cells x) false TN 0)).push (.row (aA.cells y) false TN 0)).heap (M.push (.row (aA.cells x) false TN 0)).next=some (.row (aA.cells y) false TN 0):=RM.aT _
 generalize (M.push (.row (aA.cells x) false TN 0)).push (.row (aA.cells y) false TN 0)=M1 at *
 generalize (M.push (.row (aA.cells x) false TN 0)).next=b2 at *
 rw[aX,av (i:=0 + 2) (x:=St x.2.1) hx rfl,aX,av (i:=0 + 2) (x:=St y.2.1) hy rfl,mU]
 refine aH (fun h=>?_) (fun h=>?_)
 ·have h:x.2.1≠y.2.1:=by simpa using h
  rw[aX,av (i:=0 + 2) (x:=St x.2.1) hx rfl,aX,av (i:=0 + 2) (x:=St y.2.1) hy rfl,Js,oF,← adu h]
  exact hQ _ k0
 have h:x.2.1=y.2.1:=by simpa using h
 rw[aX,av (i:=0 + 3) (x:=St x.2.2.1) hx rfl,aX,av (i:=0 + 3) (x:=St y.2.2.1) hy rfl,mU]
 refine aH (fun h2=>?_) (fun h2=>?_)
 ·have h2:x.2.2.1≠y.2.2.1:=by simpa using h2
  rw[aX,av (i:=0 + 3) (x:=St x.2.2.1) hx rfl,aX,av (i:=0 + 3) (x:=St y.2.2.1) hy rfl,Js,oF,← adr h h2]
  exact hQ _ k0
 have h2:x.2.2.1=y.2.2.1:=by simpa using h2
 rw[bB,Yy hx,bB,Yy hy]
 refine hl fun M2 k2=>?_
 rw[← adA h h2]
 exact hQ _ (k0.trans k2)
def atE (x:aC) (l:List aC) : Nat:=(l.takeWhile fun y=>fI y x).length
def RQ (l:List aC) (x:aC) : List aC:=l.take (atE x l)++x :: l.drop (atE x l)
def WU (e:Ev) (i k:Nat) (f:Ev) : Bool:=!decide (e.1.1∈f.2) && !(decide (k<i) && decide (f.1.1=e.1.1))
def Dc (l:List Ev) (e:Ev) (i:Nat) : Nat→Bool
 | 0=>e.1.2.1 == 1
 | k + 1=>Dc l e i k && (match l[k]? with | some f=>WU e i k f | none=>true)
def uO (l:List Ev) : Nat→List aC
 | 0=>[]
 | i + 1=>match l[i]? with
   | some e=>if Dc l e i l.length then RQ (uO l i) (je e.1) else uO l i
   | none=>uO l i
def nm (es:List aC) (i:Nat) : List UInt8:=(es.getD i ((0,0),([],[],[]))).2.1
theorem O0 {es:List aC} {i:Nat} (h:i<es.length) : nm es i=es[i].2.1:=by rw[nm,BM h]
def jh (es:List aC) : Nat→List (List UInt8)
 | 0=>[]
 | i + 1=>if i=0∨nm es (i - 1)≠nm es i then jh es i++[nm es i] else jh es i
theorem JD (es:List aC) : ∀ i,(jh es i).length≤i
 | 0=>Nat.le_refl _
 | i + 1=>by
   have:=JD es i
   rw[jh]
   split
   ·simp; omega
   ·omega
theorem zQ (es:List aC) : ∀ i,(jh es (i + 1)).getLast?=some (nm es i)
 | 0=>by rw[jh,if_pos (.inl rfl)]; simp
 | i + 1=>by
   rw[jh]
   split
   ·simp
   ·rename_i h
    have h:nm es i=nm es (i + 1):=by
     apply Classical.byContradiction; intro hh; exact h (.inr (by simpa using hh))
    rw[zQ es i,h]
theorem aav (es:List aC) (i:Nat) : (jh es (i + 1))≠[]:=fun h=>by
 have:=zQ es i
 rw[h] at this; cases this
def zI (TS T T9:Nat) (c:au) : Prop:=∀ {M:RM} {t:Nat} {B:Nat→Prop} {ps:List Pt} {es:List aC} {Q:ai},qb TS T B M t ps es→es.length≤50000→(∀ v M',Ow zU M' M.next T9 v (jh es es.length)→ag [] M M'→Q v M')→c [.ptr t 0] M Q
theorem OU {TS T TN T9:Nat} : zI TS T T9 fun args M Q=>∃ a0,args=[a0]∧rE TN T9 a0 M Q:=by
 intro M t B ps es Q hst hlen hQ
 refine⟨_,rfl, ?_⟩
 unfold rE
 simp only[jd,gQ,fC,gp,bZ]
 obtain⟨s0,v,r1,_,r3,_,_⟩:=hst.row
 rw[aM,aX,av (i:=0 + 1) r1 rfl,aL.len r3]
 refine aJ (fun z ys M3=>∃ (i:Nat) (dv:AV),z=es.length - i∧ys=[dv,N .i64 (i:Int)]∧i≤es.length∧ag [] M M3∧Ow zU M3 M.next T9 dv (jh es i)) _
  ⟨0,bO,rfl,rfl,Nat.zero_le _,ag.refl _ _,.nil⟩ ?_
 rintro next z ys M3 hnext ⟨i,dv,rfl,rfl,hil,k3,o3⟩
 dsimp only[aa]
 rw[eO]
 refine aH (fun hlt=>?_) (fun hge=>?_)
 ·have hlt:i<es.length:=of_decide_eq_true hlt
  have n3:=k3.next
  have hcl:=JD es i
  refine bA (fun zs M'=>∃ dv',zs=[dv']∧ag [] M M'∧Ow zU M' M.next T9 dv' (jh es (i + 1))) ?_ ?_
  ·rintro zs M' ⟨dv',rfl,k',o'⟩
   dsimp only[aa]
   rw[add1 (by omega)]
   exact hnext _ _ _ (by omega) ⟨i + 1,dv',rfl,rfl,by omega,k',o'⟩
  intro J hJ
  rw[sW (aL.keep r3 k3 (by simp)) hlt]
  have hx:=O0 hlt
  generalize es[i]=x at *
  rw[bz,fD (n:=5) (x:=.agg (aA.cells x)) (l:=[(N .i64 0),(N .u64 0),(St []),(St []),(St [])]) (RM.aT _) rfl rfl (sD x)]
  have k4:ag [] M3 ((M3.push (.row [(N .i64 0),(N .u64 0),(St []),(St []),(St [])] false TN 0)).put M3.next (.row (AV.agg (aA.cells x)).cells false TN 0)):=((ag.refl _ _).push _).new _ (Nat.le_refl _)
  have h4:((M3.push (.row [(N .i64 0),(N .u64 0),(St []),(St []),(St [])] false TN 0)).put M3.next (.row (AV.agg (aA.cells x)).cells false TN 0)).heap M3.next=some (.row (aA.cells x) false TN 0):=aU _
  generalize (M3.push (.row [(N .i64 0),(N .u64 0),(St []),(St []),(St [])] false TN 0)).put M3.next (.row (AV.agg (aA.cells x)).cells false TN 0)=M4 at *
  generalize M3.next=b at *
  have o4:=o3.keep k4 (by simp)
  have k04:=k3.trans k4
  rw[aL.len o4.kU,cO]
  refine UX (P:=fun M'=>M'=M4) (p:=decide (nm es (i - 1)≠nm es i)) rfl (fun hc K hK=>?_) fun M5 hM5=>?_
  ·have hi0:i≠0:=fun e=>by
    subst e; simp[jh] at hc
   have hlp:0<(jh es i).length:=by
    simp only[beq_eq_false_iff_ne,ne_eq] at hc; omega
   rw[aL.len o4.kU,bL hlp (by omega)]
   obtain⟨b1,o1,_,_,hidx,hcell⟩:=Sl.Ef (E:=zU) (i:=(jh es i).length - 1) o4.kU (((jh es i).length - 1:Nat) : Int) (by omega) rfl rfl
   have hlast:(jh es i)[(jh es i).length - 1]'(by omega)=nm es (i - 1):=by
    have:=zQ es (i - 1)
    rw[show i - 1 + 1=i by omega,List.getLast?_eq_getElem?,List.getElem?_eq_getElem (by omega)] at this
    exact Option.some.inj this
   rw[hidx,iy,hcell (St (nm es (i - 1))) (by rw[hlast]; rfl)]
   simp only[Option.some.injEq,exists_eq_left']
   rw[aX,av (i:=0 + 2) (x:=St x.2.1) h4 rfl,mU]
   refine hK M4 rfl |> fun h=>?_
   rw[show(nm es (i - 1) != x.2.1)=decide (nm es (i - 1)≠nm es i) by rw[hx]; by_cases h:nm es (i - 1)=x.2.1 <;> simp[h]]
   exact h
  ·subst hM5
   have hc0:((((jh es i).length:Nat) : Int) == 0)=decide (i=0):=by
    cases i with
    | zero=>simp[jh]
    | succ i =>
      have:=List.length_pos_iff.2 (aav es i)
      rw[decide_eq_false (by omega),beq_eq_false_iff_ne]
      omega
   rw[hc0]
   refine aH (fun hc=>?_) (fun hc=>?_)
   ·simp only[Bool.or_eq_true,decide_eq_true_eq] at hc
    rw[aX,av (i:=0 + 2) (x:=St x.2.1) h4 rfl,pM (x:=St x.2.1) (size:=1) rfl rfl rfl,bz]
    refine uP (E:=zU) (a:=x.2.1) o4 (by have:=k04.next; omega) (by decide) (by omega) (by omega) fun v2 M7 o7 k7 n7 _=>?_
    refine hJ _ _ ⟨v2,rfl,k04.dU k7 (fun d hd=>.inl (o4.blk d hd).1), ?_⟩
    rw[jh,if_pos hc,hx]
    exact o7
   ·refine hJ _ _ ⟨dv,rfl,k04, ?_⟩
    rw[jh,if_neg (by simpa using hc)]
    exact o4
 ·have he:i=es.length:=by
   have:¬ i<es.length:=of_decide_eq_false hge
   omega
  subst he
  exact hQ dv M3 o3 k3
def vK (x:aC) : Prop:=0≤x.1.1∧x.1.1<16∧x.1.2<2 ^ 64∧x.2.1.length≤600∧x.2.2.1.length≤600∧x.2.2.2.length≤600
theorem OC (l:List aC) (x:aC) : (RQ l x).Perm (x :: l):=by
 unfold RQ
 refine List.perm_middle.trans ?_
 rw[List.take_append_drop]
theorem aeW {α:Type} {p:α→Bool} (l:List α) : l.take (l.takeWhile p).length=l.takeWhile p:=(List.prefix_iff_eq_take.1 (List.takeWhile_prefix p)).symm
theorem drop_tw {α:Type} {p:α→Bool} (l:List α) : l.drop (l.takeWhile p).length=l.dropWhile p:=by
 have h:=List.takeWhile_append_dropWhile (p:=p) (l:=l)
 have:l.drop (l.takeWhile p).length=(l.takeWhile p++l.dropWhile p).drop (l.takeWhile p).length:=by rw[h]
 rw[this,List.drop_left]
theorem Rq {x:aC} : ∀ {l:List aC},wY l→∀ y∈l.dropWhile (fun z=>fI z x),fI y x=false
 | [],_,y,hy=>by simp at hy
 | z :: r,h,y,hy=>by
   have h:=List.pairwise_cons.1 h
   by_cases hz:fI z x=true
   ·rw[List.dropWhile_cons_of_pos (p:=fun z=>fI z x) hz] at hy
    exact Rq h.2 y hy
   ·rw[List.dropWhile_cons_of_neg (p:=fun z=>fI z x) hz] at hy
    have hz:fI z x=false:=by simpa using hz
    rcases List.mem_cons.1 hy with rfl | hy
    ·exact hz
    ·exact iI.ntrans _ _ _ (h.1 y hy) hz
theorem Vm {α:Type} {p:α→Bool} : ∀ {l:List α},∀ y∈l.takeWhile p,p y=true
 | [],y,hy=>by simp at hy
 | z :: r,y,hy=>by
   by_cases hz:p z=true
   ·rw[List.takeWhile_cons_of_pos hz] at hy
    rcases List.mem_cons.1 hy with rfl | hy
    ·exact hz
    ·exact Vm y hy
   ·rw[List.takeWhile_cons_of_neg hz] at hy
    simp at hy
theorem ae8 {l:List aC} (h:wY l) (x:aC) : wY (RQ l x):=by
 unfold RQ atE wY
 have h':=h
 rw[← List.takeWhile_append_dropWhile (p:=fun y=>fI y x) (l:=l)] at h'
 unfold wY at h'
 rw[List.pairwise_append] at h'
 rw[aeW,drop_tw,List.pairwise_append]
 refine⟨h'.1,List.pairwise_cons.2 ⟨Rq h,h'.2.1⟩,fun a ha b hb=>?_⟩
 rcases List.mem_cons.1 hb with rfl | hb
 ·have ha:=Vm a ha
  cases hx:fI b a with
  | false=>rfl
  | true =>
    have:=iI.trans _ _ _ ha hx
    rw[iI.irrefl] at this; cases this
 ·exact h'.2.2 a ha b hb
theorem Fg {l:List Ev} {e:Ev} {i:Nat} : ∀ {n:Nat},Dc l e i n=true↔e.1.2.1=1∧∀ k<n,∀ f,l[k]?=some f→e.1.1 ∉ f.2∧¬ (k<i∧f.1.1=e.1.1)
 | 0=>by simp[Dc]
 | n + 1=>by
   rw[Dc,Bool.and_eq_true,Fg (n:=n)]
   constructor
   ·rintro⟨⟨h1,h2⟩,h3⟩
    refine⟨h1,fun k hk f hf=>?_⟩
    rcases Nat.lt_or_ge k n with h | h
    ·exact h2 k h f hf
    ·have:k=n:=by omega
     subst this
     rw[hf] at h3
     simp only[WU,Bool.and_eq_true,Bool.not_eq_true',decide_eq_false_iff_not,Bool.and_eq_false_iff] at h3
     refine⟨h3.1,fun hh=>?_⟩
     rcases h3.2 with h4 | h4
     ·exact h4 hh.1
     ·exact h4 hh.2
   ·rintro⟨h1,h2⟩
    refine⟨⟨h1,fun k hk f hf=>h2 k (by omega) f hf⟩, ?_⟩
    cases hf:l[n]? with
    | none=>rfl
    | some f =>
      have:=h2 n (by omega) f hf
      simp only[WU,Bool.and_eq_true,Bool.not_eq_true',decide_eq_false_iff_not,Bool.and_eq_false_iff]
      refine⟨this.1, ?_⟩
      by_cases hh:n<i
      ·exact .inr fun e=>this.2 ⟨hh,e⟩
      ·exact .inl hh
theorem Gt (l:List Ev) : ∀ i,wY (uO l i)
 | 0=>.nil
 | i + 1=>by
   rw[uO]
   split
   ·split
    ·exact ae8 (Gt l i) _
    ·exact Gt l i
   ·exact Gt l i
theorem IZ {l:List Ev} {x:aC} : ∀ {i:Nat},x∈uO l i↔∃ k,∃ h:k<l.length,k<i∧Dc l l[k] k l.length=true∧x=je l[k].1
 | 0=>by simp[uO]
 | i + 1=>by
   have ih:=IZ (l:=l) (x:=x) (i:=i)
   rw[uO]
   cases hf:l[i]? with
   | none =>
     have hi:l.length≤i:=List.getElem?_eq_none_iff.1 hf
     dsimp only
     rw[ih]
     constructor
     ·rintro⟨k,h,h1,h2⟩; exact⟨k,h,by omega,h2⟩
     ·rintro⟨k,h,h1,h2⟩; exact⟨k,h,by omega,h2⟩
   | some e =>
     obtain⟨hi,he⟩:=List.getElem?_eq_some_iff.1 hf
     subst he
     dsimp only
     by_cases hl:Dc l l[i] i l.length=true
     ·rw[if_pos hl,(OC _ _).mem_iff,List.mem_cons,ih]
      constructor
      ·rintro(h | ⟨k,h,h1,h2⟩)
       ·exact⟨i,hi,by omega,hl,h⟩
       ·exact⟨k,h,by omega,h2⟩
      ·rintro⟨k,h,h1,h2,h3⟩
       rcases Nat.lt_or_ge k i with hk | hk
       ·exact .inr ⟨k,h,hk,h2,h3⟩
       ·have:k=i:=by omega
        subst this; exact .inl h3
     ·rw[if_neg hl,ih]
      constructor
      ·rintro⟨k,h,h1,h2⟩; exact⟨k,h,by omega,h2⟩
      ·rintro⟨k,h,h1,h2⟩
       rcases Nat.lt_or_ge k i with hk | hk
       ·exact⟨k,h,hk,h2⟩
       ·have:k=i:=by omega
        subst this; exact absurd h2.1 hl
theorem Qa {l:List Ev} (h1:l.Pairwise fun x y=>x.1.1≠y.1.1) : ∀ i,(uO l i).Pairwise fun x y=>x.1≠y.1
 | 0=>.nil
 | i + 1=>by
   have ih:=Qa h1 i
   rw[uO]
   cases hf:l[i]? with
   | none=>exact ih
   | some e =>
     obtain⟨hi,he⟩:=List.getElem?_eq_some_iff.1 hf
     subst he
     dsimp only
     split
     ·refine(OC _ _).symm.pairwise (List.pairwise_cons.2 ⟨fun y hy=>?_,ih⟩) (fun {a b} hab e=>hab e.symm)
      obtain⟨k,h,hk,_,rfl⟩:=IZ.1 hy
      exact fun e=>List.pairwise_iff_getElem.1 h1 k i h hi hk e.symm
     ·exact ih
theorem aeC {l:List Ev} {s:wV} (h:Ch l s) (h1:l.Pairwise fun x y=>x.1.1≠y.1.1) : uO l l.length=s.2 :=
 acD (Gt _ _) h.up (Qa h1 _) h.one fun x=>by
  rw[IZ,h.Cq]
  constructor
  ·rintro⟨k,hk,_,hl,rfl⟩
   obtain⟨g1,g2⟩:=Fg.1 hl
   refine⟨l[k],List.getElem_mem hk,g1,rfl,fun f hf=>?_⟩
   obtain⟨j,hj,rfl⟩:=List.getElem_of_mem hf
   exact(g2 j hj _ (List.getElem?_eq_getElem hj)).1
  ·rintro⟨e,he,g1,rfl,g3⟩
   obtain⟨k,hk,rfl⟩:=List.getElem_of_mem he
   refine⟨k,hk,hk,Fg.2 ⟨g1,fun j hj f hf=>?_⟩,rfl⟩
   obtain⟨hj',rfl⟩:=List.getElem?_eq_some_iff.1 hf
   exact⟨g3 _ (List.getElem_mem hj'),fun⟨hjk,e⟩=>List.pairwise_iff_getElem.1 h1 j k hj' hk hjk e⟩
section
variable {α:Type} {E:Enc α}
end
theorem Si {e:mE} {ks:List aB} (h:dz e ks=true) : vK (je e):=by
 have h0:=h
 simp only[dz,Bool.and_eq_true,names,decide_eq_true_eq] at h
 obtain⟨⟨⟨⟨h1,⟨⟨h2,h3⟩,h4⟩,h5⟩,_⟩,_⟩,_⟩:=h
 have hd:=IK h1
 refine⟨hd.1,hd.2.1,by show e.1.2<_; omega, ?_, ?_, ?_⟩ <;> (simp only[je]; omega)
structure PW (l:List Ev) (ps:List Pt) (es:List aC) : Prop where
 ch:Ch l (ps,es)
 one:l.Pairwise fun x y=>x.1.1≠y.1.1
 good:∀ e∈l,dz e.1 e.2=true
 len:l.length≤60
section
variable {l:List Ev} {ps:List Pt} {es:List aC}
theorem PW.Cq (h:PW l ps es) : uO l l.length=es:=aeC h.ch h.one
theorem PW.few (h:PW l ps es) : es.length≤60:=Nat.le_trans (h.ch.len (m:=l) fun e he=>he) h.len
theorem PW.ok (h:PW l ps es) : ∀ x∈es,vK x:=fun x hx=>by
 obtain⟨e,he,_,rfl,_⟩:=(h.ch.Cq x).1 hx
 exact Si (h.good e he)
end
end Go.Ab.Crw
namespace Go.Ab.Crw.Viw
open Go Go.Ab Go.Ab.aB Go.Ab.Crw
theorem Wo {α:Type} {P:List α→Prop} (h0:P []) (h1:∀ l x,P l→P (l++[x])) : ∀ l,P l:=fun l=>by
 rw[← List.reverse_reverse l]
 induction l.reverse with
 | nil=>exact h0
 | cons x r ih=>rw[List.reverse_cons]; exact h1 _ _ ih
theorem MC {α:Type} {l:List α} {z:α} (h:l.getLast?=some z) : ∃ i,l=i++[z]:=List.getLast?_eq_some_iff.1 h
def Ic (es:List aC) : Prop:=es.Pairwise fun x y=>fI x y=true
theorem aiq {es:List aC} (h:wY es) (h1:es.Pairwise fun x y=>x.1≠y.1) : Ic es:=by
 refine(List.pairwise_and_iff.2 ⟨h,h1⟩).imp fun {x y} ⟨a,b⟩=>?_
 cases hc:fI x y with
 | true=>rfl
 | false =>
   have:=UY hc a
   simp only[keq,decide_eq_true_eq] at this
   exact absurd this.2.2 b
def fB (x y:aC) : Bool:=decide (x.2.1=y.2.1) && decide (x.2.2.1=y.2.2.1)
theorem zy {x y:aC} : fB x y=true↔x.2.1=y.2.1∧x.2.2.1=y.2.2.1:=by simp[fB]
theorem KW (x:aC) : fB x x=true:=zy.2 ⟨rfl,rfl⟩
theorem VO (x y:aC) : fB x y=fB y x:=by simp only[fB,eq_comm]
theorem zO {x y:aC} (h:fB x y=true) : fB x=fB y:=by
 obtain⟨a,b⟩:=zy.1 h
 funext z; simp only[fB,a,b]
theorem Zq {x y:aC} (h:fI x y=true) : x.2.1<y.2.1∨(x.2.1=y.2.1∧(x.2.2.1<y.2.2.1∨(x.2.2.1=y.2.2.1∧nR x.1 y.1=true))):=by
 by_cases h1:x.2.1=y.2.1
 ·by_cases h2:x.2.2.1=y.2.2.1
  ·rw[adA h1 h2] at h; exact .inr ⟨h1,.inr ⟨h2,h⟩⟩
  ·rw[adr h1 h2,decide_eq_true_eq] at h; exact .inr ⟨h1,.inl h⟩
 ·rw[adu h1,decide_eq_true_eq] at h; exact .inl h
theorem aed {y z x:aC} (h:y=z∨fI y z=true) (h2:fI z x=true) (h3:fB y x=true) : fB z x=true:=by
 rcases h with rfl | h
 ·exact h3
 ·obtain⟨a,b⟩:=zy.1 h3
  have h4:=Zq h
  have h5:=Zq h2
  rcases h4 with h4 | ⟨h4,h6⟩
  ·rw[a] at h4
   rcases h5 with h5 | ⟨h5,_⟩
   ·exact absurd (List.lt_trans h4 h5) (List.lt_irrefl _)
   ·rw[h5] at h4; exact absurd h4 (List.lt_irrefl _)
  ·have hc:z.2.1=x.2.1:=h4.symm.trans a
   rcases h5 with h5 | ⟨_,h7⟩
   ·rw[hc] at h5; exact absurd h5 (List.lt_irrefl _)
   ·rcases h6 with h6 | ⟨h6,_⟩
    ·rw[b] at h6
     rcases h7 with h7 | ⟨h7,_⟩
     ·exact absurd (List.lt_trans h6 h7) (List.lt_irrefl _)
     ·rw[h7] at h6; exact absurd h6 (List.lt_irrefl _)
    ·exact zy.2 ⟨hc,h6.symm.trans b⟩
def wG (es:List aC) (x:aC) : Bool:=match es.getLast? with
 | none=>true
 | some y=>!fB y x
def Mi (acc:List (List aC)) (n:Bool) (x:aC) : List (List aC):=if n then acc++[[x]] else acc.dropLast++[acc.getLast?.getD []++[x]]
def Xh (p:List aC × List (List aC)) (x:aC) : List aC × List (List aC):=(p.1++[x],Mi p.2 (wG p.1 x) x)
def eY (es:List aC) : List (List aC):=(es.foldl Xh ([],[])).2
theorem Tn:∀ (es:List aC) (p:List aC × List (List aC)),(es.foldl Xh p).1=p.1++es
 | [],p=>by simp
 | x :: es,p=>by rw[List.foldl_cons,Tn es]; simp[Xh]
theorem Jw:eY []=[]:=rfl
theorem zF (es:List aC) (x:aC) : eY (es++[x])=Mi (eY es) (wG es x) x:=by
 rw[eY,List.foldl_append,List.foldl_cons,List.foldl_nil,Xh,Tn]; rfl
structure GI (es:List aC) : Prop where
 ne:∀ g∈eY es,g≠[]
 flat:(eY es).flatten=es
 all:∀ g∈eY es,∀ x∈g,g=es.filter (fB x)
theorem abW {l:List aC} {x:aC} (hs:Ic (l++[x])) (hn:wG l x=true) : ∀ y∈l,fB y x=false:=by
 obtain⟨hl,_,hx⟩:=List.pairwise_append.1 hs
 intro y hy
 cases hz:l.getLast? with
 | none=>rw[List.getLast?_eq_none_iff] at hz; rw[hz] at hy; cases hy
 | some z =>
   rw[wG,hz] at hn
   have hn:fB z x=false:=by simpa using hn
   cases h:fB y x with
   | false=>rfl
   | true =>
     obtain⟨i,rfl⟩:=MC hz
     have hyz:y=z∨fI y z=true:=by
      rcases List.mem_append.1 hy with hy | hy
      ·exact .inr ((List.pairwise_append.1 hl).2.2 y hy z (by simp))
      ·exact .inl (by simpa using hy)
     rw[aed hyz (hx z (by simp) x (by simp)) h] at hn
     cases hn
theorem abZ {es:List aC} (h:GI es) {z:aC} (hz:es.getLast?=some z) : ∃ i g,eY es=i++[g]∧z∈g:=by
 cases hg:(eY es).getLast? with
 | none =>
   rw[List.getLast?_eq_none_iff] at hg
   have:=h.flat
   rw[hg] at this
   rw[← this] at hz; cases hz
 | some g =>
   obtain⟨i,e⟩:=MC hg
   refine⟨i,g,e, ?_⟩
   have hne:=h.ne g (by rw[e]; simp)
   have hf:=h.flat
   rw[e,List.flatten_append] at hf
   have:es.getLast?=g.getLast?:=by
    rw[← hf]
    simp only[List.flatten_cons,List.flatten_nil,List.append_nil]
    rw[List.getLast?_append]
    cases hgl:g.getLast? with
    | none=>rw[List.getLast?_eq_none_iff] at hgl; exact absurd hgl hne
    | some w=>rfl
   rw[hz] at this
   exact List.mem_of_getLast? this.symm
theorem Zk:∀ (es:List aC),Ic es→GI es:=by
 refine Wo (fun _=>⟨by simp[Jw],rfl,by simp[Jw]⟩) fun l x ih hs=>?_
 obtain⟨hl,_,hx⟩:=List.pairwise_append.1 hs
 have h:=ih hl
 have hsub:∀ g∈eY l,∀ y∈g,y∈l:=fun g hg y hy=>by
  rw[← h.flat]; exact List.mem_flatten.2 ⟨g,hg,hy⟩
 cases hn:wG l x with
 | true =>
   have hno:=abW hs hn
   have e:eY (l++[x])=eY l++[[x]]:=by rw[zF,hn]; rfl
   refine⟨?_, ?_, ?_⟩
   ·intro g hg
    rw[e] at hg
    rcases List.mem_append.1 hg with hg | hg
    ·exact h.ne g hg
    ·simp at hg; subst hg; simp
   ·rw[e,List.flatten_append,h.flat]; simp
   ·intro g hg y hy
    rw[e] at hg
    rw[List.filter_append]
    rcases List.mem_append.1 hg with hg | hg
    ·rw[← h.all g hg y hy]
     simp[hno y (hsub g hg y hy)]
    ·simp at hg; subst hg
     simp at hy; subst hy
     have:l.filter (fB y)=[]:=List.filter_eq_nil_iff.2 fun z hz=>by rw[VO,hno z hz]; simp
     rw[this]; simp[KW]
 | false =>
   cases hz:l.getLast? with
   | none=>rw[wG,hz] at hn; cases hn
   | some z =>
     have hzx:fB z x=true:=by rw[wG,hz] at hn; simpa using hn
     obtain⟨i,g,e,hzg⟩:=abZ h hz
     have hgl:=h.all g (by rw[e]; simp) z hzg
     have e2:eY (l++[x])=i++[g++[x]]:=by
      rw[zF,hn,e]
      simp[Mi]
     refine⟨?_, ?_, ?_⟩
     ·intro k hk
      rw[e2] at hk
      rcases List.mem_append.1 hk with hk | hk
      ·exact h.ne k (by rw[e]; exact List.mem_append_left _ hk)
      ·simp at hk; subst hk; simp
     ·have hf:=h.flat
      rw[e,List.flatten_append] at hf
      rw[e2,List.flatten_append]
      conv=>rhs; rw[← hf]
      simp
     ·intro k hk y hy
      rw[e2] at hk
      rw[List.filter_append]
      rcases List.mem_append.1 hk with hk | hk
      ·have hkl:k∈eY l:=by rw[e]; exact List.mem_append_left _ hk
       have hka:=h.all k hkl y hy
       have hyx:fB y x=false:=by
        cases hc:fB y x with
        | false=>rfl
        | true =>
          exfalso
          have hyz:fB y=fB z:=by rw[zO hc,← zO hzx]
          have hf:=h.flat
          rw[e,List.flatten_append] at hf
          have hkg:k=g:=by rw[hka,hgl,hyz]
          have hlen:(l.filter (fB z)).length=g.length:=by rw[← hgl]
          rw[← hf,List.filter_append,List.length_append] at hlen
          have hgg:([g].flatten.filter (fB z)).length=g.length:=by
           simp only[List.flatten_cons,List.flatten_nil,List.append_nil]
           rw[hgl,List.filter_filter]; simp
          have hy2:y∈i.flatten.filter (fB z):=List.mem_filter.2 ⟨List.mem_flatten.2 ⟨k,hk,hy⟩,by rw[← hyz]; exact KW y⟩
          have:=List.length_pos_of_mem hy2
          omega
       rw[← hka]; simp[hyx]
      ·simp at hk; subst hk
       have hyz:fB y=fB z:=by
        rcases List.mem_append.1 hy with hy | hy
        ·rw[hgl] at hy
         exact(zO (List.mem_filter.1 hy).2).symm
        ·simp at hy; subst hy; exact(zO hzx).symm
       rw[hyz,← hgl]; simp[hzx]
def kK (b:aC) : List aC→aC
 | []=>b
 | x :: xs=>kK (if nR b.1 x.1 then x else b) xs
def vE:List aC→aC × Bool
 | []=>(((0,0),([],[],[])),false)
 | x :: xs=>(kK x (x :: xs),true)
theorem KE (b:aC) : ∀ (xs ys:List aC),kK b (xs++ys)=kK (kK b xs) ys
 | [],ys=>rfl
 | x :: xs,ys=>by simp only[List.cons_append,kK]; exact KE _ xs ys
theorem Oz:∀ (xs:List aC) (b:aC),kK b xs=b∨kK b xs∈xs
 | [],b=>.inl rfl
 | x :: xs,b=>by
   rw[kK]
   rcases Oz xs (if nR b.1 x.1 then x else b) with h | h
   ·rw[h]
    split
    ·exact .inr (by simp)
    ·exact .inl rfl
   ·exact .inr (List.mem_cons_of_mem _ h)
theorem aar {g:List aC} (h:g≠[]) : (vE g).1∈g:=by
 cases g with
 | nil=>exact absurd rfl h
 | cons a r =>
   show kK a (a :: r)∈_
   rcases Oz (a :: r) a with h | h
   ·rw[h]; simp
   ·exact h
def aaw (acc:List (List UInt8)) (x:aC) : List (List UInt8):=if x.2.2.2∈acc then acc else acc++[x.2.2.2]
def nD (g:List aC) : List (List UInt8):=g.foldl aaw []
theorem XJ (g:List aC) (x:aC) : nD (g++[x])=aaw (nD g) x:=by rw[nD,List.foldl_append]; rfl
abbrev Vf:=List UInt8 × (List UInt8 × Nat)
def shown (g:List aC) : Vf:=((vE g).1.2.2.1,((vE g).1.2.2.2,(nD g).length))
def uA (es:List aC) (c:List UInt8) : List aC:=es.filter fun x=>x.2.1 == c
def fo (es:List aC) (c:List UInt8) : List Vf:=(eY (uA es c)).map shown
theorem af1 {es:List aC} (h:Ic es) (c:List UInt8) : Ic (uA es c):=h.filter _
theorem aek {es:List aC} (hs:Ic es) {g:List aC} (hg:g∈eY es) {x:aC} (hx:x∈g) : x∈es:=by
 rw[← (Zk es hs).flat]; exact List.mem_flatten.2 ⟨g,hg,hx⟩
theorem aeZ {es:List aC} {c:List UInt8} {x:aC} : x∈uA es c↔x∈es∧x.2.1=c:=by rw[uA,List.mem_filter]; simp
def Vx (acc:List (List UInt8)) (x:aC) : List (List UInt8):=if acc.getLast?=some x.2.1 then acc else acc++[x.2.1]
def l8 (es:List aC) : List (List UInt8):=es.foldl Vx []
theorem Qx (es:List aC) (x:aC) : l8 (es++[x])=Vx (l8 es) x:=by rw[l8,List.foldl_append]; rfl
theorem UJ (es:List aC) : ∀ {i:Nat},i≤es.length→jh es i=l8 (es.take i)
 | 0,_=>by simp[jh,l8]
 | i + 1,h=>by
   have ih:=UJ es (i:=i) (by omega)
   rw[List.take_succ_eq_append_getElem (by omega),Qx,← ih,jh,Vx,← O0 (es:=es) (i:=i) (by omega)]
   cases i with
   | zero=>simp[jh]
   | succ j =>
     rw[zQ]
     simp only[Nat.succ_ne_zero,false_or,Nat.add_sub_cancel,Option.some.injEq]
     by_cases hh:nm es j=nm es (j + 1) <;> simp[hh]
theorem IE (es:List aC) : jh es es.length=l8 es:=by rw[UJ es (Nat.le_refl _),List.take_length]
theorem adT (c:List UInt8) : ∀ es:List aC,c∈l8 es↔∃ x∈es,x.2.1=c:=by
 refine Wo (by simp[l8]) fun es x ih=>?_
 rw[Qx,Vx]
 split
 ·rename_i h
  rw[ih]
  constructor
  ·rintro⟨y,hy,rfl⟩; exact⟨y,List.mem_append_left _ hy,rfl⟩
  ·rintro⟨y,hy,rfl⟩
   rcases List.mem_append.1 hy with hy | hy
   ·exact⟨y,hy,rfl⟩
   ·simp at hy; subst hy; exact ih.1 (List.mem_of_getLast? h)
 ·rw[List.mem_append,ih,List.mem_singleton]
  constructor
  ·rintro(⟨y,hy,rfl⟩ | rfl)
   ·exact⟨y,List.mem_append_left _ hy,rfl⟩
   ·exact⟨x,by simp,rfl⟩
  ·rintro⟨y,hy,rfl⟩
   rcases List.mem_append.1 hy with hy | hy
   ·exact .inl ⟨y,hy,rfl⟩
   ·simp at hy; subst hy; exact .inr rfl
theorem UL (es:List aC) : (l8 es).length≤es.length:=by
 rw[← IE]; exact JD es _
theorem contains_iff {s t:List UInt8} : Lib.contains s t=true↔∃ i,i + t.length≤s.length∧(s.drop i).take t.length=t:=by
 have afS:∀ i,Lib.occAt s t i=true↔(s.drop i).take t.length=t:=fun i=>by
  rw[Lib.occAt,List.isPrefixOf_iff_prefix,List.prefix_iff_eq_take]
  exact eq_comm
 constructor
 ·intro h
  apply Classical.byContradiction
  intro hn
  have:Lib.index s t=-1:=Lib.index_none fun j hj=>by
   cases hc:Lib.occAt s t j with
   | false=>rfl
   | true =>
     have h2:=(afS j).1 hc
     have hl:t.length≤s.length - j:=by
      have:=congrArg List.length h2
      simp at this; omega
     exact absurd ⟨j,by omega,h2⟩ hn
  rw[Lib.contains,this] at h; simp at h
 ·rintro⟨i,hi,h⟩
  cases hc:Lib.contains s t with
  | true=>rfl
  | false =>
    exfalso
    have key:∀ n (h:∃ i,i≤n∧i≤s.length∧Lib.occAt s t i=true),∃ i,i≤s.length∧Lib.occAt s t i=true∧∀ j,j<i→Lib.occAt s t j=false:=by
     intro n
     induction n with
     | zero=>rintro⟨i,h1,h2,h3⟩; exact⟨i,h2,h3,fun j hj=>by omega⟩
     | succ n ih =>
       rintro⟨i,h1,h2,h3⟩
       by_cases hb:∃ j,j≤n∧j≤s.length∧Lib.occAt s t j=true
       ·exact ih hb
       ·refine⟨i,h2,h3,fun j hj=>?_⟩
        cases hh:Lib.occAt s t j with
        | false=>rfl
        | true=>exact absurd ⟨j,by omega,by omega,hh⟩ hb
    obtain⟨k,k1,k2,k3⟩:=key i ⟨i,Nat.le_refl _,by omega,(afS i).2 h⟩
    have:=Lib.index_first k1 k2 k3
    rw[Lib.contains,this] at hc
    simp at hc
theorem contains_nil (s:List UInt8) : Lib.contains s []=true:=contains_iff.2 ⟨0,by simp,by simp⟩
theorem KT {s t:List UInt8} (h:Lib.contains s t=true) (k:Nat) : Lib.contains s (t.take k)=true:=by
 obtain⟨i,h1,h2⟩:=contains_iff.1 h
 refine contains_iff.2 ⟨i,by rw[List.length_take]; omega, ?_⟩
 conv=>rhs; rw[← h2]
 rw[List.length_take,List.take_take,Nat.min_comm k]
end Go.Ab.Crw.Viw
namespace Go.Ab.Crw.Viw
open Go Go.Ab Go.Ab.aB Go.Ab.Vw
abbrev GR:qa (List aC):=qa.slice aA.zJ
structure kV (TN TS n0:Nat) (M:RM) (v:AV) (init:List (List aC)) (g:List aC) : Prop where
 ex:∃ (fs:List AV) (w:AV) (S:Nat→Prop),Own M n0 TS 1 v (fs++[w]) (init.length + 1)∧dJ GR M S fs init∧Ow aA M n0 TN w g ∧
  (∀ b∈aD w,¬ S b)∧(∀ b∈aD v,¬ S b)∧(∀ b∈aD v,b ∉ aD w)∧(∀ b,S b→n0≤b∧b<M.next)
section
variable {TN TS n0:Nat} {M M' : RM} {v:AV} {init:List (List aC)} {g:List aC}
theorem kV.keep (h:kV TN TS n0 M v init g) (hk:ag [] M M') : kV TN TS n0 M' v init g:=by
 obtain⟨fs,w,S,h1,h2,h3,h4,h5,h6,h7⟩:=h.ex
 exact⟨fs,w,S,h1.keep hk (by simp),h2.keep hk (by simp),h3.keep hk (by simp),h4,h5,h6,fun b hb=>⟨(h7 b hb).1,Nat.lt_of_lt_of_le (h7 b hb).2 hk.next⟩⟩
theorem kV.slD (h:kV TN TS n0 M v init g) : gV GR M v (init++[g]) (fun b=>n0≤b∧b<M.next):=by
 obtain⟨fs,w,S,h1,h2,h3,h4,h5,h6,h7⟩:=h.ex
 refine⟨fs++[w], ?_,h1.blk,(h2.mono h7).append (dJ.single ⟨w,rfl,gV.Xr h3.kU h3.blk⟩)⟩
 have:=h1.kU
 rw[List.length_append,List.length_singleton]; exact this
theorem kV.len (h:kV TN TS n0 M v init g) {K:AV→Prop} : bH v K=K (N .i64 ((init.length + 1:Nat) : Int)):=by
 obtain⟨fs,w,S,h1,_⟩:=h.ex
 exact h1.kU.len
theorem kV.blk (h:kV TN TS n0 M v init g) : ∀ b∈aD v,n0≤b∧b<M.next:=by
 obtain⟨fs,w,S,h1,_⟩:=h.ex
 exact h1.blk
theorem kV.more (h:kV TN TS n0 M v init g) (hn:n0≤M.next) (hl:init.length≤50000) {K:ai}
  (hK:∀ v' M',kV TN TS n0 M' v' (init++[g]) []→ag (aD v) M M'→K v' M') :
  appW TS 1 24 [bO] false v (.slc M.next 0 1 (.ex 1)) (M.push (.row [bO] false TS 0)) K:=by
 obtain⟨fs,w,S,h1,h2,h3,h4,h5,h6,h7⟩:=h.ex
 have hk:ag [] M (M.push (.row [bO] false TS 0)):=(ag.refl _ _).push _
 have hnl:mJ (M.push (.row [bO] false TS 0)) 1 [bO] false (.slc M.next 0 1 (.ex 1))=some (1,[bO]):=by
  simp only[mJ,Nat.one_mul]
  rw[RM.bW (RM.aT _) (by simp)]; rfl
 refine xM (h1.keep hk (by simp)) (Nat.le_trans hn hk.next) (by decide) hnl rfl rfl (by omega) (by omega) fun v' M' q1 q2 q3 q4=>?_
 have kk:ag (aD v) M M':=(hk.mono (by simp)).trans q2
 have hvb:=h1.blk
 have hwb:=h3.blk
 have hnew:∀ b∈aD v',b∈aD v∨M.next≤b:=fun b hb=>by
  rcases q4 with rfl | q4
  ·exact .inl hb
  ·exact .inr (Nat.le_trans hk.next (q4 b hb))
 refine hK v' M' ⟨fs++[w],bO,fun b=>S b∨b∈aD w, ?_, ?_,.nil,by simp[aD], ?_,by simp[aD], ?_⟩ kk
 ·rw[List.length_append,List.length_singleton]; exact q1
 ·refine((h2.mono fun b hb=>Or.inl hb).keep kk fun b hb hs=>?_).append (dJ.single ⟨w,rfl,gV.Xr (aL.keep h3.kU kk fun b hb hv=>h6 b hv hb) fun b hb=>.inr hb⟩)
  rcases hs with hs | hs
  ·exact h5 b hb hs
  ·exact h6 b hb hs
 ·rintro b hb (hs | hs)
  ·rcases hnew b hb with h | h
   ·exact h5 b h hs
   ·have:=(h7 b hs).2; omega
  ·rcases hnew b hb with h | h
   ·exact h6 b h hs
   ·have:=(hwb b hs).2; omega
 ·rintro b (hs | hs)
  ·exact⟨(h7 b hs).1,Nat.lt_of_lt_of_le (h7 b hs).2 (Nat.le_trans hk.next q3)⟩
  ·exact⟨(hwb b hs).1,Nat.lt_of_lt_of_le (hwb b hs).2 (Nat.le_trans hk.next q3)⟩
theorem kV.start (hn:n0≤M.next) {K:ai} (hK:∀ v' M',kV TN TS n0 M' v' [] []→ag [] M M'→K v' M') :
  appW TS 1 24 [bO] false bO (.slc M.next 0 1 (.ex 1)) (M.push (.row [bO] false TS 0)) K:=by
 have hk:ag [] M (M.push (.row [bO] false TS 0)):=(ag.refl _ _).push _
 have hnl:mJ (M.push (.row [bO] false TS 0)) 1 [bO] false (.slc M.next 0 1 (.ex 1))=some (1,[bO]):=by
  simp only[mJ,Nat.one_mul]
  rw[RM.bW (RM.aT _) (by simp)]; rfl
 refine xM (base:=n0) (cs:=[]) (n:=0) .nil (Nat.le_trans hn hk.next) (by decide) hnl rfl rfl (by omega) (by omega) fun v' M' q1 q2 q3 q4=>?_
 refine hK v' M' ⟨[],bO,fun _=>False,q1,.nil,.nil,by simp,by simp,by simp[aD],by simp⟩ (hk.trans (q2.mono (by simp[aD])))
theorem kV.put (h:kV TN TS n0 M v init g) (hn:n0≤M.next) (hl:init.length≤50000) (hg:g.length≤50000) {x:aC} {K:RM→Prop}
  (hK:∀ M',kV TN TS n0 M' v init (g++[x])→nJ n0 [] M M'→K M') :
  ∃ b w,M.heap b≠none∧(∀ K:AV→Prop,ax v (N .i64 ((init.length:Nat) : Int)) 1 K=K (.ptr b init.length))∧(∀ K:AV→Prop,aj M (.ptr b init.length) K=K w) ∧
    appW TN 5 64 [(N .i64 0),(N .u64 0),(St []),(St []),(St [])] false w (.slc M.next 0 1 (.ex 1)) (M.push (.row (aA.cells x) false TN 0)) fun w' M1=>aG M1 (.ptr b init.length) w' 1 K:=by
 obtain⟨fs,w,S,h1,h2,h3,h4,h5,h6,h7⟩:=h.ex
 obtain⟨b,rfl,hb1,hb2,hb3,hb4⟩:=Own.yP h1 (by omega)
 have hfl:fs.length=init.length:=by
  simp only[List.length_append,List.length_singleton] at hb4; omega
 refine⟨b,w,by rw[hb3]; simp,fun K=>?_,fun K=>?_, ?_⟩
 ·rw[lS]
  simp only[Int.toNat_natCast]
  rw[show 0 + init.length * 1=init.length by omega]
  exact propext ⟨fun h=>h.2.2,fun h=>⟨by omega,by omega,h⟩⟩
 ·exact av hb3 (by rw[← hfl,List.getElem?_append_right (Nat.le_refl _)]; simp)
 ·refine uP (E:=aA) (a:=x) h3 hn (by decide) (by omega) (by omega) fun w' M1 o1 k1 n1 q1=>?_
  have hbw:b ∉ aD w:=h6 b (by simp[aD])
  have hwb:=h3.blk
  have ajz:b ∉ aD w':=by
   rcases q1 with rfl | q1
   ·exact hbw
   ·exact fun hm=>by have:=q1 b hm; omega
  have hh:=k1.aR hb3 hb2 hbw
  rw[F6 (fs++[w']) hh (by simp; omega) o1.cells o1.one (by rw[← hfl,List.set_append_right _ _ (Nat.le_refl _)]; simp)]
  have kp:ag [b] M1 (M1.put b (.row (fs++[w']) true TS 0)):=(ag.refl _ _).put _ (.inr (by simp))
  have n2:(M1.put b (.row (fs++[w']) true TS 0)).next=M1.next:=rfl
  have hbS:¬ S b:=h5 b (by simp[aD])
  refine hK _ ⟨fs,w',S,.op _ _ _ hb1 (by rw[n2]; omega) (aU _) (by simp; omega),(h2.keep k1 fun c hc hs=>h4 c hc hs).keep kp (by simpa using hbS),o1.keep kp (fun c hc hm=>ajz (by simp at hm; subst hm; exact hc)), ?_,h5, ?_, ?_⟩ ?_
  ·intro c hc hs
   rcases q1 with rfl | q1
   ·exact h4 c hc hs
   ·have:=q1 c hc; have:=(h7 c hs).2; omega
  ·intro c hc
   simp[aD] at hc; subst hc; exact ajz
  ·exact fun c hs=>⟨(h7 c hs).1,by rw[n2]; have:=(h7 c hs).2; omega⟩
  ·exact(k1.to hn fun c hc=>.inl (hwb c hc).1).trans (nJ.mk rfl (Nat.le_refl _) fun c h1 h2=>by
    simp only[RM.put]; rw[if_neg (by omega)])
end
def NC (c:au) : Prop:=∀ {M:RM} {v:AV} {es:List aC} {Q:ai},Sl aA M v es→es.length≤50000 →
 (∀ v' M',gV GR M' v' (eY es) (fun b=>M.next≤b∧b<M'.next)→ag [] M M'→Q v' M')→c [v] M Q
theorem Gx:∀ es:List aC,(eY es).length≤es.length∧∀ g∈eY es,g.length≤es.length:=by
 refine Wo (by simp[Jw]) fun es x ih=>?_
 rw[zF,Mi]
 obtain⟨h1,h2⟩:=ih
 split
 ·refine⟨by simp; omega,fun g hg=>?_⟩
  rcases List.mem_append.1 hg with hg | hg
  ·have:=h2 g hg; simp; omega
  ·simp at hg; subst hg; simp
 ·cases hz:(eY es).getLast? with
  | none=>rw[List.getLast?_eq_none_iff] at hz; rw[hz]; simp
  | some z =>
    obtain⟨i,e⟩:=MC hz
    rw[e] at h1 h2 ⊢
    simp only[List.dropLast_concat,List.getLast?_concat,Option.getD_some,List.length_append,List.length_singleton] at h1 ⊢
    refine⟨by omega,fun g hg=>?_⟩
    rcases List.mem_append.1 hg with hg | hg
    ·have:=h2 g (List.mem_append_left _ hg); omega
    ·simp at hg; subst hg
     have:=h2 z (by simp); simp; omega
theorem adK {es:List aC} {i:Nat} (hi:i<es.length) : wG (es.take i) es[i]=((i == 0) || (decide (nm es (i - 1)≠es[i].2.1) || decide ((es.getD (i - 1) ((0,0),([],[],[]))).2.2.1≠es[i].2.2.1))):=by
 cases i with
 | zero=>simp[wG]
 | succ j =>
   rw[List.take_succ_eq_append_getElem (by omega)]
   simp only[wG,List.getLast?_concat,Nat.add_sub_cancel]
   rw[O0 (by omega),BM (by omega),fB]
   simp
theorem Uq {TN TS:Nat} : NC fun args M Q=>∃ a0,args=[a0]∧wU TN TS a0 M Q:=by
 intro M v es Q hv hlen hQ
 refine⟨_,rfl, ?_⟩
 unfold wU
 simp only[jd,gQ,fC,gp,bZ]
 rw[aL.len hv]
 refine aJ (fun z ys M3=>∃ (i:Nat) (dv:AV),z=es.length - i∧ys=[dv,N .i64 (i:Int)]∧i≤es.length∧ag [] M M3∧((i=0∧dv=bO)∨∃ init g,eY (es.take i)=init++[g]∧kV TN TS M.next M3 dv init g)) _
  ⟨0,bO,rfl,rfl,Nat.zero_le _,ag.refl _ _,.inl ⟨rfl,rfl⟩⟩ ?_
 rintro next z ys M3 hnext ⟨i,dv,rfl,rfl,hil,k3,hg⟩
 dsimp only[aa]
 rw[eO]
 refine aH (fun hlt=>?_) (fun hge=>?_)
 ·have hlt:i<es.length:=of_decide_eq_true hlt
  have n3:=k3.next
  refine bA (fun zs M'=>∃ dv' init g,zs=[dv']∧ag [] M M'∧eY (es.take (i + 1))=init++[g]∧kV TN TS M.next M' dv' init g) ?_ ?_
  ·rintro zs M' ⟨dv',init,g,rfl,k',e',o'⟩
   dsimp only[aa]
   rw[add1 (by omega)]
   exact hnext _ _ _ (by omega) ⟨i + 1,dv',rfl,rfl,by omega,k',.inr ⟨init,g,e',o'⟩⟩
  intro J hJ
  rw[sW (aL.keep hv k3 (by simp)) hlt]
  have hnw:=adK hlt
  have hgs:eY (es.take (i + 1))=Mi (eY (es.take i)) (wG (es.take i) es[i]) es[i]:=by
   rw[List.take_succ_eq_append_getElem hlt,zF]
  have hgl:=Gx (es.take i)
  rw[List.length_take] at hgl
  generalize es[i]=x at *
  rw[bz,fD (n:=5) (x:=.agg (aA.cells x)) (l:=[(N .i64 0),(N .u64 0),(St []),(St []),(St [])]) (RM.aT _) rfl rfl (sD x)]
  have k4:ag [] M3 ((M3.push (.row [(N .i64 0),(N .u64 0),(St []),(St []),(St [])] false TN 0)).put M3.next (.row (AV.agg (aA.cells x)).cells false TN 0)):=((ag.refl _ _).push _).new _ (Nat.le_refl _)
  have h4:((M3.push (.row [(N .i64 0),(N .u64 0),(St []),(St []),(St [])] false TN 0)).put M3.next (.row (AV.agg (aA.cells x)).cells false TN 0)).heap M3.next=some (.row (aA.cells x) false TN 0):=aU _
  have hb4:M3.next<((M3.push (.row [(N .i64 0),(N .u64 0),(St []),(St []),(St [])] false TN 0)).put M3.next (.row (AV.agg (aA.cells x)).cells false TN 0)).next:=by rw[nC,sI]; omega
  have hdv:∀ c∈aD dv,c<M3.next:=by
   rcases hg with⟨_,rfl⟩ | ⟨a,g,e,o⟩
   ·simp[aD]
   ·exact fun c hc=>(o.blk c hc).2
  generalize (M3.push (.row [(N .i64 0),(N .u64 0),(St []),(St []),(St [])] false TN 0)).put M3.next (.row (AV.agg (aA.cells x)).cells false TN 0)=M4 at *
  generalize M3.next=b at *
  have k04:=k3.trans k4
  have v4:=aL.keep hv k04 (by simp)
  have n4:=k04.next
  have hg4:(i=0∧dv=bO)∨∃ init g,eY (es.take i)=init++[g]∧kV TN TS M.next M4 dv init g:=hg.imp id fun⟨a,g,e,o⟩=>⟨a,g,e,o.keep k4⟩
  clear hg
  refine bA (fun zs M'=>∃ dv' init g,zs=[dv']∧ag [] M M'∧M'.heap b=some (.row (aA.cells x) false TN 0)∧eY (es.take (i + 1))=init++[g++[x]]∧kV TN TS M.next M' dv' init g) ?_ ?_
  ·rintro zs M' ⟨dv',init,g,rfl,k',hx',e',o'⟩
   dsimp only[aa]
   have n':=k'.next
   have aaD:=Gx (es.take (i + 1))
   rw[e',List.length_take] at aaD
   have hl1:=aaD.1
   have hl2:=aaD.2 (g++[x]) (by simp)
   simp only[List.length_append,List.length_singleton] at hl1 hl2
   rw[o'.len,bL (by omega) (by omega),o'.len,bL (by omega) (by omega),Nat.add_sub_cancel]
   obtain⟨bb,w,hne,hidx,hld,happ⟩:=o'.put (x:=x) (K:=fun M5=>J [dv'] M5) n' (by omega) (by omega) fun M5 o5 k5=>hJ _ _ ⟨dv',init,g++[x],rfl,k'.aeK k5 (Nat.le_refl _) (by simp),e',o5⟩
   rw[hidx,hld,eX (n:=5) hx' rfl,pM (x:=.agg (aA.cells x)) (size:=5) rfl (sD x) rfl,rT]
   simp only[hidx]
   exact happ
  intro J2 hJ2
  rw[cO]
  refine UX (P:=fun M'=>M'=M4) (p:=decide (nm es (i - 1)≠x.2.1)) rfl (fun hc K hK=>?_) fun M5 hM5=>?_
  ·have hi0:i≠0:=fun e=>by
    subst e; simp at hc
   rw[bL (by omega) (by omega),UW v4 (i:=i - 1) (by omega) (x:=St es[i - 1].2.1) rfl,aX,av (i:=0 + 2) (x:=St x.2.1) h4 rfl,mU]
   refine hK M4 rfl |> fun h=>?_
   rw[show(es[i - 1].2.1 != x.2.1)=decide (nm es (i - 1)≠x.2.1) by rw[O0 (by omega)]; by_cases h:es[i - 1].2.1=x.2.1 <;> simp[h]]
   exact h
  subst hM5
  refine UX (P:=fun M'=>M'=M5) (p:=decide ((es.getD (i - 1) ((0,0),([],[],[]))).2.2.1≠x.2.2.1)) rfl (fun hc K hK=>?_) fun M6 hM6=>?_
  ·have hi0:i≠0:=fun e=>by
    subst e; simp at hc
   rw[bL (by omega) (by omega),UW v4 (i:=i - 1) (by omega) (x:=St es[i - 1].2.2.1) rfl,aX,av (i:=0 + 3) (x:=St x.2.2.1) h4 rfl,mU]
   refine hK M5 rfl |> fun h=>?_
   rw[show(es[i - 1].2.2.1 != x.2.2.1)=decide ((es.getD (i - 1) ((0,0),([],[],[]))).2.2.1≠x.2.2.1) by rw[BM (by omega)]; by_cases h:es[i - 1].2.2.1=x.2.2.1 <;> simp[h]]
   exact h
  subst hM6
  rw[show(((((i:Int) == 0)) || decide (nm es (i - 1)≠x.2.1)) || decide ((es.getD (i - 1) ((0,0),([],[],[]))).2.2.1≠x.2.2.1))=wG (es.take i) x by
   rw[hnw,Bool.or_assoc]; congr 1; cases i <;> simp; omega]
  refine aH (fun hc=>?_) (fun hc=>?_)
  ·rw[hc] at hgs
   rw[pM (x:=bO) (size:=1) rfl rfl rfl,bz]
   have hgs:eY (es.take (i + 1))=eY (es.take i)++[[x]]:=hgs
   rcases hg4 with⟨h0,rfl⟩ | ⟨init,g,e,o⟩
   ·subst h0
    refine kV.start (TN:=TN) (n0:=M.next) n4 fun v' M7 o7 k7=>?_
    exact hJ2 _ _ ⟨v',[],[],rfl,k04.trans k7,k7.aR h4 hb4 (by simp),by rw[hgs]; rfl,o7⟩
   ·rw[e] at hgl
    have hl1:=hgl.1
    simp only[List.length_append,List.length_singleton] at hl1
    refine o.more n4 (by omega) fun v' M7 o7 k7=>?_
    exact hJ2 _ _ ⟨v',init++[g],[],rfl,k04.dU k7 (fun c hc=>.inl (o.blk c hc).1),k7.aR h4 hb4 (fun hm=>by have:=hdv _ hm; omega),by rw[hgs,e]; simp,o7⟩
  ·rw[hc] at hgs
   rcases hg4 with⟨h0,rfl⟩ | ⟨init,g,e,o⟩
   ·subst h0
    rw[hnw] at hc; simp at hc
   ·refine hJ2 _ _ ⟨dv,init,g,rfl,k04,h4, ?_,o⟩
    rw[hgs,e]; simp[Mi]
 ·have he:i=es.length:=by
   have:¬ i<es.length:=of_decide_eq_false hge
   omega
  subst he
  rw[List.take_length] at hg
  rcases hg with⟨h0,rfl⟩ | ⟨init,g,e,o⟩
  ·have:es=[]:=List.length_eq_zero_iff.1 h0
   subst this
   exact hQ _ M3 ⟨[],.nil,by simp[aD],.nil⟩ k3
  ·refine hQ _ M3 ?_ k3
   rw[e]; exact o.slD
abbrev Du:List AV:=[(N .i64 0),(N .u64 0),(St []),(St []),(St [])]
theorem GY {M:RM} {TN:Nat} {x:aC} {K:RM→AV→Prop} (hK:∀ M',M'.next=M.next + 1→ag [] M M'→M'.heap M.next=some (.row (aA.cells x) false TN 0)→K M' (.ptr M.next 0)) :
  bP (.row [(N .i64 0),(N .u64 0),(St []),(St []),(St [])] false TN 0) (fun b=>.ptr b 0) M fun t M1=>aG M1 t (.agg (aA.cells x)) 5 fun M2=>K M2 t:=by
 rw[bz,fD (n:=5) (x:=.agg (aA.cells x)) (l:=[(N .i64 0),(N .u64 0),(St []),(St []),(St [])]) (RM.aT _) rfl rfl (sD x)]
 exact hK _ (by rw[nC,sI]) (((ag.refl _ _).push _).new _ (Nat.le_refl _)) (aU _)
theorem Kj {M:RM} {b o n e f:Nat} {l:List AV} {p:Bool} (cs:List AV) {K:AV→Prop} (h:M.heap b=some (.row l p e f)) (hl:wu (some l) o n=some cs) : aF M (.ptr b o) n K=K (.agg cs):=by
 rw[fK,RM.QF h,hl]; simp
def Ju (c:au) : Prop:=∀ {M:RM} {v:AV} {xs:List aC} {Q:ai},Sl aA M v xs→xs.length≤50000→(∀ M',ag [] M M'→Q (.tup [.agg (aA.cells (vE xs).1),Bo (vE xs).2]) M')→c [v] M Q
theorem Tp {TN:Nat} {cl:au} (hl:vS cl) : Ju fun args M Q=>∃ a0,args=[a0]∧wT TN cl a0 M Q:=by
 intro M v xs Q hv hlen hQ
 refine⟨_,rfl, ?_⟩
 unfold wT
 rw[bz]
 simp only[jd,gQ,fC,gp,bZ]
 rw[aL.len hv,cO]
 have k1:ag [] M (M.push (.row Du false TN 0)):=(ag.refl _ _).push _
 have h1:(M.push (.row Du false TN 0)).heap M.next=some (.row Du false TN 0):=RM.aT _
 have n1:(M.push (.row Du false TN 0)).next=M.next + 1:=sI _
 refine aH (fun hc=>?_) (fun hc=>?_)
 ·have:xs=[]:=by
   have:(xs.length:Int)=0:=by simpa using hc
   exact List.length_eq_zero_iff.1 (by omega)
  subst this
  rw[rU]
  refine⟨_,rfl, ?_⟩
  rw[fD (n:=5) (x:=.agg Du) (l:=Du) h1 rfl rfl rfl]
  rw[eX (n:=5) (aU _) rfl]
  exact hQ _ (k1.put _ (.inl (Nat.le_refl _)))
 ·have hpos:0<xs.length:=by
   rcases Nat.eq_zero_or_pos xs.length with h | h
   ·rw[h] at hc; simp at hc
   ·exact h
  generalize M.push (.row Du false TN 0)=M1 at *
  rw[show(N .i64 (0:Int))=N .i64 ((0:Nat) : Int) from rfl,sW (aL.keep hv k1 (by simp)) hpos]
  refine GY fun M2 n2 k2 h2=>?_
  have h1':=k2.aR h1 (by omega) (by simp)
  rw[aL.len (aL.keep hv (k1.trans k2) (by simp))]
  refine aJ (fun z ys M3=>∃ (i:Nat),z=xs.length - i∧ys=[N .i64 (i:Int)]∧i≤xs.length∧ag [] M M3∧M.next + 2≤M3.next∧M3.heap M.next=some (.row Du false TN 0)∧M3.heap M1.next=some (.row (aA.cells (kK xs[0] (xs.take i))) false TN 0)) _
   ⟨0,rfl,rfl,Nat.zero_le _,k1.trans k2,by omega,h1',h2⟩ ?_
  rintro next z ys M3 hnext ⟨i,rfl,rfl,hil,k3,n3,h3,h4⟩
  dsimp only[aa]
  rw[eO]
  refine aH (fun hlt=>?_) (fun hge=>?_)
  ·have hlt:i<xs.length:=of_decide_eq_true hlt
   have hb:kK xs[0] (xs.take (i + 1))=if nR (kK xs[0] (xs.take i)).1 xs[i].1 then xs[i] else kK xs[0] (xs.take i):=by
    rw[List.take_succ_eq_append_getElem hlt,KE]; rfl
   refine bA (fun zs M'=>zs=[]∧ag [] M M'∧M.next + 2≤M'.next∧M'.heap M.next=some (.row Du false TN 0)∧M'.heap M1.next=some (.row (aA.cells (kK xs[0] (xs.take (i + 1)))) false TN 0)) ?_ ?_
   ·rintro zs M' ⟨rfl,a1,a2,a3,a4⟩
    rw[add1 (by omega)]
    exact hnext _ _ _ (by omega) ⟨i + 1,rfl,rfl,by omega,a1,a2,a3,a4⟩
   intro J hJ
   rw[sW (aL.keep hv k3 (by simp)) hlt]
   generalize xs[i]=x at *
   generalize kK xs[0] (xs.take i)=y at *
   refine GY fun M4 n4 k4 h5=>?_
   have h3':=k4.aR h3 (by omega) (by simp)
   have h4':=k4.aR h4 (by omega) (by simp)
   rw[bB,Kj (aP y.1) h4' rfl,bB,Kj (aP x.1) h5 rfl]
   refine hl fun M5 k5=>?_
   have n5:=k5.next
   have ajD:=k5.aR h3' (by omega) (by simp)
   have aiX:=k5.aR h4' (by omega) (by simp)
   have h5':=k5.aR h5 (by omega) (by simp)
   have k35:=(k3.trans k4).trans k5
   refine aH (fun hc=>?_) (fun hc=>?_)
   ·rw[eX (n:=5) h5' rfl,fD (n:=5) (x:=.agg (aA.cells x)) aiX rfl rfl (sD x)]
    refine hJ _ _ ⟨rfl,k35.put _ (.inl (by omega)),by rw[nC]; omega,qy ajD (by omega), ?_⟩
    rw[hb,if_pos hc]; exact aU _
   ·refine hJ _ _ ⟨rfl,k35,by omega,ajD, ?_⟩
    rw[hb,if_neg (by rw[hc]; simp)]; exact aiX
  ·have he:i=xs.length:=by
    have:¬ i<xs.length:=of_decide_eq_false hge
    omega
   subst he
   rw[List.take_length] at h4
   rw[eX (n:=5) h4 rfl,fD (n:=5) (x:=.agg (aA.cells (kK xs[0] xs))) h3 rfl rfl (sD _),eX (n:=5) (aU _) rfl]
   have hw:vE xs=(kK xs[0] xs,true):=by
    cases xs with
    | nil=>simp at hpos
    | cons a r=>rfl
   rw[hw] at hQ
   exact hQ _ (k3.put _ (.inl (Nat.le_refl _)))
def tV (k:Nat) : List (List UInt8)→List (AV × AV × Nat)
 | []=>[]
 | s :: r=>(St s,Bo true,k) :: tV (k + 1) r
theorem NT (x:List UInt8) : ∀ (r:List (List UInt8)) (k:Nat),tV k (r++[x])=tV k r++[(St x,Bo true,k + r.length)]
 | [],k=>rfl
 | y :: r,k=>by
   simp only[List.cons_append,tV,NT x r (k + 1),List.length_cons]
   rw[show k + 1 + r.length=k + (r.length + 1) by omega]
theorem Qk:∀ (r:List (List UInt8)) (k:Nat),(tV k r).length=r.length
 | [],k=>rfl
 | y :: r,k=>by simp[tV,Qk r]
theorem Ox (s:List UInt8) : ∀ (r:List (List UInt8)) (k i:Nat),∃ o,pE false [2] [St s] (tV k r) i=some o∧((s∈r∧∃ j,o=some (i + j,Bo true)∧Jo (St s) (Bo true) (tV k r) j=tV k r)∨(s ∉ r∧o=none))
 | [],k,i=>⟨none,rfl,.inr ⟨by simp,rfl⟩⟩
 | x :: r,k,i=>by
   simp only[tV,pE,gH]
   rw[if_pos (by rfl),Lu]
   by_cases h:s=x
   ·rw[if_pos h,Dy]
    exact⟨_,rfl,.inl ⟨by simp[h],0,rfl,by rw[h]; rfl⟩⟩
   ·rw[if_neg h]
    obtain⟨o,h1,h2⟩:=Ox s r (k + 1) (i + 1)
    refine⟨o,h1, ?_⟩
    rcases h2 with⟨h2,j,e,h3⟩ | ⟨h2,e⟩
    ·exact .inl ⟨List.mem_cons_of_mem _ h2,j + 1,by rw[e]; congr 2; omega,by rw[Jo,h3]⟩
    ·exact .inr ⟨by simp[h,h2],e⟩
theorem ae3 {M:RM} {b:Nat} {g:List aC} {x:aC} {K:RM→Prop} (h:M.heap b=some (.map (tV 0 (nD g)) (nD g).length)) (hK:K (M.put b (.map (tV 0 (nD (g++[x]))) (nD (g++[x])).length))) :
  GU false [2] M (.map b) (St x.2.2.2) (Bo true) K:=by
 obtain⟨o,h1,h2⟩:=Ox x.2.2.2 (nD g) 0 0
 refine⟨b,_,_,[St x.2.2.2],o,rfl,h,rfl,rfl,h1, ?_⟩
 rw[XJ,aaw] at hK
 rcases h2 with⟨h2,j,rfl,h3⟩ | ⟨h2,rfl⟩
 ·rw[if_pos h2] at hK
  simp only[ZT,Nat.zero_add,h3]
  exact hK
 ·rw[if_neg h2,NT,List.length_append,List.length_singleton] at hK
  simp only[ZT]
  rw[Nat.zero_add] at hK
  exact hK
def Ay:Enc Vf:=⟨3,fun f=>[St f.1,St f.2.1,N .i64 (f.2.2:Int)],fun _=>rfl,fun _=>rfl⟩
def Nu (TS T TF:Nat) (c:au) : Prop:=∀ {M:RM} {t:Nat} {B:Nat→Prop} {ps:List Pt} {es:List aC} {s:List UInt8} {Q:ai},qb TS T B M t ps es→es.length≤50000→(∀ v M',Ow Ay M' M.next TF v (fo es s)→ag [] M M'→Q v M')→c [.ptr t 0,St s] M Q
theorem Uv {TS T TN TF:Nat} {cC cG cW:au} (hC:JL TS T TN cC) (hG:NC cG) (hW:Ju cW) : Nu TS T TF fun args M Q=>∃ a0 a1,args=[a0,a1]∧wM cC cG cW TN TF a0 a1 M Q:=by
 intro M t B ps es s Q hst hlen hQ
 refine⟨_,_,rfl, ?_⟩
 unfold wM
 refine hC hst hlen fun v1 M1 o1 k1=>?_
 have hfl:(uA es s).length≤es.length:=List.length_filter_le _ _
 refine hG (es:=uA es s) o1.kU (by omega) fun v2 M2 d2 k2=>?_
 have n1:=k1.next
 have k02:=k1.trans k2
 have n2:=k02.next
 have hgl:=Gx (uA es s)
 rw[d2.len]
 refine aJ (fun z ys M3=>∃ (i:Nat) (dv:AV),z=(eY (uA es s)).length - i∧ys=[dv,N .i64 (i:Int)]∧i≤(eY (uA es s)).length∧ag [] M2 M3∧Ow Ay M3 M2.next TF dv (((eY (uA es s)).take i).map shown)) _
  ⟨0,bO,rfl,rfl,Nat.zero_le _,ag.refl _ _,.nil⟩ ?_
 rintro next z ys M3 hnext ⟨i,dv,rfl,rfl,hil,k3,o3⟩
 dsimp only[aa]
 rw[eO]
 refine aH (fun hlt=>?_) (fun hge=>?_)
 ·have hlt:i<(eY (uA es s)).length:=of_decide_eq_true hlt
  have n3:=k3.next
  obtain⟨b,o,cs,_,_,hidx,hld,w,rfl,hw⟩:=gV.at (R:=GR) (d2.keep k3 (by simp)) 1 (i:Int) hlt rfl rfl
  have hsh:((eY (uA es s)).take (i + 1)).map shown=((eY (uA es s)).take i).map shown++[shown (eY (uA es s))[i]]:=by
   rw[List.take_succ_eq_append_getElem hlt,List.map_append,List.map_singleton]
  have hgi:=hgl.2 _ (List.getElem_mem hlt)
  have hml:(((eY (uA es s)).take i).map shown).length≤i:=by rw[List.length_map,List.length_take]; omega
  generalize (eY (uA es s))[i]=g at *
  have hw:=hw.sl
  rw[hidx,iy,uJ hld rfl]
  simp only[Option.some.injEq,exists_eq_left']
  refine hW hw (by omega) fun M4 k4=>?_
  have n4:=k4.next
  rw[oW,o8]
  refine GY fun M5 n5 k5 h5=>?_
  rw[bz]
  have k6:ag [] M5 (M5.push (.map [] 0)):=(ag.refl _ _).push _
  have h6:(M5.push (.map [] 0)).heap M5.next=some (.map (tV 0 (nD ([] : List aC))) (nD ([] : List aC)).length):=RM.aT _
  have n6:(M5.push (.map [] 0)).next=M5.next + 1:=sI _
  have h56:=k6.aR h5 (by omega) (by simp)
  generalize M5.push (.map [] 0)=M6 at *
  have k36:=(k4.trans k5).trans k6
  have w6:=aL.keep hw k36 (by simp)
  rw[aL.len w6]
  refine aJ (fun z ys M7=>∃ (j:Nat),z=g.length - j∧ys=[N .i64 (j:Int)]∧j≤g.length∧ag [] M3 M7∧M6.next≤M7.next∧M7.heap M4.next=some (.row (aA.cells (vE g).1) false TN 0)∧M7.heap M5.next=some (.map (tV 0 (nD (g.take j))) (nD (g.take j)).length)) _
   ⟨0,rfl,rfl,Nat.zero_le _,k36,Nat.le_refl _,h56,h6⟩ ?_
  rintro kT z ys M7 eu ⟨j,rfl,rfl,hjl,k7,n7,h7,h8⟩
  dsimp only[aa]
  rw[eO]
  refine aH (fun hlt2=>?_) (fun sQ=>?_)
  ·have hlt2:j<g.length:=of_decide_eq_true hlt2
   have hgs:g.take (j + 1)=g.take j++[g[j]]:=List.take_succ_eq_append_getElem hlt2
   rw[sW (aL.keep hw k7 (by simp)) hlt2]
   generalize g[j]=x at *
   refine GY fun M8 n8 k8 h9=>?_
   rw[aX,av (i:=0 + 4) (x:=St x.2.2.2) h9 rfl]
   have k08:=k7.trans k8
   refine ae3 (k8.aR h8 (by omega) (by simp)) ?_
   rw[add1 (by omega)]
   refine eu _ _ _ (by omega) ⟨j + 1,rfl,rfl,by omega,k08.put _ (.inl (by omega)),by rw[nC]; omega,qy (k8.aR h7 (by omega) (by simp)) (by omega), ?_⟩
   rw[hgs]
   exact aU _
  ·have he:j=g.length:=by
    have:¬ j<g.length:=of_decide_eq_false sQ
    omega
   subst he
   rw[List.take_length] at h8
   rw[aX,av (i:=0 + 3) (x:=St (vE g).1.2.2.1) h7 rfl,aX,av (i:=0 + 4) (x:=St (vE g).1.2.2.2) h7 rfl]
   refine⟨_,_,_,rfl,h8, ?_⟩
   dsimp only
   rw[Qk,rU]
   refine⟨[St (vE g).1.2.2.1,St (vE g).1.2.2.2,N .i64 ((nD g).length:Int)],rfl, ?_⟩
   rw[pM (x:=.agg [St (vE g).1.2.2.1,St (vE g).1.2.2.2,N .i64 ((nD g).length:Int)]) (size:=3) rfl rfl rfl,bz]
   refine uP (E:=Ay) (a:=shown g) (o3.keep k7 (by simp)) (by have:=k7.next; omega) (by decide) (by omega) (by omega) fun v9 M9 o9 k9 n9 _=>?_
   rw[add1 (by omega)]
   refine hnext _ _ _ (by omega) ⟨i + 1,v9,rfl,rfl,by omega,(k3.trans k7).dU k9 (fun d hd=>.inl (o3.blk d hd).1), ?_⟩
   rw[hsh]
   exact o9
 ·have he:i=(eY (uA es s)).length:=by
   have:¬ i<(eY (uA es s)).length:=of_decide_eq_false hge
   omega
  subst he
  rw[List.take_length] at o3
  exact hQ dv M3 (Own.mono o3 n2) (k02.trans k3)
def oI (c:UInt8) : UInt8:=if 65≤c.toNat∧c.toNat≤90 then UInt8.ofNat (c.toNat + 32) else c
def Qb (c:au) : Prop:=∀ {M:RM} {s:List UInt8} {Q:ai},s.length<4611686018427387904→(∀ M',ag [] M M'→Q (St (s.map oI)) M')→c [St s] M Q
theorem UM {s:List UInt8} {i:Nat} (hi:i<s.length) : ((s.take i).map oI).length=i:=by simp; omega
theorem aaX {s:List UInt8} {i:Nat} (hi:i<s.length) (x:UInt8) : ((s.take i).map oI++s.drop i).set i x=(s.take i).map oI++x :: s.drop (i + 1):=by
 have hl:=UM hi
 rw[List.drop_eq_getElem_cons hi,List.set_append_right _ _ (by omega),hl,Nat.sub_self,List.set_cons_zero]
theorem Rx {s:List UInt8} {i:Nat} (hi:i<s.length) : (s.take (i + 1)).map oI++s.drop (i + 1)=(s.take i).map oI++oI s[i] :: s.drop (i + 1):=by
 rw[List.take_succ_eq_append_getElem hi,List.map_append,List.append_assoc]
 rfl
theorem ad8 {s:List UInt8} {i:Nat} (hi:i<s.length) (h:i<((s.take i).map oI++s.drop i).length) : ((s.take i).map oI++s.drop i)[i]=s[i]:=by
 have hl:=UM hi
 rw[List.getElem_append_right (by omega)]
 simp only[hl,Nat.sub_self,List.getElem_drop,Nat.add_zero]
theorem VT {T8:Nat} : Qb fun args M Q=>∃ a0,args=[a0]∧xS T8 a0 M Q:=by
 intro M s Q hl hQ
 refine⟨_,rfl, ?_⟩
 unfold xS
 simp only[jd,bz,Ol,jJ]
 have hk1:ag [] M (M.push (.row (BY.row s) true T8 0)):=(ag.refl _ _).push _
 have hr1:Rw BY (M.push (.row (BY.row s) true T8 0)) M.next true T8 s:=Rw.new M s
 generalize M.push (.row (BY.row s) true T8 0)=M1 at *
 refine aJ (fun m ys M3=>∃ i:Nat,m=s.length - i∧ys=[N .i64 i]∧i≤s.length∧Rw BY M3 M.next true T8 ((s.take i).map oI++s.drop i)∧ag [] M M3) _
  ⟨0,rfl,rfl,Nat.zero_le _,by simpa using hr1,hk1⟩ ?_
 rintro next m ys M3 hnext ⟨i,rfl,rfl,hi,hR,hK⟩
 simp only[go_sem]
 refine⟨fun hlt=>?_,fun hge=>?_⟩
 ·have hlt:i<s.length:=by simpa using hlt
  have hlen:i<((s.take i).map oI++s.drop i).length:=by simp; omega
  have hc:=hR.aj hlen
  have w1:=gD (show i<9223372036854775807 by omega)
  rw[ad8 hlt hlen] at hc
  refine⟨by omega,_,hc, ?_⟩
  have same:oI s[i]=s[i]→next [N .i64 ((i + 1:Nat) : Int)] M3:=fun h=>by
   refine hnext _ _ _ (by omega) ⟨i + 1,rfl,rfl,by omega, ?_,hK⟩
   rw[Rx hlt,h,← List.drop_eq_getElem_cons hlt]
   exact hR
  have cb:=Xx s[i]
  simp only[w1]
  by_cases h1:65≤s[i].toNat
  ·have e1:((s[i].toNat:Int) ≥ 65):=by omega
   by_cases h2:s[i].toNat≤90
   ·have e2:((s[i].toNat:Int)≤90):=by omega
    have hlow:oI s[i]=UInt8.ofNat (s[i].toNat + 32):=by rw[oI,if_pos ⟨h1,h2⟩]
    have wv:N IntKind.u8 (IntKind.u8.wrap (IntKind.u8.wrap ((s[i].toNat:Int) + 97) - 65))=By (oI s[i]):=by
     rw[hlow,By,Kb,Nat.mod_eq_of_lt (by omega)]
     congr 1
     rw[show IntKind.u8.wrap ((s[i].toNat:Int) + 97)=(s[i].toNat:Int) + 97 from xu (by omega) (by omega)]
     rw[xu (by omega) (by omega)]; omega
    obtain⟨hs,hR'⟩:=hR.ZG hlen (oI s[i])
    simp only[e1,e2,decide_true,go_sem]
    rw[aaX hlt] at hs hR'
    refine⟨by omega,_,(congrArg (fun x=>M3.stores M.next i [x]) wv).trans hs, ?_⟩
    refine hnext _ _ _ (by omega) ⟨i + 1,rfl,rfl,by omega, ?_,hK.put _ (.inl (Nat.le_refl _))⟩
    rw[Rx hlt]
    exact hR'
   ·have e2:¬ ((s[i].toNat:Int)≤90):=by omega
    simp only[e1,e2,decide_true,decide_false,go_sem]
    exact same (by rw[oI,if_neg (by omega)])
  ·have e1:¬ ((s[i].toNat:Int) ≥ 65):=by omega
   simp only[e1,decide_false,go_sem]
   exact same (by rw[oI,if_neg (by omega)])
 ·have:i=s.length:=by simp at hge; omega
  subst this
  rw[List.take_length,List.drop_length,List.append_nil] at hR
  have:=hR.sl (cap:=.op 1)
  rw[List.length_map] at this
  rw[Sl.str this]
  exact hQ M3 hK
abbrev lw (s:List UInt8) : List UInt8:=s.map oI
theorem dF {v:AV} {o:Option AV} {K:AV→Prop} (h:o=some v) : iK o K=K v:=by
 subst h
 exact propext ⟨fun⟨_,e,hk⟩=>by cases e; exact hk,fun hk=>⟨_,rfl,hk⟩⟩
def Fs (B:Base) (c:au) : Prop:=∀ {M:RM} {a b:List UInt8} {Q:ai},M.base=B→a.length<4294967281→Q (N .i64 (Lib.index a b)) M→c [St a,St b] M Q
def FP (B:Base) (c:au) : Prop:=∀ {M:RM} {a b:List UInt8} {Q:ai},M.base=B→a.length<4294967281→Q (Bo (Lib.contains a b)) M→c [St a,St b] M Q
theorem OP {B:Base} {c:au} (h:Fs B c) : Fs B fun args M Q=>∃ a0 a1,args=[a0,a1]∧sO c a0 a1 M Q:=by
 intro M a b Q hB ha hQ
 refine⟨_,_,rfl, ?_⟩
 unfold sO
 exact h hB ha hQ
theorem OZ {B:Base} {c:au} (h:Fs B c) : FP B fun args M Q=>∃ a0 a1,args=[a0,a1]∧ol c a0 a1 M Q:=by
 intro M a b Q hB ha hQ
 refine⟨_,_,rfl, ?_⟩
 unfold ol
 refine h hB ha ?_
 rw[ik]
 exact hQ
theorem FI {M:RM} {v:AV} {xs:List (List UInt8)} (h:Sl zU M v xs) {i:Nat} (hi:i<xs.length) {kd:IntKind} {K:AV→Prop} : (ax v (N kd (i:Int)) 1 fun p=>aj M p K)=K (St xs[i]):=by
 obtain⟨b,o,_,_,hidx,hcell⟩:=Sl.Ef (E:=zU) (i:=i) h (i:Int) hi rfl rfl
 rw[hidx,iy,hcell _ rfl]
 simp
theorem aeY {M:RM} {v:AV} {xs:List Vf} (h:Sl Ay M v xs) {i:Nat} (hi:i<xs.length) {kd:IntKind} {K:AV→Prop} : (ax v (N kd (i:Int)) 3 fun p=>aF M p 3 K)=K (.agg (Ay.cells xs[i])):=by
 obtain⟨b,o,_,_,hidx,hld⟩:=Sl.at (E:=Ay) (i:=i) h 3 (i:Int) hi rfl rfl
 rw[hidx,fK,hld]
 simp
theorem aeg {M:RM} {TF:Nat} {x:Vf} {K:RM→AV→Prop} (hK:∀ M',M'.next=M.next + 1→ag [] M M'→M'.heap M.next=some (.row (Ay.cells x) false TF 0)→K M' (.ptr M.next 0)) :
  bP (.row [(St []),(St []),(N .i64 0)] false TF 0) (fun b=>.ptr b 0) M fun t M1=>aG M1 t (.agg (Ay.cells x)) 3 fun M2=>K M2 t:=by
 rw[bz,fD (n:=3) (x:=.agg (Ay.cells x)) (l:=[(St []),(St []),(N .i64 0)]) (RM.aT _) rfl rfl (Ay.one x)]
 exact hK _ (by rw[nC,sI]) (((ag.refl _ _).push _).new _ (Nat.le_refl _)) (aU _)
theorem amu {M:RM} {c p:Bool} {f:ai→Prop} {P:RM→Prop} {G:AV→RM→Prop} (h0:P M) (hf:c=false→∀ k:ai,(∀ M',P M'→k (Bo p) M')→f k) (hG:∀ M',P M'→G (Bo (c || p)) M') :
  ah (Bo c) false f (fun k=>k .undef M) (fun t M'=>aK (Bo c) (Bo true) t fun u=>G u M'):=by
 cases c with
 | true=>rw[lv]; dsimp only; rw[eT]; exact hG M h0
 | false=>rw[fM]; exact hf rfl _ fun M' h=>by rw[dh]; exact hG M' h
def ed (es:List aC) (t c:List UInt8) : Bool:=Lib.contains (lw c) t || (fo es c).any fun f=>Lib.contains (lw f.2.1) t
def kQ (es:List aC) (s:List UInt8) : List (List UInt8):=(l8 es).filter (ed es (lw s))
def BdE (es:List aC) : Prop:=∀ x∈es,x.2.1.length≤600∧x.2.2.1.length≤600∧x.2.2.2.length≤600
theorem fields_of {es:List aC} (hs:Ic es) {c:List UInt8} {f:Vf} (hf:f∈fo es c) : ∃ x∈es,x.2.1=c∧x.2.2.1=f.1∧x.2.2.2=f.2.1:=by
 obtain⟨g,hg,rfl⟩:=List.mem_map.1 hf
 have h:=af1 hs c
 have:=aar ((Zk _ h).ne g hg)
 have:=aeZ.1 (aek h hg this)
 exact⟨_,this.1,this.2,rfl,rfl⟩
theorem Uo (es:List aC) (c:List UInt8) : (fo es c).length≤es.length:=by
 rw[fo,List.length_map]
 exact Nat.le_trans (Gx _).1 (List.length_filter_le _ _)
def WH (B:Base) (TS T T9:Nat) (c:au) : Prop:=∀ {M:RM} {t:Nat} {C:Nat→Prop} {ps:List Pt} {es:List aC} {s:List UInt8} {Q:ai},M.base=B→qb TS T C M t ps es→es.length≤50000→Ic es→BdE es→s.length<140737488355328 →
 (∀ v M',Ow zU M' M.next T9 v (kQ es s)→ag [] M M'→Q v M')→c [.ptr t 0,St s] M Q
theorem find_spec {B:Base} {TS T TF T9:Nat} {cs cc cx cf:au} (hsm:Qb cs) (hc:zI TS T T9 cc) (hx:FP B cx) (hf:Nu TS T TF cf) :
  WH B TS T T9 fun args M Q=>∃ a0 a1,args=[a0,a1]∧AR cs cc cx cf TF T9 a0 a1 M Q:=by
 intro M t C ps es s Q hB hst hlen hse hbd hsl hQ
 refine⟨_,_,rfl, ?_⟩
 unfold AR
 simp only[jd,gQ,fC,gp,bZ]
 refine hsm (by omega) fun M1 k1=>?_
 have st1:=hst.keep k1 (by simp) (by simp)
 refine hc st1 hlen fun v2 M2 o2 k2=>?_
 have k02:=k1.trans k2
 have n1:=k1.next
 have n2:=k2.next
 rw[IE] at o2
 have hcl:=UL es
 rw[aL.len o2.kU]
 refine aJ (fun z ys M3=>∃ (i:Nat) (dv:AV),z=(l8 es).length - i∧ys=[dv,N .i64 (i:Int)]∧i≤(l8 es).length∧ag [] M2 M3∧Ow zU M3 M2.next T9 dv (((l8 es).take i).filter (ed es (lw s)))) _
  ⟨0,bO,rfl,rfl,Nat.zero_le _,ag.refl _ _,.nil⟩ ?_
 rintro next z ys M3 hnext ⟨i,dv,rfl,rfl,hil,k3,o3⟩
 dsimp only[aa]
 rw[eO]
 refine aH (fun hlt=>?_) (fun hge=>?_)
 ·have hlt:i<(l8 es).length:=of_decide_eq_true hlt
  have n3:=k3.next
  refine bA (fun zs M'=>∃ dv',zs=[dv']∧ag [] M2 M'∧Ow zU M' M2.next T9 dv' (((l8 es).take (i + 1)).filter (ed es (lw s)))) ?_ ?_
  ·rintro zs M' ⟨dv',rfl,k',o'⟩
   dsimp only[aa]
   rw[add1 (by omega)]
   exact hnext _ _ _ (by omega) ⟨i + 1,dv',rfl,rfl,by omega,k',o'⟩
  intro J hJ
  rw[Ig hlt] at hJ
  rw[FI (aL.keep o2.kU k3 (by simp)) hlt]
  have hfl:=JY (ed es (lw s)) (l8 es) i
  have hcm:(l8 es)[i]∈l8 es:=List.getElem_mem hlt
  generalize ((l8 es).take i).filter (ed es (lw s))=acc at *
  generalize (l8 es)[i]=c at *
  have hcl6:c.length≤600:=by
   obtain⟨x,hx,rfl⟩:=(adT c es).1 hcm
   exact(hbd x hx).1
  refine hsm (by omega) fun M4 k4=>?_
  have k04:=(k02.trans k3).trans k4
  refine hx (k04.base.trans hB) (by simp; omega) ?_
  have st4:=hst.keep k04 (by simp) (by simp)
  refine hf st4 hlen fun v5 M5 o5 k5=>?_
  have n4:=k4.next
  have n5:=k5.next
  have k35:=k4.trans k5
  rw[aL.len o5.kU]
  have hfsl:=Uo es c
  refine aJ (fun z ys M6=>∃ (j:Nat),z=(fo es c).length - j∧ys=[Bo (Lib.contains (lw c) (lw s) || ((fo es c).take j).any fun f=>Lib.contains (lw f.2.1) (lw s)),N .i64 (j:Int)]∧j≤(fo es c).length∧ag [] M5 M6) _
   ⟨0,rfl,by simp,Nat.zero_le _,ag.refl _ _⟩ ?_
  rintro kT z ys M6 eu ⟨j,rfl,rfl,hjl,k6⟩
  dsimp only[aa]
  rw[eO]
  have n6:=k6.next
  refine aH (fun hlt2=>?_) (fun sQ=>?_)
  ·have hlt2:j<(fo es c).length:=of_decide_eq_true hlt2
   have hts:(fo es c).take (j + 1)=(fo es c).take j++[(fo es c)[j]]:=List.take_succ_eq_append_getElem hlt2
   rw[aeY (aL.keep o5.kU k6 (by simp)) hlt2]
   have hfm:(fo es c)[j]∈fo es c:=List.getElem_mem hlt2
   generalize (fo es c)[j]=f at *
   have hfl6:f.2.1.length≤600:=by
    obtain⟨x,hx,_,_,e⟩:=fields_of hse hfm
    rw[← e]; exact(hbd x hx).2.2
   refine aeg fun M7 n7 k7 h7=>?_
   have k57:=k6.trans k7
   refine amu (P:=fun M'=>ag [] M5 M') (p:=Lib.contains (lw f.2.1) (lw s)) k57 (fun _ k hk=>?_) fun M9 k9=>?_
   ·rw[aX,av (i:=0 + 1) (x:=St f.2.1) h7 rfl]
    refine hsm (by omega) fun M8 k8=>?_
    refine hx ((((k04.trans k5).trans k57).trans k8).base.trans hB) (by simp; omega) ?_
    exact hk M8 (k57.trans k8)
   ·rw[add1 (by omega)]
    refine eu _ _ _ (by omega) ⟨j + 1,rfl, ?_,by omega,k9⟩
    rw[hts,List.any_append]
    simp[Bool.or_assoc]
  ·have he:j=(fo es c).length:=by
    have:¬ j<(fo es c).length:=of_decide_eq_false sQ
    omega
   subst he
   rw[List.take_length]
   have hh:(Lib.contains (lw c) (lw s) || (fo es c).any fun f=>Lib.contains (lw f.2.1) (lw s))=ed es (lw s) c:=rfl
   rw[hh]
   have k36:=k35.trans k6
   have o6:=o3.keep k36 (by simp)
   refine aH (fun hc=>?_) (fun hc=>?_)
   ·rw[pM (x:=St c) (size:=1) rfl rfl rfl,bz]
    refine uP (E:=zU) (a:=c) o6 (by omega) (by decide) (by omega) (by omega) fun v9 M9 o9 k9 n9 _=>?_
    refine hJ _ _ ⟨v9,rfl,(k3.trans k36).dU k9 (fun d hd=>.inl (o6.blk d hd).1), ?_⟩
    rw[if_pos hc]; exact o9
   ·refine hJ _ _ ⟨dv,rfl,k3.trans k36, ?_⟩
    rw[if_neg (by rw[hc]; simp),List.append_nil]; exact o6
 ·have he:i=(l8 es).length:=by
   have:¬ i<(l8 es).length:=of_decide_eq_false hge
   omega
  subst he
  rw[List.take_length] at o3
  exact hQ dv M3 (Own.mono o3 k02.next) (k02.trans k3)
end Go.Ab.Crw.Viw
namespace Go.Ab.Crw
open Go Go.Ab Go.Ab.aB Go.Ab.Vw
end Go.Ab.Crw
namespace Go.Ab.Crw.Viw
open Go Go.Ab Go.Ab.aB Go.Ab.Vw
end Go.Ab.Crw.Viw
namespace Go.Ab.Crw
open Go Go.Ab Go.Ab.aB
theorem OI (l:List Ev) : ∀ x∈rF l,dz x.1 x.2=true:=Oa l [] (by simp)
end Go.Ab.Crw
namespace Go.Ab.Crw.Viw
open Go Go.Ab Go.Ab.aB Go.Ab.Vw
def Wz (TS T:Nat) (c:au) : Prop:=∀ {M:RM} {v:AV} {l:List Ev} {Q:ai},gV vQ M v l (fun d=>d<M.next)→l.length≤60 →
 (∀ t M',M.next≤t→qb TS T (fun d=>M.next≤d∧d<M'.next∧d≠t) M' t (kY l).1 (kY l).2→ag [] M M'→Q (.ptr t 0) M')→c [v] M Q
theorem UK {TS T:Nat} {cn cA:au} (hn:PG TS T cn) (hA:PP TS T cA) : Wz TS T fun args M Q=>∃ a0,args=[a0]∧DL cn cA a0 M Q:=by
 intro M v l Q hv hl hQ
 refine⟨_,rfl, ?_⟩
 unfold DL
 simp only[jd,gQ,fC,gp,bZ]
 refine hn fun t M1 ht st1 k1=>?_
 refine aJ (fun z ys M3=>∃ i:Nat,z=l.length - i∧ys=[N .i64 (i:Int)]∧i≤l.length∧ag [] M M3∧qb TS T (fun d=>M.next≤d∧d<M3.next∧d≠t) M3 t (kY (l.take i)).1 (kY (l.take i)).2) _
  ⟨0,rfl,rfl,Nat.zero_le _,k1,(st1.mono (B':=fun d=>M.next≤d∧d≠t) (fun d hd=>⟨hd.1,by omega⟩) (fun h=>h.2 rfl)).below.mono (fun d hd=>⟨hd.1.1,hd.2,hd.1.2⟩) (fun h=>h.2.2 rfl)⟩ ?_
 rintro next z ys M3 hnext ⟨i,rfl,rfl,hi,k3,st3⟩
 dsimp only[aa]
 have hv3:gV vQ M3 v l (fun d=>d<M.next):=hv.keep k3 (by simp)
 rw[Nh,dG]
 try dsimp only
 rw[hv3.len,eO]
 try dsimp only
 rw[eT]
 refine aH (fun hlt=>?_) (fun hge=>?_)
 ·have hlt:i<l.length:=of_decide_eq_true hlt
  have n3:=k3.next
  have hI:Ie i (kY (l.take i)):=by
   have:=Zi (l.take i)
   rwa [List.length_take,Nat.min_eq_left hi] at this
  have htk:kY (l.take (i + 1))=qO (kY (l.take i)) l[i]:=by rw[List.take_succ_eq_append_getElem hlt,NY]
  have fin:∀ M',ag [] M M'→qb TS T (fun d=>M.next≤d∧d<M'.next∧d≠t) M' t (kY (l.take (i + 1))).1 (kY (l.take (i + 1))).2→next [N .i64 ((i + 1:Nat) : Int)] M':=fun M' k' st' =>
   hnext _ _ _ (by omega) ⟨i + 1,rfl,rfl,by omega,k',st'⟩
  rw[htk] at fin
  generalize kY (l.take i)=s at *
  obtain⟨b,o,kv,hidx,hl7,_,hkv,hkb⟩:=Pp hv3 hlt
  rw[hidx,hl7]
  generalize l[i]=x at *
  have hne:t ∉ aD kv:=fun h=>by have:=hkb t h; omega
  refine hA st3 hI.si (by omega) (by have:=hI.few; omega) hkv hne (fun hb M4 k4=>?_) (fun hg M4 st4 k4=>?_)
  ·rw[add1 (by omega)]
   refine fin M4 (k3.trans k4) ?_
   unfold qO
   rw[if_neg (by rw[hb]; decide)]
   have n4:=k4.next
   exact(st3.keep k4 (by simp) (by simp)).mono (fun d hd=>⟨hd.1,by omega,hd.2.2⟩) (fun h=>h.2.2 rfl)
  ·rw[add1 (by omega)]
   refine fin M4 (k3.dU k4 (fun d hd=>by simp at hd; omega)) ?_
   unfold qO
   rw[if_pos hg]
   have lt3:=st3.lt
   have n4:=k4.next
   refine(st4.below.mono (B':=fun d=>M.next≤d∧d<M4.next∧d≠t) (fun d hd=>?_) (fun h=>h.2.2 rfl))
   obtain⟨h | h,h'⟩:=hd
   ·exact⟨h.1,h',h.2.2⟩
   ·exact⟨by omega,h',by omega⟩
 ·have he:i=l.length:=by
   have:¬ i<l.length:=of_decide_eq_false hge
   omega
  subst he
  rw[List.take_length] at st3
  exact hQ t M3 ht st3 k3
def NeE (es:List aC) : Prop:=∀ x∈es,x.2.2.1≠[]
structure VI (es:List aC) : Prop where
 st:Ic es
 bd:BdE es
 ne:NeE es
 len:es.length≤60
theorem alf {w:List Ev} (hg:∀ x∈w,dz x.1 x.2=true) (h1:w.Pairwise fun x y=>x.1.1≠y.1.1) (hl:w.length≤60) : VI (kY w).2∧uO w w.length=(kY w).2:=by
 have hch:=Ch.run hg h1 hl
 have hI:PW w (kY w).1 (kY w).2:=⟨hch,h1,hg,hl⟩
 refine⟨⟨aiq hch.up hch.one,fun x hx=>?_,fun x hx=>?_,hI.few⟩,hI.Cq⟩
 ·have:=hI.ok x hx
  exact⟨this.2.2.2.1,this.2.2.2.2.1,this.2.2.2.2.2⟩
 ·obtain⟨e,he,ho,rfl,_⟩:=(hch.Cq x).1 hx
  have:=hg e he
  simp only[dz,Bool.and_eq_true] at this
  have h2:=this.2
  simp only[AL,Bool.or_eq_true,Bool.and_eq_true,decide_eq_true_eq] at h2
  rcases h2 with h2 | h2
  ·exact h2.2
  ·rw[ho] at h2; exact absurd h2.1 (by decide)
theorem adx {M:RM} {c p:Bool} {f:ai→Prop} {G:AV→RM→Prop} (hf:c=true→∀ k:ai,k (Bo p) M→f k) (hG:G (Bo (c && p)) M) :
  ah (Bo c) true f (fun k=>k .undef M) (fun t M'=>aK (Bo c) t (Bo false) fun u=>G u M'):=by
 cases c with
 | false=>rw[bN]; dsimp only; rw[dh]; exact hG
 | true=>rw[dG]; exact hf rfl _ (by rw[eT]; exact hG)
def uz (c:UInt8) : UInt8:=if 97≤c.toNat∧c.toNat≤122 then UInt8.ofNat (c.toNat - 32) else c
theorem adF (c:UInt8) : oI (uz c)=oI c:=by
 have hc:=Xx c
 unfold uz
 split
 ·rename_i h
  unfold oI
  rw[Kb,Nat.mod_eq_of_lt (by omega),if_pos (by omega),if_neg (by omega)]
  apply UInt8.toNat.inj
  rw[Kb]; omega
 ·rfl
theorem alk (s:List UInt8) : lw (s.map uz)=lw s:=by
 unfold lw
 rw[List.map_map]
 exact List.map_congr_left fun c _=>adF c
theorem Y6 {es:List aC} {s t:List UInt8} (h:∀ a,Lib.contains a s=true→Lib.contains a t=true) {c:List UInt8} (hp:ed es s c=true) : ed es t c=true:=by
 rw[ed,Bool.or_eq_true] at hp ⊢
 rcases hp with hp | hp
 ·exact .inl (h _ hp)
 ·obtain⟨f,hf,h1⟩:=List.any_eq_true.1 hp
  exact .inr (List.any_eq_true.2 ⟨f,hf,h _ h1⟩)
theorem aco (es:List aC) (s:List UInt8) (k:Nat) : (kQ es s).Sublist (kQ es (s.take k)):=by
 have hm:∀ c,ed es (lw s) c=true→ed es (lw (s.take k)) c=true:=fun c=>Y6 fun a h=>by
  show Lib.contains a ((s.take k).map oI)=true
  rw[List.map_take]; exact KT h k
 have e:kQ es s=(kQ es (s.take k)).filter (ed es (lw s)):=by
  rw[kQ,kQ,List.filter_filter]
  refine List.filter_congr fun c _=>?_
  cases hc:ed es (lw s) c with
  | false=>rfl
  | true=>rw[hm c hc]; rfl
 rw[e]; exact List.filter_sublist
theorem ZY (es:List aC) : kQ es []=l8 es:=by
 rw[kQ]
 refine List.filter_eq_self.2 fun c _=>?_
 rw[ed,show lw []=[] from rfl,contains_nil]; rfl
theorem adR (es:List aC) (s:List UInt8) : kQ es (s.map uz)=kQ es s:=by rw[kQ,alk]; rfl
theorem Xp {M:RM} {b n:Nat} {cur:List UInt8} {c:Cap} (h:Sl BY M (.slc b 0 n c) cur) {i:Nat} (hi:i<cur.length) {kd:IntKind} {K:AV→Prop} : (ax (.slc b 0 n c) (N kd (i:Int)) 1 fun p=>aj M p K)=K (By cur[i]):=by
 obtain⟨b',o,_,_,hidx,hcell⟩:=Sl.Ef (E:=BY) (i:=i) h (i:Int) hi rfl rfl
 rw[hidx,iy,hcell _ rfl]
 simp
def adE (B:Base) (c:au) : Prop:=∀ {M:RM} {v:AV} {l:List Ev} {text:List UInt8} {cut:Int} {Q:ai},M.base=B→gV vQ M v l (fun d=>d<M.next)→(∀ M',Q (Bo true) M')→c [v,St text,N .i64 cut] M Q
theorem Nw {B:Base} {TS T T9 TE T8:Nat} {ca co cof cf cc:au} (ha:YT B ca) (ho:aa2 TE co) (hof:Wz TS T cof) (hf:WH B TS T T9 cf) (hc:zI TS T T9 cc) :
  adE B fun args M Q=>∃ a0 a1 a2,args=[a0,a1,a2]∧qf ca co cof cf T8 cc a0 a1 a2 M Q:=by
 intro M v l text cut Q hB hv hQ
 refine⟨_,_,_,rfl, ?_⟩
 unfold qf
 simp only[jd,gQ,fC,gp,bZ]
 refine ha hB ?_
 rw[bK,Bool.not_true,bG,hv.len,ic,show decide (((l.length:Nat) : Int) > 50)=decide (l.length > 50) by simp; omega]
 refine yB (p:=decide (text.length > 50)) (fun _ k hk=>?_) ?_
 ·rw[jW,ic,show decide (((text.length:Nat) : Int) > 50)=decide (text.length > 50) by simp; omega]; exact hk
 refine yB (p:=decide (cut<0)) (fun _ k hk=>?_) ?_
 ·rw[cK]; exact hk
 refine yB (p:=decide (cut > (text.length:Int))) (fun _ k hk=>?_) ?_
 ·rw[jW,ic]; exact hk
 refine aH (fun _=>hQ _) (fun hcc=>?_)
 simp only[Bool.or_eq_false_iff,decide_eq_false_iff_not] at hcc
 obtain⟨⟨⟨hl50,ht50⟩,hc0⟩,hc1⟩:=hcc
 obtain⟨k,rfl⟩:=Int.eq_ofNat_of_zero_le (Int.not_lt.1 hc0)
 have hk:k≤text.length:=by omega
 refine ho hv (by omega) fun v1 M1 d1 k1=>?_
 have hwl:(rF l).length≤60:=Nat.le_trans (TK l) (by omega)
 refine hof d1 hwl fun t M2 ht2 st2 k2=>?_
 have hB2:=(k1.trans k2).base.trans hB
 obtain⟨hvi,_⟩:=alf (OI l) (aaV l) hwl
 generalize (kY (rF l)).2=es at *
 generalize (kY (rF l)).1=ps at *
 have hes:=hvi.len
 have hcl:=UL es
 refine hf hB2 st2 (by omega) hvi.st hvi.bd (by omega) fun va M3 oa k3=>?_
 rw[dF (show EJ (St text) none (some (N .i64 (k:Int)))=some (St (text.take k)) by simp only[EJ,bnd]; simp[hk])]
 refine hf (k3.base.trans hB2) (st2.keep k3 (by simp) (by simp)) (by omega) hvi.st hvi.bd (by rw[List.length_take]; omega) fun vb M4 ob k4=>?_
 have k24:=k3.trans k4
 refine hf (k24.base.trans hB2) (st2.keep k24 (by simp) (by simp)) (by omega) hvi.st hvi.bd (by simp) fun vc M5 oc k5=>?_
 rw[ZY] at oc
 have k25:=k24.trans k5
 have hsub:=aco es text k
 have hla:(kQ es text).length≤(l8 es).length:=List.length_filter_le _ _
 have hlb:(kQ es (text.take k)).length≤(l8 es).length:=List.length_filter_le _ _
 have sa:∀ {M' : RM},ag [] M5 M'→Sl zU M' va (kQ es text):=fun kk=>aL.keep oa.kU ((k4.trans k5).trans kk) (by simp)
 have sb:∀ {M' : RM},ag [] M5 M'→Sl zU M' vb (kQ es (text.take k)):=fun kk=>aL.keep ob.kU (k5.trans kk) (by simp)
 have sc:∀ {M' : RM},ag [] M5 M'→Sl zU M' vc (l8 es):=fun kk=>aL.keep oc.kU kk (by simp)
 have stk:∀ {M' : RM},ag [] M5 M'→qb TS T _ M' t ps es:=fun kk=>st2.keep (k25.trans kk) (by simp) (by simp)
 have hfa:=adR es text
 generalize kQ es (text.take k)=lb at *
 generalize hA:kQ es text=la at *
 refine aJ (fun z ys M6=>∃ (i at_:Nat),z=lb.length - i∧ys=[N .i64 (at_:Int),N .i64 (i:Int)]∧i≤lb.length∧at_≤la.length∧M6=M5∧(la.drop at_).Sublist (lb.drop i)) _
  ⟨0,0,rfl,rfl,Nat.zero_le _,Nat.zero_le _,rfl,hsub⟩ ?_
 rintro next z ys M6 hnext ⟨i,at_,rfl,rfl,hib,hia,rfl,hsd⟩
 dsimp only[aa]
 rw[aL.len (sb (ag.refl _ _)),eO]
 refine adx (p:=decide (at_<la.length)) (fun _ k hk=>?_) ?_
 ·rw[aL.len (sa (ag.refl _ _)),eO]; exact hk
 refine aH (fun hcd=>?_) (fun hcd=>?_)
 ·simp only[Bool.and_eq_true,decide_eq_true_eq] at hcd
  obtain⟨hi,hat⟩:=hcd
  refine bA (fun zs M'=>∃ at2:Nat,zs=[N .i64 (at2:Int)]∧at2≤la.length∧M'=M6∧(la.drop at2).Sublist (lb.drop (i + 1))) ?_ ?_
  ·rintro zs M' ⟨at2,rfl,h1,rfl,h2⟩
   dsimp only[aa]
   rw[add1 (by omega)]
   exact hnext _ _ _ (by omega) ⟨i + 1,at2,rfl,rfl,by omega,h1,rfl,h2⟩
  intro J hJ
  rw[FI (sb (ag.refl _ _)) hi,FI (sa (ag.refl _ _)) hat,DR]
  rw[List.drop_eq_getElem_cons hi,List.drop_eq_getElem_cons hat] at hsd
  refine aH (fun he=>?_) (fun he=>?_)
  ·have he:lb[i]=la[at_]:=by simpa using he
   rw[add1 (by omega)]
   refine hJ _ _ ⟨at_ + 1,rfl,by omega,rfl, ?_⟩
   rw[he] at hsd
   exact List.cons_sublist_cons.1 hsd
  ·have he:lb[i]≠la[at_]:=by simpa using he
   refine hJ _ _ ⟨at_,rfl,by omega,rfl, ?_⟩
   rw[List.drop_eq_getElem_cons hat]
   rcases List.sublist_cons_iff.1 hsd with h | ⟨r,h,_⟩
   ·exact h
   ·injection h with h1 _
    exact absurd h1.symm he
 ·have hat:at_=la.length:=by
   simp only[Bool.and_eq_false_iff,decide_eq_false_iff_not] at hcd
   rcases hcd with h | h
   ·have hz:lb.drop i=[]:=List.drop_eq_nil_of_le (by omega)
    rw[hz] at hsd
    have:=List.drop_eq_nil_iff.1 (List.sublist_nil.1 hsd)
    omega
   ·omega
  subst hat
  clear hnext hsd hcd
  rw[Ol,bz]
  have kn:ag [] M6 (M6.push (.row (BY.row text) true T8 0)):=(ag.refl _ _).push _
  have hr1:Rw BY (M6.push (.row (BY.row text) true T8 0)) M6.next true T8 (upTo uz 0 text):=by rw[Zr]; exact Rw.new M6 text
  have hbn:=Nat.le_refl M6.next
  generalize M6.push (.row (BY.row text) true T8 0)=M7 at *
  refine aJ (fun z ys M8=>∃ (j:Nat),z=text.length - j∧ys=[N .i64 (j:Int)]∧j≤text.length∧ag [] M6 M8∧Rw BY M8 M6.next true T8 (upTo uz j text)) _
   ⟨0,rfl,rfl,Nat.zero_le _,kn,hr1⟩ ?_
  rintro next z ys M8 hnext ⟨j,rfl,rfl,hj,k8,hR⟩
  dsimp only[aa]
  rw[jJ,eO]
  have hs:Sl BY M8 (.slc M6.next 0 text.length (.op 1)) (upTo uz j text):=by
   have:=hR.sl (cap:=.op 1)
   rw[JB] at this; exact this
  refine aH (fun hlt=>?_) (fun hge=>?_)
  ·have hlt:j<text.length:=of_decide_eq_true hlt
   have hlt' : j<(upTo uz j text).length:=by rw[JB]; exact hlt
   have hget:(upTo uz j text)[j]=text[j]:=by
    have:=Qp uz hlt
    rw[List.getElem?_eq_getElem hlt'] at this
    exact Option.some.inj this
   refine bA (fun zs M'=>zs=[]∧ag [] M6 M'∧Rw BY M' M6.next true T8 (upTo uz (j + 1) text)) ?_ ?_
   ·rintro zs M' ⟨rfl,h1,h2⟩
    rw[add1 (by omega)]
    exact hnext _ _ _ (by omega) ⟨j + 1,rfl,rfl,by omega,h1,h2⟩
   intro J hJ
   have cb:=Xx text[j]
   rw[Xp hs hlt',hget,ik,show decide ((text[j].toNat:Int) ≥ 97)=decide (97≤text[j].toNat) by simp; omega]
   refine adx (p:=decide (text[j].toNat≤122)) (fun _ k hk=>?_) ?_
   ·rw[Xp hs hlt',hget,kD,show decide ((text[j].toNat:Int)≤122)=decide (text[j].toNat≤122) by simp; omega]; exact hk
   refine aH (fun hcd=>?_) (fun hcd=>?_)
   ·simp only[Bool.and_eq_true,decide_eq_true_eq] at hcd
    have hup:uz text[j]=UInt8.ofNat (text[j].toNat - 32):=by rw[uz,if_pos hcd]
    rw[Xp hs hlt',hget,iV]
    have wv:N IntKind.u8 (IntKind.u8.wrap ((text[j].toNat:Int) - 32))=By (uz text[j]):=by
     rw[hup,By,Kb,Nat.mod_eq_of_lt (by omega)]
     congr 1
     rw[xu (by omega) (by omega)]; omega
    rw[wv]
    have hidx:∀ K:AV→Prop,ax (.slc M6.next 0 text.length (.op 1)) (N .i64 (j:Int)) 1 K=K (.ptr M6.next j):=fun K=>by
     rw[lS]
     simp only[Int.toNat_natCast]
     rw[show 0 + j * 1=j by omega]
     exact propext ⟨fun h=>h.2.2,fun h=>⟨by omega,by omega,h⟩⟩
    obtain⟨hst,hR'⟩:=hR.ZG hlt' (uz text[j])
    rw[QM uz hlt] at hst hR'
    rw[hidx,tY]
    refine⟨rfl,_,hst, ?_⟩
    exact hJ _ _ ⟨rfl,k8.put _ (.inl (Nat.le_refl _)),hR'⟩
   ·refine hJ _ _ ⟨rfl,k8, ?_⟩
    rw[Y2 uz hlt (by
     rw[uz,if_neg]
     simp only[Bool.and_eq_false_iff,decide_eq_false_iff_not] at hcd
     omega)]
    exact hR
  ·have he:j=text.length:=by
    have:¬ j<text.length:=of_decide_eq_false hge
    omega
   subst he
   clear hnext
   rw[Sl.str hs,abH]
   have k58:ag [] M6 M8:=k8
   refine hf ((k25.trans k8).base.trans hB2) (stk k8) (by omega) hvi.st hvi.bd (by rw[List.length_map]; omega) fun vd M9 od k9=>?_
   rw[hfa] at od
   have k89:=k8.trans k9
   rw[aL.len (sa k89),jH,show(((la.length:Nat) : Int) != ((la.length:Nat) : Int))=false by simp]
   simp only[fM,dh]
   rw[aL.len od.kU,aL.len (sa k89),jH,show(((la.length:Nat) : Int) != ((la.length:Nat) : Int))=false by simp]
   simp only[fM,dh]
   rw[aL.len (sc k89)]
   refine hc (stk k89) (by omega) fun ve Ma oe ka=>?_
   rw[IE] at oe
   rw[aL.len oe.kU,jH,show((((l8 es).length:Nat) : Int) != (((l8 es).length:Nat) : Int))=false by simp,bG]
   have k8a:=k89.trans ka
   have sd:=aL.keep od.kU ka (by simp)
   refine aJ (fun z ys Mb=>∃ (i:Nat),z=la.length - i∧ys=[N .i64 (i:Int)]∧i≤la.length∧Mb=Ma) _
    ⟨0,rfl,rfl,Nat.zero_le _,rfl⟩ ?_
   rintro next z ys Mb hnext ⟨i,rfl,rfl,hi,rfl⟩
   dsimp only[aa]
   rw[aL.len (sa k8a),eO]
   refine aH (fun hlt=>?_) (fun _=>hQ _)
   have hlt:i<la.length:=of_decide_eq_true hlt
   rw[FI (sa k8a) hlt,FI sd hlt,mU,show(la[i] != la[i])=false by simp,bG,add1 (by omega)]
   exact hnext _ _ _ (by omega) ⟨i + 1,rfl,rfl,by omega,rfl⟩
structure apB (es es' : List aC) (c f a:List UInt8) : Prop where
 st:Ic es'
 len:es'.length≤60
 seen:(f,(a,1))∈fo es' c
 else_:∀ d,d≠c→fo es' d=fo es d
end Go.Ab.Crw.Viw
