/- Part 5 of the ground of the proofs of this seat (texts VlI4 to R25). By an AI agent. -/
import Derived.Test.YtmilkhdicmkmbaaDoorVlp4
import Derived.Lib.SlTrimSet
import Derived.Carry
import Derived.JoinedCond
import Derived.SizedLaws
import GoSem.Extern.Atomic
import GoSem.Extern.MapsClone
set_option maxRecDepth 10000
set_option linter.unusedVariables false
set_option linter.unusedSimpArgs false
namespace Go.Ab.Vl
open Go Go.Ab
theorem OP {n b0 b1 b2 b3:Nat} (h0:jK n b0 b1 b2 b3≠0) : (2≤jK n b0 b1 b2 b3→128≤b1)∧(3≤jK n b0 b1 b2 b3→128≤b2)∧(4≤jK n b0 b1 b2 b3→128≤b3):=by
 by_cases r1:b0<128
 ·rw[sJ r1]; omega
 by_cases r2:b0<194∨245≤b0
 ·exact absurd (vW (by omega)) h0
 by_cases r3:b0<224
 ·by_cases g:n<2∨b1<128∨191<b1
  ·exact absurd (uV (by omega) g) h0
  ·rw[Kz (by omega) (by omega) (by omega)]; omega
 by_cases r4:b0<240
 ·by_cases g:n<3∨b1<128∨191<b1∨b2<128∨191<b2
  ·exact absurd (wP (by omega) g) h0
  ·rw[KC (by omega) (by omega) (by omega) (by omega) rfl]
   split <;> omega
 ·by_cases g:n<4∨b1<128∨191<b1∨b2<128∨191<b2∨b3<128∨191<b3
  ·exact absurd (wJ (by omega) g) h0
  ·omega
theorem P8 {s:List UInt8} (h0:rk s≠0) {i:Nat} (h1:1≤i) (hi:i<rk s) : 128≤bt s i:=by
 have hne:s≠[]:=by intro e; subst e; simp[rk] at h0
 have hk:rk s=jK s.length (bt s 0) (bt s 1) (bt s 2) (bt s 3):=by rw[rk,if_neg hne]
 have hl:=(FQ (s:=s)).2
 have:=OP (hk▸h0)
 rw[← hk] at this
 obtain rfl | rfl | rfl:i=1∨i=2∨i=3:=by omega
 ·exact this.1 (by omega)
 ·exact this.2.1 (by omega)
 ·exact this.2.2 (by omega)
theorem GV {c:UInt8} {s:List UInt8} (h:c.toNat<128) : rk (c :: s)=1:=by
 rw[rk,if_neg (by simp)]
 exact sJ (by simpa [bt] using h)
theorem sw {c:UInt8} {s:List UInt8} (h:c.toNat<128) : dJ (c :: s)=dJ s:=by
 rw[mi (by rw[GV h]; omega),GV h]; rfl
theorem zJ {c:UInt8} (hc:c.toNat<128) : ∀ (n:Nat) (a b:List UInt8),a.length≤n→dJ (a++c :: b)=true→dJ a=true∧dJ b=true
 | n,[],b,_,h=>⟨mG,by rwa [List.nil_append,sw hc] at h⟩
 | 0,x :: a,b,hl,h=>by simp at hl
 | n + 1,x :: a,b,hl,h=>by
   have hne:(x :: a)++c :: b≠[]:=by simp
   have h0:=Pg hne h
   have hle:rk ((x :: a)++c :: b)≤(x :: a).length:=by
    rcases Nat.lt_or_ge (x :: a).length (rk ((x :: a)++c :: b)) with hlt | hge
    ·have:=P8 h0 (i:=(x :: a).length) (by simp) hlt
     have hb:bt ((x :: a)++c :: b) (x :: a).length=c.toNat:=by simp[bt,List.getD_eq_getElem?_getD]
     omega
    ·exact hge
   have hr:=Mk (s:=(x :: a)++c :: b) (t:=(x :: a).drop (rk ((x :: a)++c :: b))) h0
   rw[List.take_append_of_le_length hle,List.take_append_drop] at hr
   have hpos:1≤rk ((x :: a)++c :: b):=by omega
   rw[mi h0,List.drop_append_of_le_length hle] at h
   have:=zJ hc n ((x :: a).drop (rk ((x :: a)++c :: b))) b (by rw[List.length_drop]; simp only[List.length_cons] at hl ⊢; omega) h
   refine⟨?_,this.2⟩
   rw[mi (s:=x :: a) (by rw[hr]; exact h0),hr]
   exact this.1
theorem oh:∀ (a b:List UInt8),(∀ c∈a,c.toNat<128)→dJ (a++b)=dJ b
 | [],b,_=>rfl
 | c :: a,b,h=>by rw[List.cons_append,sw (h c (by simp)),oh a b (fun d hd=>h d (by simp[hd]))]
theorem G6 (c:UInt8) : dF.contains (bW c)=iZ c:=by
 have key:∀ n:Fin 256,dF.contains (bW (UInt8.ofNat n.val))=iZ (UInt8.ofNat n.val):=by decide +kernel
 have:=key ⟨c.toNat,c.toNat_lt⟩
 simpa using this
theorem pU:∀ s:List UInt8,((s.map bW).dropWhile (dF.contains ·)).length + wn s=s.length
 | []=>rfl
 | c :: s=>by
   have ih:=pU s
   unfold wn at *
   rw[List.map_cons,List.dropWhile_cons,List.takeWhile_cons,G6 c]
   cases iZ c with
   | true=>simp only[if_true,List.length_cons]; omega
   | false=>simp only[Bool.false_eq_true,if_false,List.length_cons,List.length_map,List.length_nil]
theorem vS (s:List UInt8) : wk s=wn s:=by
 have:=pU s
 unfold wk; omega
theorem JN (s:List UInt8) : s.take (wn s)=s.takeWhile iZ:=(kQ iZ s).2
theorem all_takeWhile {α:Type} (p:α→Bool) : ∀ s:List α,∀ x∈s.takeWhile p,p x=true
 | [],x,hx=>by cases hx
 | c :: s,x,hx=>by
   rw[List.takeWhile_cons] at hx
   split at hx
   ·rcases List.mem_cons.1 hx with rfl | hx
    ·assumption
    ·exact all_takeWhile p s x hx
   ·cases hx
theorem Mv {c:UInt8} (h:iZ c=true) : c.toNat<128:=by
 simp[iZ] at h; omega
theorem uq {α:Type} {p:α→Bool} : ∀ {s:List α},(∀ x∈s,p x=true)→s.dropWhile p=[]
 | [],_=>rfl
 | c :: s,h=>by rw[List.dropWhile_cons,if_pos (h c (by simp))]; exact uq fun x hx=>h x (by simp[hx])
theorem NT (s:List UInt8) : Lib.trimS (cB s) dF=[]:=by
 have h:∀ x∈cB s,dF.contains x=true:=fun x hx=>by
  unfold cB at hx
  rw[vS,JN] at hx
  obtain⟨y,hy,rfl⟩:=List.mem_map.1 hx
  rw[G6]; exact all_takeWhile iZ s y hy
 unfold Lib.trimS Lib.trimRightS Lib.trimLeftS
 rw[uq (s:=(cB s).reverse) fun x hx=>h x (by simpa using hx)]
 rfl
abbrev fJ:List UInt8→List UInt8:=fun s=>Lib.trimS s dF
theorem BD (s:List UInt8) : gq fJ (cB s)=!bad (wn s):=by
 have hl:(cB s).length=wn s:=by
  unfold cB; rw[vS]; have:=F3 s; simp; omega
 unfold gq bad
 rw[show fJ (cB s)=[] from NT s,hl]
 by_cases h1:1≤wn s <;> by_cases h2:wn s≤20 <;> simp[h1,h2] <;> omega
theorem yM (s:List UInt8) : cB s=dB (wn s) s:=by unfold cB dB; rw[vS]
theorem BN {s:List UInt8} (h:dJ s=true) : dJ (s.drop (wn s))=true:=by
 have:=oh (s.take (wn s)) (s.drop (wn s)) (fun c hc=>by rw[JN] at hc; exact Mv (all_takeWhile iZ s c hc))
 rw[List.take_append_drop] at this
 rw[← this]; exact h
theorem Bf {x:UInt8} {s:List UInt8} (h:aK x s=true) : s=x :: s.drop 1:=by
 cases s with
 | nil=>cases h
 | cons c s=>simp[aK] at h; subst h; rfl
theorem oq {x:UInt8} {s:List UInt8} (hx:x.toNat<128) (h:aK x s=true) (hf:dJ s=true) : dJ (s.drop 1)=true:=by
 rw[Bf h,sw hx] at hf; exact hf
theorem fV {α:Type} {p:α→Bool} : ∀ {a b:List α},(∀ x∈a,p x=true)→(∀ x,b.head?=some x→p x=false)→(a++b).takeWhile p=a∧(a++b).dropWhile p=b
 | [],[],_,_=>⟨rfl,rfl⟩
 | [],y :: b,_,h=>by
   have:=h y rfl
   simp[List.takeWhile_cons,List.dropWhile_cons,this]
 | x :: a,b,h,hb=>by
   have ih:=fV (a:=a) (b:=b) (fun y hy=>h y (by simp[hy])) hb
   simp[List.takeWhile_cons,List.dropWhile_cons,h x (by simp),ih.1,ih.2]
theorem mO {α:Type} {p:α→Bool} : ∀ {s:List α},(∃ x∈s,p x=false)→∃ a y b,s=a++y :: b∧(∀ x∈a,p x=true)∧p y=false
 | [],⟨x,hx,_⟩=>by cases hx
 | c :: s,⟨x,hx,hp⟩=>by
   cases hc:p c with
   | false=>exact⟨[],c,s,rfl,by simp,hc⟩
   | true =>
     rcases List.mem_cons.1 hx with rfl | hx
     ·rw[hp] at hc; cases hc
     ·obtain⟨a,y,b,rfl,h1,h2⟩:=mO ⟨x,hx,hp⟩
      exact⟨c :: a,y,b,rfl,fun z hz=>by rcases List.mem_cons.1 hz with rfl | hz; exact hc; exact h1 z hz,h2⟩
theorem uG (c:UInt8) : okB [] c=bO c:=by simp[okB]
def LV (r:List UInt8) : Prop:=aK 44 r=false∧aK 59 r=false∧aK 58 r=false
theorem Bt {c:UInt8} {r:List UInt8} (h:c≠44∧c≠59∧c≠58) : LV (c :: r):=by
 refine⟨?_, ?_, ?_⟩ <;> simp[aK,h]
theorem Ib (s:List UInt8) : (Lib.indexAny s fA=-1∧∀ x∈s,x ∉ fA)∨∃ a c b,s=a++c :: b∧Lib.indexAny s fA=(a.length:Int)∧c∈fA∧∀ x∈a,x ∉ fA:=by
 induction s with
 | nil=>exact .inl ⟨rfl,by simp⟩
 | cons d s ih =>
   rw[Lib.indexAny]
   by_cases hd:d∈fA
   ·have:fA.contains d=true:=by simpa using hd
    exact .inr ⟨[],d,s,rfl,by rw[if_pos this]; rfl,hd,by simp⟩
   ·have:¬ fA.contains d=true:=by simpa using hd
    rw[if_neg this]
    rcases ih with⟨h1,h2⟩ | ⟨a,c,b,rfl,h1,h2,h3⟩
    ·exact .inl ⟨by rw[h1]; rfl,fun x hx=>by rcases List.mem_cons.1 hx with rfl | hx; exact hd; exact h2 x hx⟩
    ·refine .inr ⟨d :: a,c,b,rfl, ?_,h2,fun x hx=>by rcases List.mem_cons.1 hx with rfl | hx; exact hd; exact h3 x hx⟩
     rw[h1]
     have:((a.length:Int) == -1)=false:=by simp
     rw[this]; simp
theorem Ng {c:UInt8} (h:c∈fA) : c.toNat<128:=by
 simp[fA] at h
 rcases h with rfl | rfl | rfl <;> decide
theorem CG {c:UInt8} (h:c∈fA) : bO c=true∧c≠34∧j6 c=false:=by
 simp[fA] at h
 rcases h with rfl | rfl | rfl <;> decide
theorem OL {t:List UInt8} (hf:dJ t=true) :
  ((iL t).2.2=true→kN t=some ((iL t).1,(iL t).2.1)∧dJ (iL t).2.1=true) ∧
  ((iL t).2.2=false→kN t=none∨∃ w r,kN t=some (w,r)∧LV r):=by
 unfold iL kN
 cases h34:aK 34 t with
 | true =>
   have ht:=Bf h34
   have hf1:=oq (x:=34) (by decide) h34 hf
   generalize t.drop 1=t1 at *
   simp only[if_true]
   rcases qy 34 t1 with⟨h1,_,hn⟩ | ⟨a,b,h1,_,h3,hn⟩
   ·rw[h1]
    refine⟨fun h=>(by cases h),fun _=>.inl ?_⟩
    have:aK 34 (t1.dropWhile jE)=false:=by
     cases hd:t1.dropWhile jE with
     | nil=>rfl
     | cons c r =>
       have hm:c∈t1:=(List.dropWhile_suffix jE).subset (by rw[hd]; simp)
       have:c≠34:=fun e=>hn (e▸hm)
       simpa [aK] using this
    rw[this]; rfl
   ·rw[h1]
    simp only
    rw[h3] at hf1
    have hsp:=zJ (c:=34) (by decide) a.length a b (Nat.le_refl _) hf1
    by_cases hp:a.all bO=true
    ·have hq:∀ x∈a,jE x=true:=fun x hx=>by
      have h5:=List.all_eq_true.1 hp x hx
      have h6:x≠34:=fun e=>hn (e▸hx)
      simp[jE,h5,h6]
     have:=fV (p:=jE) (a:=a) (b:=34 :: b) hq (fun x hx=>by simp at hx; subst hx; decide)
     rw[h3,this.1,this.2]
     refine⟨fun _=>⟨by simp[aK],hsp.2⟩,fun h=>?_⟩
     have:fu [] a=true:=by
      unfold fu
      rw[hsp.1,Bool.and_true,List.all_eq_true]
      intro x hx
      rw[uG]; exact List.all_eq_true.1 hp x hx
     rw[this] at h; cases h
    ·have hp:∃ x∈a,bO x=false:=by simpa using hp
     obtain⟨a1,y,a2,rfl,h5,h6⟩:=mO hp
     have hq:∀ x∈a1,jE x=true:=fun x hx=>by
      have h8:x≠34:=fun e=>hn (by subst e; simp[hx])
      simp[jE,h5 x hx,h8]
     have hy:y≠34:=fun e=>hn (by subst e; simp)
     have:=fV (p:=jE) (a:=a1) (b:=y :: (a2++34 :: b)) hq (fun x hx=>by simp at hx; subst hx; simp[jE,h6])
     have he:t1=a1++y :: (a2++34 :: b):=by rw[h3]; simp
     rw[he,this.1,this.2]
     refine⟨fun h=>?_,fun _=>.inl (by simp[aK,hy])⟩
     have:fu [] (a1++y :: a2)=false:=by
      unfold fu
      have:(a1++y :: a2).all (okB [])=false:=by rw[List.all_eq_false]; exact⟨y,by simp,by rw[uG]; simp[h6]⟩
      rw[this]; rfl
     rw[this] at h; cases h
 | false =>
   simp only[Bool.false_eq_true,if_false]
   rcases Ib t with⟨h1,h2⟩ | ⟨a,c,b,rfl,h1,h2,h3⟩
   ·rw[h1]
    refine⟨fun h=>(by cases h),fun _=>.inr ⟨_,_,rfl, ?_⟩⟩
    cases hd:t.dropWhile j6 with
    | nil=>exact⟨rfl,rfl,rfl⟩
    | cons d r =>
      have hm:d∈t:=(List.dropWhile_suffix j6).subset (by rw[hd]; simp)
      have:=h2 d hm
      simp[fA] at this
      exact Bt ⟨this.1,this.2.1,this.2.2⟩
   ·rw[h1,if_neg (by omega),Int.toNat_natCast]
    have ht1:(a++c :: b).take a.length=a:=by simp
    have ht2:(a++c :: b).drop a.length=c :: b:=by simp
    rw[ht1,ht2]
    have hca:=Ng h2
    have hsp:=zJ hca a.length a b (Nat.le_refl _) hf
    by_cases hp:a.all (okB [34])=true
    ·have hq:∀ x∈a,j6 x=true:=fun x hx=>by
      have h5:=List.all_eq_true.1 hp x hx
      have h6:=h3 x hx
      simp[okB] at h5
      simp[fA] at h6
      simp[j6,h5,h6]
     have:=fV (p:=j6) (a:=a) (b:=c :: b) hq (fun x hx=>by simp at hx; subst hx; exact(CG h2).2.2)
     refine⟨fun _=>⟨by rw[this.1,this.2],by rw[sw hca]; exact hsp.2⟩,fun h=>?_⟩
     have:fu [34] a=true:=by unfold fu; rw[hsp.1,hp]; rfl
     rw[this] at h; cases h
    ·have hp:∃ x∈a,okB [34] x=false:=by simpa using hp
     obtain⟨a1,y,a2,rfl,h5,h6⟩:=mO hp
     have hyn:=h3 y (by simp)
     have hbad:j6 y=false:=by
      simp[okB] at h6
      by_cases hpl:bO y=true
      ·have:=h6 hpl
       subst this; decide
      ·simp[j6,hpl]
     have hq:∀ x∈a1,j6 x=true:=fun x hx=>by
      have h7:=h5 x hx
      have h8:=h3 x (by simp[hx])
      simp[okB] at h7
      simp[fA] at h8
      simp[j6,h7,h8]
     have:=fV (p:=j6) (a:=a1) (b:=y :: (a2++c :: b)) hq (fun x hx=>by simp at hx; subst hx; exact hbad)
     have he:(a1++y :: a2)++c :: b=a1++y :: (a2++c :: b):=by simp
     refine⟨fun h=>?_,fun _=>.inr ⟨_,_,rfl, ?_⟩⟩
     ·have:fu [34] (a1++y :: a2)=false:=by
       unfold fu
       have:(a1++y :: a2).all (okB [34])=false:=by rw[List.all_eq_false]; exact⟨y,by simp,by simp[h6]⟩
       rw[this]; rfl
      rw[this] at h; cases h
     ·rw[he,this.2]
      simp[fA] at hyn
      exact Bt ⟨hyn.1,hyn.2.1,hyn.2.2⟩
theorem JO:∀ (n:Nat) (s:List UInt8) (acc:List (List UInt8)) (k k' : Nat),s.length≤n→1≤s.length→s.length≤k→s.length≤k'→dJ (s.drop 1)=true →
  (∀ vs r,gP k s acc=some (vs,r)→iB k' (s.drop 1) acc=some (vs,r)∧dJ r=true) ∧
  (gP k s acc=none→iB k' (s.drop 1) acc=none∨∃ vs r,iB k' (s.drop 1) acc=some (vs,r)∧aK 59 r=false∧aK 58 r=false)
 | 0,s,acc,k,k',h1,h2,_,_,_=>by omega
 | n + 1,s,acc,k,k',h1,h2,h3,h4,hf=>by
   obtain⟨i,rfl⟩ : ∃ i,k=i + 1:=⟨k - 1,by omega⟩
   obtain⟨j,rfl⟩ : ∃ j,k'=j + 1:=⟨k' - 1,by omega⟩
   rw[gP,iB]
   have hv:=OL hf
   have hlen:=qZ (s.drop 1)
   generalize iL (s.drop 1)=x at *
   obtain⟨v,after,ok⟩:=x
   simp only[List.length_drop] at hv hlen ⊢
   cases ok with
   | true =>
     obtain⟨hs,hfa⟩:=hv.1 rfl
     rw[hs]
     simp only[if_true]
     cases h44:aK 44 after with
     | true =>
       simp only[if_true]
       have hp:=bC h44
       exact JO n after (acc++[v]) i j (by omega) hp (by omega) (by omega) (oq (x:=44) (by decide) h44 hfa)
     | false =>
       simp only[Bool.false_eq_true,if_false]
       refine⟨fun vs r h=>?_,fun h=>by cases h⟩
       cases h
       exact⟨rfl,hfa⟩
   | false =>
     simp only[Bool.false_eq_true,if_false]
     refine⟨fun vs r h=>(by cases h),fun _=>?_⟩
     rcases hv.2 rfl with h | ⟨w,r,h,hm⟩
     ·rw[h]; exact .inl rfl
     ·rw[h]
      simp only[hm.1,Bool.false_eq_true,if_false]
      exact .inr ⟨_,_,rfl,hm.2.1,hm.2.2⟩
theorem Jf:∀ (n:Nat) (s:List UInt8) (acc:List jr) (k k' : Nat),s.length≤n→s.length + 1≤k→s.length + 1≤k'→dJ s=true →
  (∀ ps r,kZ fJ k s acc=some (ps,r)→iR k' s acc=some (ps,r)∧dJ r=true) ∧
  (kZ fJ k s acc=none→iR k' s acc=none∨∃ ps r,iR k' s acc=some (ps,r)∧aK 58 r=false)
 | n,s,acc,k,k',h1,h3,h4,hf=>by
   obtain⟨i,rfl⟩ : ∃ i,k=i + 1:=⟨k - 1,by omega⟩
   obtain⟨j,rfl⟩ : ∃ j,k'=j + 1:=⟨k' - 1,by omega⟩
   rw[kZ,iR]
   cases h59:aK 59 s with
   | false =>
     simp only[Bool.false_eq_true,if_false]
     refine⟨fun ps r h=>?_,fun h=>by cases h⟩
     cases h; exact⟨rfl,hf⟩
   | true =>
     simp only[if_true]
     have hp:=bC h59
     have hf1:=oq (x:=59) (by decide) h59 hf
     have hul:(s.drop 1).length + 1=s.length:=by simp; omega
     generalize s.drop 1=u at *
     rw[show(u.take (wk u)).map bW=cB u from rfl,BD,yM,vS]
     cases hb:bad (wn u) with
     | true =>
       simp only[Bool.not_true,Bool.false_and,Bool.false_eq_true,if_false,if_true]
       exact⟨fun ps r h=>(by cases h),fun _=>.inl (by simp)⟩
     | false =>
       simp only[Bool.not_false,Bool.true_and,Bool.false_eq_true,if_false]
       have hf2:=BN hf1
       cases h61:aK 61 (u.drop (wn u)) with
       | false =>
         simp only[Bool.false_eq_true,if_false]
         exact⟨fun ps r h=>(by cases h),fun _=>.inl (by simp)⟩
       | true =>
         simp only[if_true]
         have hp2:=bC h61
         have hf3:=oq (x:=61) (by decide) h61 hf2
         have hq:=JO (u.drop (wn u)).length (u.drop (wn u)) [] (u.drop (wn u)).length ((u.drop (wn u + 1)).length + 1) (Nat.le_refl _) hp2 (Nat.le_refl _) (by simp at hp2 ⊢; omega) hf3
         rw[List.drop_drop] at hq
         unfold C9
         have hlen:=oV (u.drop (wn u)).length (u.drop (wn u)) []
         cases hv:gP (u.drop (wn u)).length (u.drop (wn u)) [] with
         | none =>
           simp only
           refine⟨fun ps r h=>(by cases h),fun _=>?_⟩
           rcases hq.2 hv with h | ⟨vs,r,h,h5,h6⟩
           ·rw[h]; exact .inl rfl
           ·rw[h]
            simp only
            right
            have hr1:1≤j:=by omega
            obtain⟨j',rfl⟩ : ∃ j',j=j' + 1:=⟨j - 1,by omega⟩
            rw[iR]
            simp only[h5,Bool.false_eq_true,if_false]
            exact⟨_,_,rfl,h6⟩
         | some p =>
           obtain⟨vs,r⟩:=p
           obtain⟨h5,h6⟩:=hq.1 vs r hv
           rw[h5]
           simp only
           have h7:=hlen vs r hp2 hv
           simp at h7
           cases n with
           | zero=>omega
           | succ n=>exact Jf n r _ i j (by omega) (by omega) (by omega) h6
theorem JP {g r:List UInt8} (hf:dJ r=true) : AP fJ g (cB r) (r.drop (wk r))=Ag g r:=by
 unfold AP Ag
 rw[BD,yM,vS]
 have hf1:=BN hf
 have hq:=Jf (r.drop (wn r)).length (r.drop (wn r)) [] ((r.drop (wn r)).length + 1) ((r.drop (wn r)).length + 1) (Nat.le_refl _) (Nat.le_refl _) (Nat.le_refl _) hf1
 unfold oD
 cases hp:kZ fJ ((r.drop (wn r)).length + 1) (r.drop (wn r)) [] with
 | none =>
   simp only
   rcases hq.2 hp with h | ⟨ps,q,h,h2⟩
   ·rw[h]; simp
   ·rw[h]; simp[h2]
 | some x =>
   obtain⟨ps,q⟩:=x
   obtain⟨h1,h2⟩:=hq.1 ps q hp
   rw[h1]
   simp only
   cases hb:bad (wn r) with
   | true=>simp
   | false =>
     simp only[Bool.not_false,Bool.true_and,Bool.false_eq_true,if_false]
     cases h58:aK 58 q with
     | false=>simp
     | true =>
       have hf2:=oq (x:=58) (by decide) h58 h2
       have:fu [] (q.drop 1)=(q.drop 1).all bO:=by
        unfold fu
        rw[hf2,Bool.and_true]
        congr 1
        funext c
        exact uG c
       rw[this]
theorem Em (s:List UInt8) : oz fJ s=xE s:=by
 unfold oz xE
 cases hf:dJ s with
 | false=>simp
 | true =>
   simp only[if_true]
   unfold sI AJ
   rw[vS]
   cases h46:aK 46 (s.drop (wn s)) with
   | false =>
     simp only[Bool.false_eq_true,if_false]
     rw[← vS s]
     exact JP hf
   | true =>
     simp only[if_true]
     rw[BD]
     cases hb:bad (wn s) with
     | true=>simp
     | false =>
       simp only[Bool.not_false,if_true,Bool.false_eq_true,if_false]
       rw[yM s,List.drop_drop]
       refine JP ?_
       have:=oq (x:=46) (by decide) h46 (BN hf)
       rwa [List.drop_drop] at this
def xC (f:List UInt8→List UInt8) (s:List UInt8) : List (Ln × Int) × Int × Int:=match Mm f s with
 | .ok ls=>(ls,0,0)
 | .bad k e=>([],k,e)
def Qu (B:Base) (f:List UInt8→List UInt8) (c:ak) : Prop:=∀ {M:RM} {s:List UInt8} {Q:ai},M.base=B→s.length≤100000 →
 (∀ v M',ah [] M M'→df gF M' v (xC f s).1 (fun b=>M.next≤b)→(xC f s).1.length≤s.length + 1→(∀ x∈(xC f s).1,Small 912 x.1)→Q (.tup [v,N .i64 (xC f s).2.1,N .i64 (xC f s).2.2]) M')→c [St s] M Q
theorem qF.one {B:Base} {f:List UInt8→List UInt8} {c:ak} (h:qF B f c) : Qu B f c:=by
 intro M s Q hM hl hQ
 refine h hM hl ?_ ?_
 ·intro v M' ls k hls hsl hle
  have e:xC f s=(ls,0,0):=by unfold xC; rw[hls]
  rw[e] at hQ
  exact hQ v M' k hsl hle (qE _ _ _ (by simp) hls)
 ·intro M' k e kk hb
  have he:xC f s=([],k,e):=by unfold xC; rw[hb]
  rw[he] at hQ
  exact hQ aH M' kk df.nil (by simp) (by simp)
end Go.Ab.Vl
namespace Go.Ab
open Go Go.RowKit Go.ChangeShapes
section
variable {H:Type} {enc:TypeId × Value→H} {P:Program} {w:World} {base:Nat} {spare:Nat→Bool} {held:Bool}
end
end Go.Ab
namespace Go.Ab
open Go Go.ChangeShapes
end Go.Ab
namespace Go.Ab
open Go Go.RowKit
section
variable {P:Program} {f:FuncId} {fn:Func} {w w' : World} {M:RM}
end
end Go.Ab
namespace Go.Ab.Sm
open Go Go.Ab
section
variable {i j:Nat} {K:AV→Prop}
theorem add1 (h:i<4611686018427387904) : ag .add (N .i64 (i:Int)) (N .i64 1) K=K (N .i64 ((i + 1:Nat) : Int)):=by
 rw[ek,fB (by omega)]
theorem rC:ag .lss (N .i64 (i:Int)) (N .i64 (j:Int)) K=K (Bo (decide (i<j))):=by rw[eD,show decide ((i:Int)<(j:Int))=decide (i<j) by simp]
theorem yA:ag .gtr (N .i64 (i:Int)) (N .i64 (j:Int)) K=K (Bo (decide (i > j))):=by rw[mf,show decide ((i:Int) > (j:Int))=decide (i > j) by simp]
theorem Tz:ag .eql (N .i64 (i:Int)) (N .i64 (j:Int)) K=K (Bo (decide (i=j))):=by
 rw[cz,show((i:Int) == (j:Int))=decide (i=j) by by_cases h:i=j <;> simp[h]; omega]
end
section
variable {M:RM} {c p:Bool} {f:ai→Prop} {P:RM→Prop} {G:AV→RM→Prop}
theorem O3 (hf:c=true→∀ k:ai,k (Bo p) M→f k) (hG:G (Bo (c && p)) M) :
  aa (Bo c) true f (fun k=>k .undef M) (fun t M'=>ay (Bo c) t (Bo false) fun u=>G u M'):=by
 cases c with
 | false=>rw[bT]; dsimp only; rw[bX]; exact hG
 | true=>rw[bz]; exact hf rfl _ (by rw[bu]; exact hG)
theorem QP (hf:c=false→∀ k:ai,k (Bo p) M→f k) (hG:G (Bo (c || p)) M) :
  aa (Bo c) false f (fun k=>k .undef M) (fun t M'=>ay (Bo c) (Bo true) t fun u=>G u M'):=by
 cases c with
 | true=>rw[aR]; dsimp only; rw[bu]; exact hG
 | false=>rw[aZ]; exact hf rfl _ (by rw[bX]; exact hG)
theorem RU (h0:P M) (hf:c=true→∀ k:ai,(∀ M',P M'→k (Bo p) M')→f k) (hG:∀ M',P M'→G (Bo (c && p)) M') :
  aa (Bo c) true f (fun k=>k .undef M) (fun t M'=>ay (Bo c) t (Bo false) fun u=>G u M'):=by
 cases c with
 | false=>rw[bT]; dsimp only; rw[bX]; exact hG M h0
 | true=>rw[bz]; exact hf rfl _ fun M' h=>by rw[bu]; exact hG M' h
theorem Gp (h0:P M) (hf:c=false→∀ k:ai,(∀ M',P M'→k (Bo p) M')→f k) (hG:∀ M',P M'→G (Bo (c || p)) M') :
  aa (Bo c) false f (fun k=>k .undef M) (fun t M'=>ay (Bo c) (Bo true) t fun u=>G u M'):=by
 cases c with
 | true=>rw[aR]; dsimp only; rw[bu]; exact hG M h0
 | false=>rw[aZ]; exact hf rfl _ fun M' h=>by rw[bX]; exact hG M' h
end
section
variable {M:RM} {c p:Bool} {f:KR→Prop} {G:AV→RM→Prop}
end
theorem QT {a:Int} {K:AV→Prop} : ag .neq (N .i64 a) (N .i64 a) K=K (Bo false):=by rw[gI,bne_self_eq_false]
theorem MH {α:Type} {E:Enc α} {M:RM} {T:Nat} {v:AV} {xs:List α} (h:Ow E M 0 T v xs) (hi:0<xs.length) : ∃ b,v=.slc b 0 xs.length (.op E.size)∧b<M.next∧M.heap b=some (.row (E.row xs) true T 0):=by
 unfold Ow at h
 generalize xs.length=n at *
 generalize E.row xs=cs at *
 cases h with
 | nil=>omega
 | ex0 b o h1 h2 h3=>omega
 | op b n cs h1 h2 h3 h4=>exact⟨b,rfl,h2,h3⟩
theorem Gq {α:Type} {E:Enc α} (hs:E.size=1) {M:RM} {T:Nat} {v:AV} {xs:List α} (h:Ow E M 0 T v xs) {i:Nat} (hi:i<xs.length) : ∃ b,aI v=[b]∧b<M.next ∧
  (∀ (K:AV→Prop),bN v (N .i64 (i:Int)) 1 K=K (.ptr b i))∧(∀ x,E.cells xs[i]=[x]→∀ K:AV→Prop,av M (.ptr b i) K=K x) ∧
  ∀ (a:α) (x:AV),E.cells a=[x]→x.cells=[x]→∃ M',Ow E M' 0 T v (xs.set i a)∧M'=M.put b (.row (E.row (xs.set i a)) true T 0)∧∀ K:RM→Prop,aO M (.ptr b i) x 1 K=K M':=by
 obtain⟨b,rfl,h2,h3⟩:=MH h (by omega)
 rw[hs]
 have hlen:(E.row xs).length=xs.length:=by rw[E.eY,hs,Nat.mul_one]
 have hget:∀ x,E.cells xs[i]=[x]→(E.row xs)[i]?=some x:=by
  intro x hx
  have:=E.uz hi
  rw[hs,Nat.mul_one,hx] at this
  have h2:=congrArg (fun l:List AV=>l[0]?) this
  simpa using h2
 have hset:∀ (a:α) (x:AV),E.cells a=[x]→(E.row xs).set i x=E.row (xs.set i a):=by
  intro a x hx
  apply List.ext_getElem?
  intro j
  have hl2:(E.row (xs.set i a)).length=xs.length:=by rw[E.eY,hs,Nat.mul_one,List.length_set]
  by_cases hj:j<xs.length
  ·have hj2:j<(xs.set i a).length:=by rw[List.length_set]; exact hj
   have e1:=E.uz (xs:=xs.set i a) hj2
   rw[hs,Nat.mul_one] at e1
   have e2:=E.uz (xs:=xs) hj
   rw[hs,Nat.mul_one] at e2
   have e1:=congrArg (fun l:List AV=>l[0]?) e1
   have e2:=congrArg (fun l:List AV=>l[0]?) e2
   simp only[List.getElem?_take,List.getElem?_drop,Nat.zero_lt_one,if_true,Nat.add_zero] at e1 e2
   rw[e1]
   by_cases hji:j=i
   ·subst hji
    rw[List.getElem?_set_self (by omega)]
    simp[hx]
   ·rw[List.getElem?_set_ne (fun e=>hji e.symm),e2]
    rw[List.getElem_set_ne (fun e=>hji e.symm)]
  ·rw[List.getElem?_eq_none (by rw[List.length_set]; omega),List.getElem?_eq_none (by omega)]
 refine⟨b,rfl,h2,fun K=>?_,fun x hx K=>ax h3 (hget x hx),fun a x hx hc=>?_⟩
 ·rw[vX]
  simp only[Int.toNat_natCast,Nat.mul_one,Nat.zero_add]
  exact propext ⟨fun h=>h.2.2,fun h=>⟨by omega,by omega,h⟩⟩
 ·have h1x:oneCell x=true:=by
   have:=E.one a
   rw[hx] at this
   simpa using this
  refine⟨_, ?_,rfl,fun K=>eU (l':=E.row (xs.set i a)) h3 (by omega) hc h1x (hset a x hx)⟩
  have hl3:(xs.set i a).length=xs.length:=List.length_set
  show Own _ 0 T E.size (.slc b 0 xs.length (.op 1)) _ _
  rw[hs,hl3]
  exact .op b xs.length _ (Nat.zero_le _) h2 (aV _) (by rw[E.eY,hs,hl3])
end Go.Ab.Sm
namespace Go.Ab.Vl
open Go Go.Ab Go.Ab.Sm
def dU (c:UInt8) : UInt8:=if 97≤c.toNat∧c.toNat≤122 then UInt8.ofNat (c.toNat - 32) else c
def qO (c:ak) : Prop:=∀ {M:RM} {s:List UInt8} {Q:ai},s.length≤1000000000→(∀ M',ah [] M M'→Q (St (s.map dU)) M')→c [St s] M Q
section
variable {f:UInt8→UInt8} {s:List UInt8} {i:Nat}
theorem map_set (hi:i<s.length) (x:UInt8) : ((s.take i).map f++s.drop i).set i x=(s.take i).map f++x :: s.drop (i + 1):=by
 have hl:((s.take i).map f).length=i:=by simp; omega
 rw[List.drop_eq_getElem_cons hi,List.set_append_right _ _ (by omega),hl,Nat.sub_self,List.set_cons_zero]
theorem map_take (hi:i<s.length) : (s.take (i + 1)).map f++s.drop (i + 1)=(s.take i).map f++f s[i] :: s.drop (i + 1):=by
 rw[List.take_succ_eq_append_getElem hi,List.map_append,List.append_assoc]
 rfl
theorem JQ (hi:i<s.length) (h:i<((s.take i).map f++s.drop i).length) : ((s.take i).map f++s.drop i)[i]=s[i]:=by
 have hl:((s.take i).map f).length=i:=by simp; omega
 rw[List.getElem_append_right (by omega)]
 simp only[hl,Nat.sub_self,List.getElem_drop,Nat.add_zero]
end
theorem JE {c:UInt8} (h:¬ (97≤c.toNat∧c.toNat≤122)) : dU c=c:=if_neg h
theorem Ml {c:UInt8} (h:97≤c.toNat∧c.toNat≤122) : (dU c).toNat=c.toNat - 32:=by
 have:=qx c
 unfold dU
 rw[if_pos h,GL,Nat.mod_eq_of_lt (by omega)]
theorem Ls {T8:Nat} : qO fun args M Q=>∃ a0,args=[a0]∧pR T8 a0 M Q:=by
 intro M s Q hl hQ
 refine⟨_,rfl, ?_⟩
 unfold pR
 simp only[eu,dS]
 rw[pg,bn,nI]
 have k1:ah [] M (M.push (.row (BY.row s) true T8 0)):=(ah.refl _ _).push _
 have o1:Ow BY (M.push (.row (BY.row s) true T8 0)) 0 T8 (.slc M.next 0 s.length (.op 1)) s:=.op M.next s.length _ (Nat.zero_le _) (by rw[dK]; omega) (RM.aY _) (BY.eY _)
 generalize M.push (.row (BY.row s) true T8 0)=M1 at *
 refine aS (fun m ys M3=>∃ i:Nat,m=s.length - i∧ys=[N .i64 (i:Int)]∧i≤s.length∧Ow BY M3 0 T8 (.slc M.next 0 s.length (.op 1)) ((s.take i).map dU++s.drop i)∧ah [] M M3) s.length
  ⟨0,rfl,rfl,Nat.zero_le _,by simpa using o1,k1⟩ ?_
 rintro next m ys M3 hnext ⟨i,rfl,rfl,hi,o3,k3⟩
 dsimp only[ae]
 rw[rC]
 refine bU (fun hlt=>?_) (fun hge=>?_)
 ·have hlt:i<s.length:=of_decide_eq_true hlt
  have hlen:i<((s.take i).map dU++s.drop i).length:=by simp; omega
  obtain⟨b,hbk,hbl,hix,hld,hst⟩:=Gq (E:=BY) rfl o3 hlen
  rw[JQ hlt hlen] at hld
  have hbe:M.next=b:=by simpa [aI] using hbk
  refine bY (fun _ M'=>Ow BY M' 0 T8 (.slc M.next 0 s.length (.op 1)) ((s.take (i + 1)).map dU++s.drop (i + 1))∧ah [] M M') ?_ ?_
  ·rintro xs M4 ⟨o4,k4⟩
   rw[add1 (by omega)]
   exact hnext _ _ _ (by omega) ⟨i + 1,rfl,rfl,by omega,o4,k4⟩
  intro J hJ
  have cb:=qx s[i]
  have same:¬ (97≤s[i].toNat∧s[i].toNat≤122)→J [] M3:=fun h=>hJ _ _ ⟨by rw[map_take hlt,JE h,← List.drop_eq_getElem_cons hlt]; exact o3,k3⟩
  rw[hix,hld (By s[i]) rfl,By,dE]
  refine O3 (p:=decide ((s[i].toNat:Int)≤122)) (fun _ k hk=>by rw[gJ]; exact hk) ?_
  refine bU (fun hc=>?_) (fun hc=>same ?_)
  ·rw[Bool.and_eq_true,decide_eq_true_eq,decide_eq_true_eq] at hc
   have h:97≤s[i].toNat∧s[i].toNat≤122:=by omega
   obtain⟨M4,o4,e4,hs4⟩:=hst (dU s[i]) (By (dU s[i])) rfl rfl
   have wv:N IntKind.u8 (IntKind.u8.wrap (IntKind.u8.wrap ((s[i].toNat:Int) + 65) - 97))=By (dU s[i]):=by
    rw[By,Ml h]
    rw[show IntKind.u8.wrap ((s[i].toNat:Int) + 65)=(s[i].toNat:Int) + 65 from lI (by omega) (by omega)]
    rw[lI (by omega) (by omega)]
    congr 1; omega
   rw[ek,Ct,hix,wv,hs4]
   refine hJ _ _ ⟨?_, ?_⟩
   ·rw[map_take hlt,← map_set hlt]; exact o4
   ·rw[e4]; exact k3.put _ (.inl (by omega))
  ·rw[Bool.and_eq_false_iff,decide_eq_false_iff_not,decide_eq_false_iff_not] at hc
   omega
 ·have he:i=s.length:=by
   have:¬ i<s.length:=of_decide_eq_false hge
   omega
  subst he
  rw[List.take_length,List.drop_length,List.append_nil] at o3
  rw[Sl.str (Own.Bp o3)]
  exact hQ M3 k3
theorem Qk {T8:Nat} : qO fun args M Q=>∃ a0,args=[a0]∧vU T8 a0 M Q:=by
 intro M s Q hl hQ
 refine⟨_,rfl, ?_⟩
 unfold vU
 simp only[eu,dS]
 rw[pg,bn]
 have k1:ah [] M (M.push (.row (BY.row s) true T8 0)):=(ah.refl _ _).push _
 have o1:Ow BY (M.push (.row (BY.row s) true T8 0)) 0 T8 (.slc M.next 0 s.length (.op 1)) s:=.op M.next s.length _ (Nat.zero_le _) (by rw[dK]; omega) (RM.aY _) (BY.eY _)
 generalize M.push (.row (BY.row s) true T8 0)=M1 at *
 refine aS (fun m ys M3=>∃ i:Nat,m=s.length - i∧ys=[N .i64 (i:Int)]∧i≤s.length∧Ow BY M3 0 T8 (.slc M.next 0 s.length (.op 1)) ((s.take i).map dU++s.drop i)∧ah [] M M3) s.length
  ⟨0,rfl,rfl,Nat.zero_le _,by simpa using o1,k1⟩ ?_
 rintro next m ys M3 hnext ⟨i,rfl,rfl,hi,o3,k3⟩
 dsimp only[ae]
 rw[nI,rC]
 refine bU (fun hlt=>?_) (fun hge=>?_)
 ·have hlt:i<s.length:=of_decide_eq_true hlt
  have hlen:i<((s.take i).map dU++s.drop i).length:=by simp; omega
  obtain⟨b,hbk,hbl,hix,hld,hst⟩:=Gq (E:=BY) rfl o3 hlen
  rw[JQ hlt hlen] at hld
  have hbe:M.next=b:=by simpa [aI] using hbk
  refine bY (fun _ M'=>Ow BY M' 0 T8 (.slc M.next 0 s.length (.op 1)) ((s.take (i + 1)).map dU++s.drop (i + 1))∧ah [] M M') ?_ ?_
  ·rintro xs M4 ⟨o4,k4⟩
   rw[add1 (by omega)]
   exact hnext _ _ _ (by omega) ⟨i + 1,rfl,rfl,by omega,o4,k4⟩
  intro J hJ
  have cb:=qx s[i]
  have same:¬ (97≤s[i].toNat∧s[i].toNat≤122)→J [] M3:=fun h=>hJ _ _ ⟨by rw[map_take hlt,JE h,← List.drop_eq_getElem_cons hlt]; exact o3,k3⟩
  rw[hix,hld (By s[i]) rfl,By,dE]
  refine O3 (p:=decide ((s[i].toNat:Int)≤122)) (fun _ k hk=>by rw[hix,hld (By s[i]) rfl,By,gJ]; exact hk) ?_
  refine bU (fun hc=>?_) (fun hc=>same ?_)
  ·rw[Bool.and_eq_true,decide_eq_true_eq,decide_eq_true_eq] at hc
   have h:97≤s[i].toNat∧s[i].toNat≤122:=by omega
   obtain⟨M4,o4,e4,hs4⟩:=hst (dU s[i]) (By (dU s[i])) rfl rfl
   have wv:N IntKind.u8 (IntKind.u8.wrap ((s[i].toNat:Int) - 32))=By (dU s[i]):=by
    rw[By,Ml h]
    rw[lI (by omega) (by omega)]
    congr 1; omega
   rw[hix,hld (By s[i]) rfl,By,Ct,hix,wv,hs4]
   refine hJ _ _ ⟨?_, ?_⟩
   ·rw[map_take hlt,← map_set hlt]; exact o4
   ·rw[e4]; exact k3.put _ (.inl (by omega))
  ·rw[Bool.and_eq_false_iff,decide_eq_false_iff_not,decide_eq_false_iff_not] at hc
   omega
 ·have he:i=s.length:=by
   have:¬ i<s.length:=of_decide_eq_false hge
   omega
  subst he
  rw[List.take_length,List.drop_length,List.append_nil] at o3
  rw[Sl.str (Own.Bp o3)]
  exact hQ M3 k3
def nk (s:List UInt8) : Bool:=s.any fun c=>decide (c∈fA)
def ND (B:Base) (c:ak) : Prop:=∀ {M:RM} {s:List UInt8} {Q:ai},M.base=B→s.length≤1000000000→(∀ M',ah [] M M'→Q (Bo (nk s)) M')→c [St s,St fA] M Q
theorem Ob {B:Base} {ci:ak} (hi:zT fA B ci) : ND B fun args M Q=>∃ a0 a1,args=[a0,a1]∧jG ci a0 a1 M Q:=by
 intro M s Q hM hl hQ
 refine⟨_,_,rfl, ?_⟩
 unfold jG
 refine hi hM hl fun M' k=>?_
 have hQ:=hQ M' k
 rw[dE]
 rcases Ib s with⟨e,h⟩ | ⟨a,c,b,e1,e2,h1,h2⟩
 ·have:nk s=false:=by
   unfold nk
   rw[List.any_eq_false]
   intro x hx
   simpa using h x hx
  rw[this] at hQ
  rw[e]; exact hQ
 ·have:nk s=true:=by
   unfold nk
   rw[List.any_eq_true]
   exact⟨c,by rw[e1]; simp,by simpa using h1⟩
  rw[this] at hQ
  rw[e2,show decide ((a.length:Int) ≥ 0)=true from decide_eq_true (by omega)]; exact hQ
def Oe (c:ak) : Prop:=∀ {M:RM} {s:List UInt8} {Q:ai},s.length≤1000000000→Q (Bo (nk s)) M→c [St s,St fA] M Q
theorem Od:Oe fun args M Q=>∃ a0 a1,args=[a0,a1]∧tO a0 a1 M Q:=by
 intro M s Q hl hQ
 refine⟨_,_,rfl, ?_⟩
 unfold tO
 refine aS (fun m ys M'=>∃ i:Nat,m=s.length - i∧ys=[N .i64 (i:Int)]∧i≤s.length∧M'=M∧nk (s.drop i)=nk s) s.length ⟨0,rfl,rfl,Nat.zero_le _,rfl,rfl⟩ ?_
 rintro next m ys M' hnext ⟨i,rfl,rfl,hi,rfl,hh⟩
 dsimp only[ae]
 rw[bB,rC]
 refine bU (fun hlt=>?_) (fun hge=>?_)
 ·have hlt:i<s.length:=of_decide_eq_true hlt
  rw[List.drop_eq_getElem_cons hlt] at hh
  refine aS (fun m ys M2=>∃ j:Nat,m=3 - j∧ys=[N .i64 (j:Int)]∧j≤3∧M2=M'∧∀ x∈fA.take j,s[i]≠x) 3 ⟨0,rfl,rfl,Nat.zero_le _,rfl,by simp⟩ ?_
  rintro wV m ys M2 iF ⟨j,rfl,rfl,hj,rfl,hx⟩
  dsimp only[ae]
  rw[bB,show fA.length=3 from rfl,rC]
  refine bU (fun hlt2=>?_) (fun pz=>?_)
  ·have hlt2:j<3:=of_decide_eq_true hlt2
   have hm:j<fA.length:=hlt2
   rw[ko hlt,ko hm,By,By,cz]
   refine bU (fun hc=>?_) (fun hc=>?_)
   ·have he:s[i]=fA[j]:=by
     have:(s[i].toNat:Int)=(fA[j].toNat:Int):=by simpa using hc
     exact UInt8.toNat_inj.1 (by omega)
    have:nk s=true:=by
     rw[← hh]
     unfold nk
     rw[List.any_cons,decide_eq_true (he▸List.getElem_mem hm),Bool.true_or]
    rw[this] at hQ; exact hQ
   ·have he:s[i]≠fA[j]:=fun e=>by
     rw[e] at hc; simp at hc
    rw[add1 (by omega)]
    refine iF _ _ _ (by omega) ⟨j + 1,rfl,rfl,by omega,rfl,fun x hxm=>?_⟩
    rw[List.take_succ_eq_append_getElem hm,List.mem_append] at hxm
    rcases hxm with hxm | hxm
    ·exact hx x hxm
    ·simp at hxm; subst hxm; exact he
  ·have hj3:j=3:=by
    have:¬ j<3:=of_decide_eq_false pz
    omega
   subst hj3
   rw[add1 (by omega)]
   refine hnext _ _ _ (by omega) ⟨i + 1,rfl,rfl,by omega,rfl, ?_⟩
   rw[← hh]
   unfold nk
   rw[List.any_cons,decide_eq_false (fun hm=>hx s[i] hm rfl),Bool.false_or]
 ·have he:i=s.length:=by
   have:¬ i<s.length:=of_decide_eq_false hge
   omega
  subst he
  rw[List.drop_length] at hh
  rw[← hh] at hQ; exact hQ
structure Az (n0 b:Nat) (M M' : RM) : Prop where
 base:M'.base=M.base
 next:M.next≤M'.next
 heap:∀ c,c<n0→c≠b→M'.heap c=M.heap c
 shut:∀ c l e f,c<M.next→c≠b→M.heap c=some (.row l false e f)→M'.heap c=some (.row l false e f)
theorem mJ.buf {TB T8 n0 b:Nat} {M:RM} {xs:List UInt8} {buf:AV} (hB:mJ TB T8 n0 M b xs) (ho:Ow BY M n0 T8 buf xs) (he:xs=[]→buf=aH) : ∀ c∈aI buf,∀ l e f,M.heap c≠some (.row l false e f):=by
 intro c hc l e f hh
 by_cases hx:xs=[]
 ·rw[he hx] at hc; simp[aI] at hc
 ·obtain⟨d,rfl,_,h3⟩:=MH (Own.mono ho (Nat.zero_le _)) (List.length_pos_iff.2 hx)
  simp only[aI,List.mem_singleton] at hc
  subst hc
  rw[h3] at hh
  cases hh
theorem mJ.keep {TB T8 n0 b:Nat} {M M' : RM} {xs:List UInt8} (hB:mJ TB T8 n0 M b xs) (hk:ah [] M M') : mJ TB T8 n0 M' b xs:=by
 obtain⟨addr,buf,hh,ha,ho,he⟩:=hB.row
 have:=hB.hn
 have:=hB.lt
 exact⟨hB.lt,Nat.le_trans hB.hn hk.next,addr,buf,hk.aG hh (by omega) (by simp),ha,Own.keep ho hk (by simp),he⟩
theorem Az.keep {n0 b:Nat} {M0 M M' : RM} (h0:ah [] M0 M) (h:Az n0 b M M') (hn:M0.next≤n0) (hb:M0.next≤b) : ah [] M0 M' :=
 ⟨h.base.trans h0.base,Nat.le_trans h0.next h.next,fun c h1 _=>(h.heap c (by omega) (by omega)).trans (h0.heap c h1 (by simp))⟩
def wW (TB T8:Nat) (c:ak) : Prop:=∀ {n0:Nat} {M:RM} {b:Nat} {xs:List UInt8} {x:UInt8} {Q:ai},mJ TB T8 n0 M b xs→xs.length + 1≤140737488355328 →
 (∀ M',mJ TB T8 n0 M' b (xs++[x])→Az n0 b M M'→Q (.sc .nilIface) M')→c [.ptr b 0,By x] M Q
theorem DK {TB T8:Nat} {c:ak} (hc:zW TB c) : wW TB T8 fun args M Q=>∃ a0 a1,args=[a0,a1]∧gQ c T8 a0 a1 M Q:=by
 intro n0 M b xs x Q hB hl hQ
 obtain⟨addr,buf,hh,ha,ho,he⟩:=hB.row
 refine⟨_,_,rfl, ?_⟩
 unfold gQ
 refine hc hh ha ho.one fun M1 h1 hnx hbs hot=>?_
 have hbuf:=hB.buf ho he
 have hlt:=hB.lt
 have hn:=hB.hn
 have ho1:Ow BY M1 n0 T8 buf xs:=Own.same ho hnx (fun c hc=>hot c (by have:=ho.blk c hc; omega)) hbs
 simp only[go_sem,RM.cell_of h1]
 rw[su (x:=By x) (size:=1) rfl rfl rfl]
 simp only[bn]
 refine EE (E:=BY) (a:=x) ho1 (by omega) (Nat.le_refl _) (by omega) hl fun v' M2 h2 k2 hnx2 hv=>?_
 have hb2:b ∉ aI buf:=fun hm=>by have:=ho.blk b hm; omega
 have hh2:=k2.aG h1 (by omega) hb2
 simp only[go_sem,RM.jI hh2]
 rw[Own.cells h2,gV (by simp) (by simp) (by simp[Own.one h2])]
 simp only[go_sem]
 have hne:∀ c∈aI v',c≠b:=fun c hm=>by have:=h2.blk c hm; omega
 refine hQ _ ⟨hlt,by show n0≤M2.next; omega,.ptr b 0,v',RM.jN _ _,.inr rfl,Own.same h2 rfl (fun c hm=>by simp[go_sem,hne c hm]) rfl,by simp⟩ ⟨?_, ?_,fun c h3 h4=>?_,fun c l e f h3 h4 h5=>?_⟩
 ·exact k2.base.trans hbs
 ·show M.next≤M2.next
  omega
 ·simp only[go_sem,if_neg h4]
  rw[k2.heap c (by omega) (fun hm=>by have:=ho.blk c hm; omega),hot c h4]
 ·simp only[go_sem,if_neg h4]
  rw[k2.heap c (by omega) (fun hm=>hbuf c hm l e f h5),hot c h4,h5]
def qA (TB T8:Nat) (c:ak) : Prop:=∀ {n0:Nat} {M:RM} {b:Nat} {xs s:List UInt8} {Q:ai},mJ TB T8 n0 M b xs→xs.length + s.length≤140737488355328 →
 (∀ M',mJ TB T8 n0 M' b (xs++s)→Az n0 b M M'→Q (.tup [N .i64 s.length,.sc .nilIface]) M')→c [.ptr b 0,St s] M Q
theorem AY {TB T8:Nat} {c:ak} (hc:zW TB c) : qA TB T8 fun args M Q=>∃ a0 a1,args=[a0,a1]∧dI c T8 a0 a1 M Q:=by
 intro n0 M b xs s Q hB hl hQ
 obtain⟨addr,buf,hh,ha,ho,he⟩:=hB.row
 refine⟨_,_,rfl, ?_⟩
 unfold dI
 refine hc hh ha ho.one fun M1 h1 hnx hbs hot=>?_
 have hbuf:=hB.buf ho he
 have hlt:=hB.lt
 have hn:=hB.hn
 have ho1:Ow BY M1 n0 T8 buf xs:=Own.same ho hnx (fun c hc=>hot c (by have:=ho.blk c hc; omega)) hbs
 simp only[go_sem,RM.cell_of h1]
 have hnew:lL M1 1 [N .u8 0] false (St s)=some (s.length,BY.row s):=by
  simp only[lL,rU,if_true]
 by_cases hne0:xs++s=[]
 ·obtain⟨rfl,rfl⟩:=List.append_eq_nil_iff.1 hne0
  have hb0:=he rfl
  subst hb0
  refine⟨0,[],hnew,by omega,by omega,aH,M1,by simp[ru], ?_⟩
  simp only[go_sem,RM.jI h1]
  rw[gV (by simp) (by simp) (by simp[oneCell])]
  simp only[go_sem]
  refine hQ _ ⟨hlt,by show n0≤M1.next; omega,.ptr b 0,aH,by simp[go_sem],.inr rfl,.nil,fun _=>rfl⟩ ⟨hbs,by show M.next≤M1.next; omega,fun c h3 h4=>?_,fun c l e f h3 h4 h5=>?_⟩
  ·simp only[go_sem,if_neg h4]
   exact hot c h4
  ·simp only[go_sem,if_neg h4]
   rw[hot c h4,h5]
 refine uS ho1 (by omega) (Nat.le_refl _) hnew (by rw[BY.eY]; rfl) (BY.uN s) (by omega) (by omega) fun v' M2 h2 k2 hnx2 hv=>?_
 rw[← BY.mR] at h2
 have h2:Ow BY M2 n0 T8 v' (xs++s):=by
  show Own M2 n0 T8 1 v' (BY.row (xs++s)) (xs++s).length
  rw[List.length_append]; exact h2
 have hb2:b ∉ aI buf:=fun hm=>by have:=ho.blk b hm; omega
 have hh2:=k2.aG h1 (by omega) hb2
 simp only[go_sem,RM.jI hh2]
 rw[Own.cells h2,gV (by simp) (by simp) (by simp[Own.one h2])]
 simp only[go_sem]
 have hne:∀ c∈aI v',c≠b:=fun c hm=>by have:=h2.blk c hm; omega
 refine hQ _ ⟨hlt,by show n0≤M2.next; omega,.ptr b 0,v',RM.jN _ _,.inr rfl,Own.same h2 rfl (fun c hm=>by simp[go_sem,hne c hm]) rfl,fun e=>absurd e hne0⟩ ⟨?_, ?_,fun c h3 h4=>?_,fun c l e f h3 h4 h5=>?_⟩
 ·exact k2.base.trans hbs
 ·show M.next≤M2.next
  omega
 ·simp only[go_sem,if_neg h4]
  rw[k2.heap c (by omega) (fun hm=>by have:=ho.blk c hm; omega),hot c h4]
 ·simp only[go_sem,if_neg h4]
  rw[k2.heap c (by omega) (fun hm=>hbuf c hm l e f h5),hot c h4,h5]
def ji (v:List UInt8) : Bool:=!fu [34] v
def jf (f:List UInt8→List UInt8) (p:jr) : Bool:=!(!gq f p.1 || decide (p.2.length=0) || p.2.any ji)
def iP (f:List UInt8→List UInt8) (L:Ln) : Bool:=!((L.g != []) && !gq f L.g || !gq f L.n || !fu [] L.v) && L.ps.all (jf f)
structure LB (N:Nat) (L:Ln) : Prop where
 g:L.g.length≤N
 n:L.n.length≤N
 v:L.v.length≤N
 ps:L.ps.length≤N
 pn:∀ p∈L.ps,p.1.length≤N
 pl:∀ p∈L.ps,p.2.length≤N
 pv:∀ p∈L.ps,∀ v∈p.2,v.length≤N
theorem JB {M:RM} {v:AV} {ps:List jr} {S:Nat→Prop} (h:df iT M v ps S) {i:Nat} (hi:i<ps.length) : ∃ pv,df fZ.kV M pv ps[i].2 S∧∀ K:AV→Prop,(bN v (N .i64 (i:Int)) 2 fun p=>bg M p 2 K)=K (.agg [St ps[i].1,pv]):=by
 obtain⟨b,o,cs,hb,hbm,hidx,hld,hrel⟩:=df.at h 2 (i:Int) hi
 obtain⟨ds,rfl,pv,rfl,hpv⟩:=hrel
 refine⟨pv,hpv,fun K=>?_⟩
 rw[hidx,zZ,hld]
 exact propext ⟨fun⟨_,e,hk⟩=>by cases e; exact hk,fun hk=>⟨_,rfl,hk⟩⟩
theorem Gl {M:RM} {v:AV} {xs:List (List UInt8)} (h:Sl fZ M v xs) {i:Nat} (hi:i<xs.length) {K:AV→Prop} : (bN v (N .i64 (i:Int)) 1 fun p=>av M p K)=K (St xs[i]):=by
 obtain⟨b,o,_,_,hidx,hc⟩:=Sl.Nj (E:=fZ) h (i:Int) hi
 rw[hidx,cZ,hc _ rfl]
 simp
section
variable {B:Base}
def Oq (B:Base) (c:ak) : Prop:=∀ {M:RM} {s:List UInt8} {Q:ai},M.base=B→s.length≤1000000000→(∀ M',ah [] M M'→Q (Bo (ji s)) M')→c [St s] M Q
theorem KZ {cv:ak} (hv:lm B cv) : Oq B fun args M Q=>∃ a0,args=[a0]∧oo cv a0 M Q:=by
 intro M s Q hM hl hQ
 refine⟨_,rfl, ?_⟩
 unfold oo
 refine hv hM hl fun M' k=>?_
 rw[dh]
 exact hQ M' k
def DY (B:Base) (n:Nat) (c:ak) : Prop:=∀ {M:RM} {v:AV} {xs:List (List UInt8)} {Q:ai},M.base=B→Sl fZ M v xs→xs.length≤1000000000→(∀ x∈xs,x.length≤1000000000)→(∀ M',ah [] M M'→Q (Bo (xs.any ji)) M')→c [v,.fn (.func n) [] []] M Q
def EC (B:Base) (n:Nat) (c:ak) : Prop:=∀ {M:RM} {v:AV} {xs:List (List UInt8)} {Q:ai},M.base=B→Sl fZ M v xs→xs.length≤1000000000→(∀ x∈xs,x.length≤1000000000)→(∀ M' (k:Int),ah [] M M'→decide (k ≥ 0)=xs.any ji→Q (N .i64 k) M')→c [v,.fn (.func n) [] []] M Q
theorem FH {n:Nat} {cv:FuncId→ak} (hv:Oq B (cv n)) : EC B n fun args M Q=>∃ a0 a1,args=[a0,a1]∧kR cv a0 a1 M Q:=by
 intro M v xs Q hM hs hl hxl hQ
 refine⟨_,_,rfl, ?_⟩
 unfold kR
 rw[fU.len hs]
 refine aS (fun m ys M'=>∃ i:Nat,m=xs.length - i∧ys=[N .i64 (i:Int)]∧i≤xs.length∧ah [] M M'∧(xs.drop i).any ji=xs.any ji) xs.length ⟨0,rfl,rfl,Nat.zero_le _,ah.refl _ _,rfl⟩ ?_
 rintro next m ys M1 hnext ⟨i,rfl,rfl,hi,k1,hh⟩
 dsimp only[ae]
 rw[rC]
 refine bU (fun hlt=>?_) (fun hge=>?_)
 ·have hlt:i<xs.length:=of_decide_eq_true hlt
  rw[Gl (fU.keep hs k1 (by simp)) hlt,Oi]
  rw[List.drop_eq_getElem_cons hlt,List.any_cons] at hh
  refine hv (k1.base.trans hM) (hxl _ (List.getElem_mem hlt)) fun M2 k2=>?_
  refine bU (fun hb=>?_) (fun hb=>?_)
  ·rw[hb,Bool.true_or] at hh
   exact hQ M2 _ (k1.trans k2) (by rw[← hh]; exact decide_eq_true (by omega))
  ·rw[hb,Bool.false_or] at hh
   rw[add1 (by omega)]
   exact hnext _ _ _ (by omega) ⟨i + 1,rfl,rfl,by omega,k1.trans k2,hh⟩
 ·have he:i=xs.length:=by
   have:¬ i<xs.length:=of_decide_eq_false hge
   omega
  subst he
  rw[List.drop_length] at hh
  exact hQ M1 _ k1 (by rw[← hh]; rfl)
theorem BX {n:Nat} {ci:ak} (hi:EC B n ci) : DY B n fun args M Q=>∃ a0 a1,args=[a0,a1]∧jH ci a0 a1 M Q:=by
 intro M v xs Q hM hs hl hxl hQ
 refine⟨_,_,rfl, ?_⟩
 unfold jH
 refine hi hM hs hl hxl fun M' k k' he=>?_
 rw[dE,he]
 exact hQ M' k'
def Hg (B:Base) (f:List UInt8→List UInt8) (c:ak) : Prop:=∀ {M:RM} {cs:List AV} {L:Ln} {k:Int} {S:Nat→Prop} {Q:ai},M.base=B→gF.rel M cs (L,k) S→LB 1000000000 L→(∀ M',ah [] M M'→Q (Bo (iP f L)) M')→c [.agg cs] M Q
theorem Mg {f:List UInt8→List UInt8} {TL TP n:Nat} {cn cv cc:ak} (hn:oU B f cn) (hv:lm B cv) (hc:DY B n cc) : Hg B f fun args M Q=>∃ a0,args=[a0]∧rJ TL cn cv TP cc n a0 M Q:=by
 intro M cs L k S Q hM hrel hb hQ
 obtain⟨v,rfl,hps⟩:=hrel
 simp only at hps
 refine⟨_,rfl, ?_⟩
 unfold rJ
 simp only[eu]
 have hall:([St L.g,St L.n,v,St L.v,N .i64 k] : List AV).all oneCell=true:=by simp[gG,hps.one]
 rw[jL hall (by simp),bn]
 have k1:ah [] M (M.push (.row [St L.g,St L.n,v,St L.v,N .i64 k] false TL 0)):=(ah.refl _ _).push _
 have h1:(M.push (.row [St L.g,St L.n,v,St L.v,N .i64 k] false TL 0)).heap M.next=some (.row [St L.g,St L.n,v,St L.v,N .i64 k] false TL 0):=RM.aY _
 have n1:(M.push (.row [St L.g,St L.n,v,St L.v,N .i64 k] false TL 0)).next=M.next + 1:=dK _
 generalize M.push (.row [St L.g,St L.n,v,St L.v,N .i64 k] false TL 0)=M1 at *
 have hk:∀ {M' : RM},ah [] M1 M'→M'.base=B∧M'.heap M.next=some (.row [St L.g,St L.n,v,St L.v,N .i64 k] false TL 0):=fun k'=>⟨(k'.base.trans k1.base).trans hM,k'.aG h1 (by omega) (by simp)⟩
 rw[aX,ax h1 rfl,jR]
 refine RU (p:=!gq f L.g) (P:=fun M'=>ah [] M1 M') (ah.refl _ _) (fun _ kk hkk=>?_) (fun M2 k2=>?_)
 ·rw[aX,ax h1 rfl]
  refine hn (k1.base.trans hM) hb.g fun M' k'=>?_
  rw[dh]
  exact hkk _ k'
 refine Gp (p:=!gq f L.n) (P:=fun M'=>ah [] M1 M') k2 (fun _ kk hkk=>?_) (fun M3 k3=>?_)
 ·rw[aX,ax (hk k2).2 rfl]
  refine hn (hk k2).1 hb.n fun M' k'=>?_
  rw[dh]
  exact hkk _ (k2.trans k')
 refine Gp (p:=!fu [] L.v) (P:=fun M'=>ah [] M1 M') k3 (fun _ kk hkk=>?_) (fun M4 k4=>?_)
 ·rw[aX,ax (hk k3).2 rfl]
  refine hv (hk k3).1 hb.v fun M' k'=>?_
  rw[dh]
  exact hkk _ (k3.trans k')
 unfold iP at hQ
 refine bU (fun hcnd=>?_) (fun hcnd=>?_)
 ·rw[hcnd,Bool.not_true,Bool.false_and] at hQ
  exact hQ _ (k1.trans k4)
 rw[hcnd,Bool.not_false,Bool.true_and] at hQ
 have OW:df iT M4 v L.ps S:=(hps.keep k1 (by simp)).keep k4 (by simp)
 rw[aX,ax (hk k4).2 rfl,OW.len]
 refine aS (fun m ys M'=>∃ i:Nat,m=L.ps.length - i∧ys=[N .i64 (i:Int)]∧i≤L.ps.length∧ah [] M1 M'∧(L.ps.drop i).all (jf f)=L.ps.all (jf f)) L.ps.length ⟨0,rfl,rfl,Nat.zero_le _,k4,rfl⟩ ?_
 rintro next m ys M5 hnext ⟨i,rfl,rfl,hi,k5,hh⟩
 dsimp only[ae]
 rw[rC]
 have hpl:=hb.ps
 refine bU (fun hlt=>?_) (fun hge=>?_)
 ·have hlt:i<L.ps.length:=of_decide_eq_true hlt
  have EA:df iT M5 v L.ps S:=(hps.keep k1 (by simp)).keep k5 (by simp)
  obtain⟨pv,hpv,hall⟩:=JB EA hlt
  have hmem:=List.getElem_mem hlt
  have b1:=hb.pn _ hmem
  have b2:=hb.pl _ hmem
  have b3:=hb.pv _ hmem
  rw[List.drop_eq_getElem_cons hlt,List.all_cons] at hh
  generalize L.ps[i]=p at *
  rw[hall,bn,eH (n:=2) (RM.aY _) rfl rfl (by simp[gG,AV.cells,hpv.one])]
  have k6:ah [] M5 ((M5.push (.row [St [],aH] false TP 0)).put M5.next (.row (AV.agg [St p.1,pv]).cells false TP 0)):=((ah.refl _ _).push _).put _ (.inl (Nat.le_refl _))
  have h6:((M5.push (.row [St [],aH] false TP 0)).put M5.next (.row (AV.agg [St p.1,pv]).cells false TP 0)).heap M5.next=some (.row [St p.1,pv] false TP 0):=aV _
  have n6:((M5.push (.row [St [],aH] false TP 0)).put M5.next (.row (AV.agg [St p.1,pv]).cells false TP 0)).next=M5.next + 1:=rfl
  generalize (M5.push (.row [St [],aH] false TP 0)).put M5.next (.row (AV.agg [St p.1,pv]).cells false TP 0)=M6 at *
  have k56:=k5.trans k6
  have Tv:df fZ.kV M6 pv p.2 S:=hpv.keep k6 (by simp)
  rw[aX,ax h6 rfl]
  refine hn (hk k56).1 b1 fun M7 k7=>?_
  rw[dh]
  have h7:=k7.aG h6 (by omega) (by simp)
  have Rf:=Tv.keep k7 (by simp)
  have k57:=k56.trans k7
  refine QP (p:=decide (p.2.length=0)) (fun _ kk hkk=>?_) ?_
  ·rw[aX,ax h7 rfl,Rf.len,show(N .i64 (0:Int))=N .i64 ((0:Nat) : Int) from rfl,Tz]
   exact hkk
  refine Gp (p:=p.2.any ji) (P:=fun M'=>ah [] M1 M') k57 (fun _ kk hkk=>?_) (fun M8 k8=>?_)
  ·rw[aX,ax h7 rfl]
   refine hc (hk k57).1 Rf.sl b2 b3 fun M' k'=>?_
   exact hkk _ (k57.trans k')
  refine bU (fun hc=>?_) (fun hc=>?_)
  ·have:jf f p=false:=by unfold jf; rw[hc]; rfl
   rw[this,Bool.false_and] at hh
   rw[← hh] at hQ
   exact hQ _ (k1.trans k8)
  ·have:jf f p=true:=by unfold jf; rw[hc]; rfl
   rw[this,Bool.true_and] at hh
   rw[add1 (by omega)]
   exact hnext _ _ _ (by omega) ⟨i + 1,rfl,rfl,by omega,k8,hh⟩
 ·have he:i=L.ps.length:=by
   have:¬ i<L.ps.length:=of_decide_eq_false hge
   omega
  subst he
  rw[List.drop_length] at hh
  rw[← hh] at hQ
  exact hQ _ (k1.trans k5)
end
def qv (v:List UInt8) : List UInt8:=if nk v then[34]++v++[34] else v
def tailV (vs:List (List UInt8)) : List UInt8:=vs.flatMap fun v=>44 :: qv v
def gu:List (List UInt8)→List UInt8
 | []=>[]
 | v :: vs=>qv v++tailV vs
def dH (p:jr) : List UInt8:=[59]++p.1.map dU++[61]++gu p.2
def kG (L:Ln) : List UInt8:=if L.g=[] then[] else L.g++[46]
def l5 (L:Ln) : List UInt8:=L.n.map dU++L.ps.flatMap dH
def bE (L:Ln) : List UInt8:=kG L++l5 L++[58]++L.v
def qb (j:Nat) (vs:List (List UInt8)) : List UInt8:=if j=0 then gu vs else tailV (vs.drop j)
theorem Cz {vs:List (List UInt8)} {j:Nat} (hj:j<vs.length) : qb j vs=(if 0<j then[44] else[])++(qv vs[j]++qb (j + 1) vs):=by
 unfold qb
 rw[if_neg (by omega:¬ j + 1=0)]
 by_cases h:j=0
 ·subst h
  rw[if_pos rfl,if_neg (by omega)]
  cases vs with
  | nil=>simp at hj
  | cons v vs=>simp[gu]
 ·rw[if_neg h,if_pos (by omega),List.drop_eq_getElem_cons hj]
  unfold tailV
  rw[List.flatMap_cons]
  rfl
theorem Fp (vs:List (List UInt8)) : qb vs.length vs=[]:=by
 unfold qb
 cases vs with
 | nil=>rfl
 | cons v vs=>rw[if_neg (by simp),List.drop_length]; rfl
theorem CQ {α:Type} {a b c:List α} (h:a++b=c) : a.length + b.length=c.length:=by rw[← h,List.length_append]
theorem df.old {α:Type} {R:lh α} {M A C:RM} {v:AV} {xs:List α} {S:Nat→Prop} (h:df R A v xs S) (hS:∀ b,S b→b<M.next) (kA:ah [] M A) (kC:ah [] M C) (n:A.next≤C.next) : df R C v xs S:=by
 have hk:ah ((List.range A.next).filter fun c=>decide (M.next≤c)) A C:=⟨kC.base.trans kA.base.symm,n,fun c h1 h2=>by
  have h3:c<M.next:=by
   rcases Nat.lt_or_ge c M.next with h | h
   ·exact h
   ·exact absurd (List.mem_filter.2 ⟨List.mem_range.2 h1,decide_eq_true h⟩) h2
  rw[kC.heap c h3 (by simp),kA.heap c h3 (by simp)]⟩
 refine h.keep hk fun b hb hs=>?_
 have h1:=hS b hs
 have h2:=of_decide_eq_true (List.mem_filter.1 hb).2
 omega
structure uA (TB T8 TL:Nat) (M:RM) (cells:List AV) (M' : RM) (xs:List UInt8) : Prop where
 bld:mJ TB T8 (M.next + 2) M' (M.next + 1) xs
 keep:ah [] M M'
 row:M'.heap M.next=some (.row cells false TL 0)
 nx:M.next + 2≤M'.next
section
variable {TB T8 TL:Nat} {M M' M2:RM} {cells:List AV} {xs ys:List UInt8}
theorem uA.more (h:uA TB T8 TL M cells M' xs) (k:ah [] M' M2) : uA TB T8 TL M cells M2 xs :=
 ⟨h.bld.keep k,h.keep.trans k,k.aG h.row (by have:=h.nx; omega) (by simp),Nat.le_trans h.nx k.next⟩
theorem uA.write (h:uA TB T8 TL M cells M' xs) (hb:mJ TB T8 (M.next + 2) M2 (M.next + 1) ys) (k:Az (M.next + 2) (M.next + 1) M' M2) : uA TB T8 TL M cells M2 ys :=
 ⟨hb,Az.keep h.keep k (by omega) (by omega),k.shut _ _ _ _ (by have:=h.nx; omega) (by omega) h.row,Nat.le_trans h.nx k.next⟩
end
section
variable {B:Base}
def Lx (B:Base) (c:ak) : Prop:=∀ {M:RM} {cs:List AV} {L:Ln} {k:Int} {S:Nat→Prop} {Q:ai},M.base=B→gF.rel M cs (L,k) S→LB 1000000000 L→(bE L).length≤140737488355328→(∀ M',ah [] M M'→Q (St (bE L)) M')→c [.agg cs] M Q
theorem Mh {TL TB TP T8:Nat} {cw cg cb ca cs:ak} (hw:qA TB T8 cw) (hg:qO cg) (hb:wW TB T8 cb) (ha:ND B ca) (hs:Am TB T8 cs) : Lx B fun args M Q=>∃ a0,args=[a0]∧qW TL TB cw cg TP cb ca cs a0 M Q:=by
 intro M cs L k S Q hM hrel hB hlen hQ
 obtain⟨v,rfl,hps⟩:=hrel
 simp only at hps
 refine⟨_,rfl, ?_⟩
 unfold qW
 simp only[dS]
 have hall:([St L.g,St L.n,v,St L.v,N .i64 k] : List AV).all oneCell=true:=by simp[gG,hps.one]
 rw[jL hall (by simp),bn,bn]
 have st0:uA TB T8 TL M [St L.g,St L.n,v,St L.v,N .i64 k] ((M.push (.row [St L.g,St L.n,v,St L.v,N .i64 k] false TL 0)).push (.row [.sc (.pointer none),aH] false TB 0)) [] :=
  ⟨mJ.new (RM.aY _) (by omega) (by rw[dK,dK]; omega),((ah.refl _ _).push _).push _,iI (RM.aY _) (by rw[dK]; omega),by rw[dK,dK]; omega⟩
 rw[dK]
 generalize (M.push (.row [St L.g,St L.n,v,St L.v,N .i64 k] false TL 0)).push (.row [.sc (.pointer none),aH] false TB 0)=M1 at *
 have hbase:∀ {M' : RM},ah [] M M'→M'.base=B:=fun h=>h.base.trans hM
 have hW:(bE L).length=(kG L).length + ((L.n.map dU).length + (L.ps.flatMap dH).length) + 1 + L.v.length:=by
  unfold bE l5; simp only[List.length_append,List.length_cons,List.length_nil]
 refine bY (fun _ M'=>uA TB T8 TL M [St L.g,St L.n,v,St L.v,N .i64 k] M' (kG L)) ?_ ?_
 rotate_left
 ·intro J hJ
  rw[aX,ax st0.row rfl,jR]
  refine bU (fun hc=>?_) (fun hc=>?_)
  ·have hne:L.g≠[]:=by simpa using hc
   have hgl:=hB.g
   have hgj:kG L=L.g++[46]:=if_neg hne
   rw[aX,ax st0.row rfl,dG]
   refine⟨by simp; omega, ?_⟩
   refine hw st0.bld (by simp; omega) fun M2 b2 k2=>?_
   refine hJ _ _ ?_
   rw[hgj]
   exact st0.write b2 k2
  ·have he:L.g=[]:=by simpa using hc
   refine hJ _ _ ?_
   have hgj:kG L=[]:=if_pos he
   rw[hgj]
   exact st0
 clear st0
 clear M1
 rintro _ M2 st2
 rw[aX,ax st2.row rfl]
 refine hg hB.n fun M3 k3=>?_
 have st3:=st2.more k3
 refine hw st3.bld (by omega) fun M4 b4 k4=>?_
 have st4:=st3.write b4 k4
 clear st2 st3 b4 k4 k3
 have OW:df iT M4 v L.ps S:=hps.keep st4.keep (by simp)
 rw[aX,ax st4.row rfl,OW.len]
 generalize hWd:kG L++l5 L=W
 have hWl:W.length=(kG L).length + ((L.n.map dU).length + (L.ps.flatMap dH).length):=by
  rw[← hWd]; unfold l5; simp only[List.length_append]
 have TY:=hB.ps
 refine aS (fun m ys M5=>∃ (i:Nat) (xs:List UInt8),m=L.ps.length - i∧ys=[N .i64 (i:Int)]∧i≤L.ps.length∧uA TB T8 TL M [St L.g,St L.n,v,St L.v,N .i64 k] M5 xs∧xs++(L.ps.drop i).flatMap dH=W) L.ps.length
  ⟨0,_,rfl,rfl,Nat.zero_le _,st4,by rw[← hWd]; unfold l5; rw[List.drop_zero,List.append_assoc]⟩ ?_
 rintro next m ys M5 hnext ⟨i,xs,rfl,rfl,hi,st5,hx⟩
 dsimp only[ae]
 rw[rC]
 refine bU (fun hlt=>?_) (fun hge=>?_)
 ·have hlt:i<L.ps.length:=of_decide_eq_true hlt
  have EA:df iT M5 v L.ps (fun b=>S b∧b<M.next):=hps.lt.keep st5.keep (by simp)
  obtain⟨pv,hpv,hall⟩:=JB EA hlt
  have hmem:=List.getElem_mem hlt
  have b1:=hB.pn _ hmem
  have b2:=hB.pl _ hmem
  have b3:=hB.pv _ hmem
  rw[List.drop_eq_getElem_cons hlt,List.flatMap_cons] at hx
  generalize L.ps[i]=p at *
  rw[hall,bn,eH (n:=2) (RM.aY _) rfl rfl (by simp[gG,AV.cells,hpv.one])]
  have k6:ah [] M5 ((M5.push (.row [St [],aH] false TP 0)).put M5.next (.row (AV.agg [St p.1,pv]).cells false TP 0)):=((ah.refl _ _).push _).put _ (.inl (Nat.le_refl _))
  have h6:((M5.push (.row [St [],aH] false TP 0)).put M5.next (.row (AV.agg [St p.1,pv]).cells false TP 0)).heap M5.next=some (.row [St p.1,pv] false TP 0):=aV _
  have n6:((M5.push (.row [St [],aH] false TP 0)).put M5.next (.row (AV.agg [St p.1,pv]).cells false TP 0)).next=M5.next + 1:=rfl
  generalize (M5.push (.row [St [],aH] false TP 0)).put M5.next (.row (AV.agg [St p.1,pv]).cells false TP 0)=M6 at *
  have st6:=st5.more k6
  have nx5:=st5.nx
  have hpj:dH p=[59]++p.1.map dU++[61]++gu p.2:=rfl
  have hxl:=CQ hx
  rw[hpj] at hxl
  simp only[List.length_append,List.length_cons,List.length_nil] at hxl
  rw[aX,ax h6 rfl]
  refine hg b1 fun M7 k7=>?_
  have st7:=st6.more k7
  have h7:=k7.aG h6 (by omega) (by simp)
  have n7:=k7.next
  rw[dG]
  refine⟨by simp; omega, ?_⟩
  rw[dG]
  refine⟨by simp; omega, ?_⟩
  refine hw st7.bld (by simp only[List.length_append,List.length_cons,List.length_nil]; omega) fun M8 b8 k8=>?_
  have st8:=st7.write b8 k8
  have h8:=k8.shut _ _ _ _ (by omega) (by omega) h7
  have Rb:df fZ.kV M8 pv p.2 (fun b=>S b∧b<M.next):=df.old hpv (fun b h=>h.2) st5.keep st8.keep (by have:=k6.next; have:=k8.next; omega)
  rw[aX,ax h8 rfl,Rb.len]
  generalize hrest:(L.ps.drop (i + 1)).flatMap dH=rest at *
  refine aS (fun m ys M9=>∃ (j:Nat) (zs:List UInt8),m=p.2.length - j∧ys=[N .i64 (j:Int)]∧j≤p.2.length∧uA TB T8 TL M [St L.g,St L.n,v,St L.v,N .i64 k] M9 zs∧M8.next≤M9.next∧zs++(qb j p.2++rest)=W) p.2.length
   ⟨0,_,rfl,rfl,Nat.zero_le _,st8,Nat.le_refl _, ?_⟩ ?_
  ·rw[← hx,hpj]
   simp only[List.append_assoc,qb,if_true]
  rintro wV m ys M9 iF ⟨j,zs,rfl,rfl,hj,st9,n9,hz⟩
  dsimp only[ae]
  rw[rC]
  refine bU (fun hlt2=>?_) (fun pz=>?_)
  ·have hlt2:j<p.2.length:=of_decide_eq_true hlt2
   have LF:df fZ.kV M9 pv p.2 (fun b=>S b∧b<M.next):=df.old Rb (fun b h=>h.2) st8.keep st9.keep n9
   rw[Cz hlt2] at hz
   have b4:=b3 _ (List.getElem_mem hlt2)
   have hzl:=CQ hz
   simp only[List.length_append] at hzl
   refine bY (fun _ M'=>uA TB T8 TL M [St L.g,St L.n,v,St L.v,N .i64 k] M' (zs++((if 0<j then[44] else[])++qv p.2[j]))∧M9.next≤M'.next) ?_ ?_
   ·rintro _ Ma ⟨sta,na⟩
    rw[add1 (by omega)]
    refine iF _ _ _ (by omega) ⟨j + 1,_,rfl,rfl,by omega,sta,by omega, ?_⟩
    rw[← hz]
    simp only[List.append_assoc]
   intro J hJ
   rw[Gl LF.sl hlt2]
   generalize p.2[j]=x at *
   refine bY (fun _ M'=>uA TB T8 TL M [St L.g,St L.n,v,St L.v,N .i64 k] M' (zs++(if 0<j then[44] else[]))∧M9.next≤M'.next) ?_ ?_
   ·rintro _ Ma ⟨sta,na⟩
    refine bY (fun ys M'=>ys=[St (qv x)]∧uA TB T8 TL M [St L.g,St L.n,v,St L.v,N .i64 k] M' (zs++(if 0<j then[44] else[]))∧M9.next≤M'.next) ?_ ?_
    ·rintro _ Mb ⟨rfl,stb,nb⟩
     dsimp only[ae]
     refine hw stb.bld (by rw[List.length_append]; omega) fun Mc bc kc=>?_
     refine hJ _ _ ⟨?_,Nat.le_trans nb kc.next⟩
     rw[← List.append_assoc]
     exact stb.write bc kc
    intro J2 hJ2
    refine ha (hbase sta.keep) b4 fun Mb kb=>?_
    have stb:=sta.more kb
    have nb:=Nat.le_trans na kb.next
    refine bU (fun hh=>?_) (fun hh=>?_)
    ·rw[dG]
     refine⟨by simp; omega, ?_⟩
     rw[dG]
     refine⟨by simp; omega, ?_⟩
     exact hJ2 _ _ ⟨by rw[qv,if_pos hh],stb,nb⟩
    ·exact hJ2 _ _ ⟨by rw[qv,if_neg (by rw[hh]; simp)],stb,nb⟩
   intro J2 hJ2
   rw[show(N .i64 (0:Int))=N .i64 ((0:Nat) : Int) from rfl,yA]
   refine bU (fun hh=>?_) (fun hh=>?_)
   ·have hh:0<j:=of_decide_eq_true hh
    rw[if_pos hh] at hzl hJ2
    simp only[List.length_cons,List.length_nil] at hzl
    show cb [.ptr (M.next + 1) 0,By 44] M9 _
    refine hb st9.bld (by omega) fun Mb bb kb=>?_
    refine hJ2 _ _ ⟨?_,kb.next⟩
    exact st9.write bb kb
   ·have hh:¬ 0<j:=of_decide_eq_false hh
    refine hJ2 _ _ ⟨?_,Nat.le_refl _⟩
    rw[if_neg hh,List.append_nil]; exact st9
  ·have he:j=p.2.length:=by
    have:¬ j<p.2.length:=of_decide_eq_false pz
    omega
   subst he
   rw[Fp,List.nil_append] at hz
   rw[add1 (by omega)]
   exact hnext _ _ _ (by omega) ⟨i + 1,zs,rfl,rfl,by omega,st9,by rw[hrest]; exact hz⟩
 ·have he:i=L.ps.length:=by
   have:¬ i<L.ps.length:=of_decide_eq_false hge
   omega
  subst he
  rw[List.drop_length,List.flatMap_nil,List.append_nil] at hx
  subst hx
  rw[aX,ax st5.row rfl]
  refine hs st5.bld (by omega) fun M6 k6=>?_
  have h6:M6.heap M.next=some (.row [St L.g,St L.n,v,St L.v,N .i64 k] false TL 0):=by rw[k6.heap _ (by omega) (by simp)]; exact st5.row
  rw[ax h6 rfl]
  refine⟨rfl, ?_⟩
  rw[dG]
  refine⟨by simp; omega, ?_⟩
  rw[dG]
  refine⟨by simp; omega, ?_⟩
  have kk:ah [] M M6:=⟨k6.base.trans st5.keep.base,Nat.le_trans st5.keep.next k6.next,fun c h1 _=>by rw[k6.heap c (by omega) (by simp)]; exact st5.keep.heap c h1 (by simp)⟩
  have:=hQ M6 kk
  unfold bE at this
  rw[hWd] at this
  exact this
end
def rE (f:List UInt8→List UInt8) (L:Ln) : List UInt8 × Int:=if iP f L then(if 912<(bE L).length then([],2) else(fo 0 (bE L)++[13,10],0)) else([],1)
def FU (L:Ln) : Bool:=match xE (bE L) with | some L'=>decide (L'=L) | none=>false
def nP (L:Ln) : List UInt8 × Int:=if FU L then(if 912<(bE L).length then([],2) else(fo 0 (bE L)++[13,10],0)) else([],1)
section
variable {B:Base}
def H6 (B:Base) (F:Ln→List UInt8 × Int) (c:ak) : Prop:=∀ {M:RM} {cs:List AV} {L:Ln} {k:Int} {S:Nat→Prop} {Q:ai},M.base=B→gF.rel M cs (L,k) S→LB 1000000000 L→(bE L).length≤140737488355328→(∀ M',ah [] M M'→Q (.tup [St (F L).1,N .i64 (F L).2]) M')→c [.agg cs] M Q
theorem Kb (s:List UInt8) : (fo 0 s).length≤4 * s.length + 4:=by
 have:=yC s.length (u:=0) (s:=s) (Nat.le_refl _)
 omega
theorem Kh {f:List UInt8→List UInt8} {TL:Nat} {cg cl cf:ak} (hg:Hg B f cg) (hl:Lx B cl) (hf:MS B cf) : H6 B (rE f) fun args M Q=>∃ a0,args=[a0]∧pI TL cg cl cf a0 M Q:=by
 intro M cs L k S Q hM hrel hB hlen hQ
 refine⟨_,rfl, ?_⟩
 unfold pI
 have hsz:cs.length=5:=gF.len hrel
 rw[jL (gF.one hrel) (by omega),bn]
 have k1:ah [] M (M.push (.row cs false TL 0)):=(ah.refl _ _).push _
 have h1:(M.push (.row cs false TL 0)).heap M.next=some (.row cs false TL 0):=RM.aY _
 have n1:(M.push (.row cs false TL 0)).next=M.next + 1:=dK _
 generalize M.push (.row cs false TL 0)=M1 at *
 unfold rE at hQ
 rw[dN (n:=5) h1 hsz]
 refine hg (k1.base.trans hM) (gF.keep hrel k1 (by simp)) hB fun M2 k2=>?_
 have k12:=k1.trans k2
 have h2:=k2.aG h1 (by omega) (by simp)
 rw[dh]
 refine bU (fun hc=>?_) (fun hc=>?_)
 ·have hc:iP f L=false:=by simpa using hc
  rw[if_neg (by rw[hc]; simp)] at hQ
  exact hQ M2 k12
 have hc:iP f L=true:=by simpa using hc
 rw[if_pos hc] at hQ
 rw[dN (n:=5) h2 hsz]
 refine hl (k12.base.trans hM) (gF.keep hrel k12 (by simp)) hB hlen fun M3 k3=>?_
 have k13:=k12.trans k3
 rw[bB,show(N .i64 (912:Int))=N .i64 ((912:Nat) : Int) from rfl,yA]
 refine bU (fun hc=>?_) (fun hc=>?_)
 ·rw[if_pos (of_decide_eq_true hc)] at hQ
  exact hQ M3 k13
 have hc:=of_decide_eq_false hc
 rw[if_neg (by omega)] at hQ
 refine hf (k13.base.trans hM) (by omega) fun M4 k4=>?_
 rw[dG]
 have:=Kb (bE L)
 exact⟨by simp; omega,hQ M4 (k13.trans k4)⟩
theorem BR {M:RM} {v:AV} {ps:List jr} {S:Nat→Prop} (h:df iT M v ps S) {i:Nat} (hi:i<ps.length) : ∃ pv,df fZ.kV M pv ps[i].2 S∧(∀ K:AV→Prop,(bN v (N .i64 (i:Int)) 2 fun p=>aF p 0 fun q=>av M q K)=K (St ps[i].1)) ∧
  (∀ K:AV→Prop,(bN v (N .i64 (i:Int)) 2 fun p=>aF p 1 fun q=>av M q K)=K pv):=by
 obtain⟨b,o,cs,hb,hbm,hidx,hld,hrel⟩:=df.at h 2 (i:Int) hi
 obtain⟨ds,rfl,pv,rfl,hpv⟩:=hrel
 have c0:M.cell b (o + 0)=some (St ps[i].1):=fe hld (j:=0) rfl
 have c1:M.cell b (o + 1)=some pv:=fe hld (j:=1) rfl
 refine⟨pv,hpv,fun K=>?_,fun K=>?_⟩
 ·rw[hidx,eT,cZ,c0]; simp
 ·rw[hidx,eT,cZ,c1]; simp
def KT (c:ak) : Prop:=∀ {M:RM} {cs:List AV} {L:Ln} {k:Int} {S:Nat→Prop} {Q:ai},gF.rel M cs (L,k) S→LB 1000000000 L→(bE L).length≤140737488355328→(∀ M',ah [] M M'→Q (St (L.ps.flatMap dH)) M')→c [.agg cs,Bo true,St fA] M Q
theorem MF {TL:Nat} {cu ch:ak} (hu:qO cu) (hh:Oe ch) : KT fun args M Q=>∃ a0 a1 a2,args=[a0,a1,a2]∧nK TL cu ch a0 a1 a2 M Q:=by
 intro M cs L k S Q hrel hB hlen hQ
 obtain⟨v,rfl,hps⟩:=hrel
 simp only at hps
 refine⟨_,_,_,rfl, ?_⟩
 unfold nK
 simp only[dS]
 have hall:([St L.g,St L.n,v,St L.v,N .i64 k] : List AV).all oneCell=true:=by simp[gG,hps.one]
 rw[jL hall (by simp),bn]
 have k1:ah [] M (M.push (.row [St L.g,St L.n,v,St L.v,N .i64 k] false TL 0)):=(ah.refl _ _).push _
 have h1:(M.push (.row [St L.g,St L.n,v,St L.v,N .i64 k] false TL 0)).heap M.next=some (.row [St L.g,St L.n,v,St L.v,N .i64 k] false TL 0):=RM.aY _
 have n1:(M.push (.row [St L.g,St L.n,v,St L.v,N .i64 k] false TL 0)).next=M.next + 1:=dK _
 generalize M.push (.row [St L.g,St L.n,v,St L.v,N .i64 k] false TL 0)=M1 at *
 have Ep:df iT M1 v L.ps S:=hps.keep k1 (by simp)
 have TY:=hB.ps
 have hPl:(L.ps.flatMap dH).length≤140737488355328:=by
  unfold bE l5 at hlen; simp only[List.length_append] at hlen; omega
 generalize hP:L.ps.flatMap dH=P at *
 refine aS (fun m ys M5=>∃ (i:Nat) (xs:List UInt8),m=L.ps.length - i∧ys=[St xs,N .i64 (i:Int)]∧i≤L.ps.length∧ah [] M1 M5∧xs++(L.ps.drop i).flatMap dH=P) L.ps.length
  ⟨0,[],rfl,rfl,Nat.zero_le _,ah.refl _ _,by rw[List.drop_zero,List.nil_append]; exact hP⟩ ?_
 rintro next m ys M5 hnext ⟨i,xs,rfl,rfl,hi,k5,hx⟩
 dsimp only[ae]
 have h5:=k5.aG h1 (by omega) (by simp)
 have EA:=Ep.keep k5 (by simp)
 rw[aX,ax h5 rfl,EA.len,rC]
 refine bU (fun hlt=>?_) (fun hge=>?_)
 ·have hlt:i<L.ps.length:=of_decide_eq_true hlt
  have hmem:=List.getElem_mem hlt
  have b1:=hB.pn _ hmem
  have b2:=hB.pl _ hmem
  have b3:=hB.pv _ hmem
  rw[List.drop_eq_getElem_cons hlt,List.flatMap_cons] at hx
  have hpj:dH L.ps[i]=[59]++L.ps[i].1.map dU++[61]++gu L.ps[i].2:=rfl
  have hxl:=CQ hx
  rw[hpj] at hxl
  simp only[List.length_append,List.length_cons,List.length_nil] at hxl
  generalize hrest:(L.ps.drop (i + 1)).flatMap dH=rest at *
  refine bY (fun ys M'=>∃ zs,ys=[St zs]∧ah [] M1 M'∧zs++rest=P) ?_ ?_
  ·rintro _ M6 ⟨zs,rfl,k6,hz⟩
   dsimp only[ae]
   rw[add1 (by omega)]
   exact hnext _ _ _ (by omega) ⟨i + 1,zs,rfl,rfl,by omega,k6,by rw[hrest]; exact hz⟩
  intro J hJ
  obtain⟨pv,hpv,hf0,hf1⟩:=BR EA hlt
  rw[aX,ax h5 rfl,hf0]
  refine bY (fun ys M'=>ys=[St (L.ps[i].1.map dU)]∧ah [] M1 M') ?_ ?_
  ·rintro _ M6 ⟨rfl,k6⟩
   dsimp only[ae]
   rw[dG]
   refine⟨by simp; omega, ?_⟩
   rw[dG]
   refine⟨by simp; omega, ?_⟩
   rw[dG]
   refine⟨by simp; omega, ?_⟩
   refine aS (fun m ys M9=>∃ (j:Nat) (zs:List UInt8),m=L.ps[i].2.length - j∧ys=[St zs,N .i64 (j:Int)]∧j≤L.ps[i].2.length∧ah [] M1 M9∧zs++(qb j L.ps[i].2++rest)=P) L.ps[i].2.length
    ⟨0,_,rfl,rfl,Nat.zero_le _,k6, ?_⟩ ?_
   ·rw[← hx,hpj]
    simp only[List.append_assoc,qb,if_true]
   rintro wV m ys M9 iF ⟨j,zs,rfl,rfl,hj,k9,hz⟩
   dsimp only[ae]
   have h9:=k9.aG h1 (by omega) (by simp)
   have UB:=Ep.keep k9 (by simp)
   obtain⟨pv9,LF,hf09,Rs⟩:=BR UB hlt
   rw[aX,ax h9 rfl,Rs,LF.len,rC]
   refine bU (fun hlt2=>?_) (fun pz=>?_)
   ·have hlt2:j<L.ps[i].2.length:=of_decide_eq_true hlt2
    rw[Cz hlt2] at hz
    have b4:=b3 _ (List.getElem_mem hlt2)
    have hzl:=CQ hz
    simp only[List.length_append] at hzl
    refine bY (fun ys M'=>ys=[St (zs++((if 0<j then[44] else[])++qv L.ps[i].2[j]))]∧ah [] M1 M') ?_ ?_
    ·rintro _ Ma ⟨rfl,ka⟩
     dsimp only[ae]
     rw[add1 (by omega)]
     refine iF _ _ _ (by omega) ⟨j + 1,_,rfl,rfl,by omega,ka, ?_⟩
     rw[← hz]
     simp only[List.append_assoc]
    intro J3 hJ3
    rw[aX,ax h9 rfl,Rs,Gl LF.sl hlt2]
    generalize L.ps[i].2[j]=x at *
    refine bY (fun ys M'=>ys=[St (zs++(if 0<j then[44] else[]))]∧M'=M9) ?_ ?_
    ·rintro _ Ma ⟨rfl,rfl⟩
     dsimp only[ae]
     refine bY (fun ys M'=>ys=[St (qv x)]∧M'=Ma) ?_ ?_
     ·rintro _ Mb ⟨rfl,rfl⟩
      dsimp only[ae]
      rw[dG]
      refine⟨by simp only[List.length_append]; omega, ?_⟩
      exact hJ3 _ _ ⟨by rw[List.append_assoc],k9⟩
     intro J2 hJ2
     refine hh b4 ?_
     refine bU (fun hm=>?_) (fun hm=>?_)
     ·rw[dG]
      refine⟨by simp; omega, ?_⟩
      rw[dG]
      refine⟨by simp; omega, ?_⟩
      exact hJ2 _ _ ⟨by rw[qv,if_pos hm],rfl⟩
     ·exact hJ2 _ _ ⟨by rw[qv,if_neg (by rw[hm]; simp)],rfl⟩
    intro J2 hJ2
    rw[show(N .i64 (0:Int))=N .i64 ((0:Nat) : Int) from rfl,yA]
    refine bU (fun hm=>?_) (fun hm=>?_)
    ·have hm:0<j:=of_decide_eq_true hm
     rw[if_pos hm] at hzl hJ2
     simp only[List.length_cons,List.length_nil] at hzl
     rw[dG]
     refine⟨by simp; omega, ?_⟩
     exact hJ2 _ _ ⟨rfl,rfl⟩
    ·have hm:¬ 0<j:=of_decide_eq_false hm
     refine hJ2 _ _ ⟨?_,rfl⟩
     rw[if_neg hm,List.append_nil]
   ·have he:j=L.ps[i].2.length:=by
     have:¬ j<L.ps[i].2.length:=of_decide_eq_false pz
     omega
    subst he
    rw[Fp,List.nil_append] at hz
    exact hJ _ _ ⟨zs,rfl,k9,hz⟩
  intro J2 hJ2
  rw[bf]
  refine hu b1 fun M6 k6=>?_
  exact hJ2 _ _ ⟨rfl,k5.trans k6⟩
 ·have he:i=L.ps.length:=by
   have:¬ i<L.ps.length:=of_decide_eq_false hge
   omega
  subst he
  rw[List.drop_length,List.flatMap_nil,List.append_nil] at hx
  subst hx
  exact hQ M5 (k1.trans k5)
theorem Md {s:List UInt8} {L:Ln} {N:Nat} (hN:s.length≤N) (h:xE s=some L) : Small N L:=Bv hN (by rw[Em]; exact h)
theorem FI {TL:Nat} {cu cp cr cs' cf:ak} (hu:qO cu) (hp:KT cp) (hr:O1 cr) (hs:F8 cs') (hf:KU cf) {M:RM} {cs:List AV} {L:Ln} {k:Int} {S:Nat→Prop} {Q:ai} (hrel:gF.rel M cs (L,k) S) (hB:LB 1000000000 L) (hlen:(bE L).length≤1000000000)
  (hv:L.v.length≤100000) (hQ:∀ M',ah [] M M'→Q (.tup [St (nP L).1,N .i64 (nP L).2]) M') : pu TL cu cp cr cs' cf (.agg cs) M Q:=by
 have sD:=hrel
 obtain⟨v,rfl,hps⟩:=hrel
 unfold pu
 simp only[dS,eu]
 have hall:([St L.g,St L.n,v,St L.v,N .i64 k] : List AV).all oneCell=true:=gF.one sD
 rw[jL hall (by simp),bn]
 have k1:ah [] M (M.push (.row [St L.g,St L.n,v,St L.v,N .i64 k] false TL 0)):=(ah.refl _ _).push _
 have h1:(M.push (.row [St L.g,St L.n,v,St L.v,N .i64 k] false TL 0)).heap M.next=some (.row [St L.g,St L.n,v,St L.v,N .i64 k] false TL 0):=RM.aY _
 have n1:(M.push (.row [St L.g,St L.n,v,St L.v,N .i64 k] false TL 0)).next=M.next + 1:=dK _
 generalize M.push (.row [St L.g,St L.n,v,St L.v,N .i64 k] false TL 0)=M1 at *
 have hW:(bE L).length=(kG L).length + ((L.n.map dU).length + (L.ps.flatMap dH).length) + 1 + L.v.length:=by
  unfold bE l5; simp only[List.length_append,List.length_cons,List.length_nil]
 rw[aX,ax h1 rfl,dN (n:=5) h1 rfl,aX,ax h1 rfl]
 refine hu hB.n fun M2 k2=>?_
 have h2:=k2.aG h1 (by omega) (by simp)
 have k12:=k1.trans k2
 rw[dN (n:=5) h2 rfl]
 refine⟨rfl, ?_⟩
 rw[ax h2 rfl]
 refine⟨rfl, ?_⟩
 refine hp (gF.keep sD k12 (by simp)) hB (by omega) fun M3 k3=>?_
 have k13:=k12.trans k3
 have h3:=k3.aG h2 (by have:=k2.next; omega) (by simp)
 rw[ax h3 rfl]
 refine⟨rfl, ?_⟩
 rw[dG]
 refine⟨by simp only[List.length_append] at *; omega, ?_⟩
 rw[dG]
 refine⟨by simp only[List.length_append,List.length_cons,List.length_nil] at *; omega, ?_⟩
 rw[dG]
 refine⟨by simp only[List.length_append,List.length_cons,List.length_nil] at *; omega, ?_⟩
 have n3:M.next<M3.next:=by have:=k2.next; have:=k3.next; omega
 refine bY (fun ys M'=>ys=[St (bE L)]∧M'=M3) ?_ ?_
 rotate_left
 ·intro J hJ
  have hL:bE L=kG L++(L.n.map dU++L.ps.flatMap dH++[58]++L.v):=by unfold bE l5; simp only[List.append_assoc]
  rw[aX,ax h3 rfl,jR]
  refine bU (fun hc=>?_) (fun hc=>?_)
  ·have hne:L.g≠[]:=by simpa using hc
   have hgj:kG L=L.g++[46]:=if_neg hne
   have hgl:=hB.g
   rw[aX,ax h3 rfl,dG]
   refine⟨by simp; omega, ?_⟩
   rw[dG]
   refine⟨by rw[hgj] at hW; simp only[List.length_append,List.length_cons,List.length_nil] at *; omega, ?_⟩
   refine hJ _ _ ⟨?_,rfl⟩
   rw[hL,hgj]
  ·have he:L.g=[]:=by simpa using hc
   have hgj:kG L=[]:=if_pos he
   refine hJ _ _ ⟨?_,rfl⟩
   rw[hL,hgj,List.nil_append]
 rintro _ M4 ⟨rfl,rfl⟩
 dsimp only[ae]
 rw[aX,ax h3 rfl,bB,show(N .i64 (100000:Int))=N .i64 ((100000:Nat) : Int) from rfl,yA,decide_eq_false (by omega),bI]
 unfold nP FU at hQ
 have fin:∀ {M5:RM},ah [] M M5→(∀ M',ah [] M M'→Q (.tup [St (if 912<(bE L).length then(([],2) : List UInt8 × Int) else(fo 0 (bE L)++[13,10],0)).1,N .i64 (if 912<(bE L).length then(([],2) : List UInt8 × Int) else(fo 0 (bE L)++[13,10],0)).2]) M') →
   (aP (St (bE L)) fun t43=>ag .gtr t43 (N .i64 912) fun t44=>aj t44 (Q (.tup [(St []),(N .i64 2)]) M5) (cf [St (bE L)] M5 fun t46 Uu=>bF .add t46 (St [13,10]) fun t47=>Q (.tup [t47,(N .i64 0)]) Uu)):=by
  intro M5 k5 hq
  rw[bB,show(N .i64 (912:Int))=N .i64 ((912:Nat) : Int) from rfl,yA]
  refine bU (fun hc=>?_) (fun hc=>?_)
  ·rw[if_pos (of_decide_eq_true hc)] at hq
   exact hq M5 k5
  have hc:=of_decide_eq_false hc
  rw[if_neg (by omega)] at hq
  refine hf (by omega) fun M6 k6=>?_
  rw[dG]
  have:=Kb (bE L)
  exact⟨by simp; omega,hq M6 (k5.trans k6)⟩
 refine hr (by omega) (fun cs5 M5 k5 hno hl5 ha5=>?_) (fun cs5 M5 L5 k5 hso Lc=>?_)
 ·rw[jy,jv,bn,eH (n:=5) (x:=.agg cs5) (RM.aY _) hl5 rfl ha5,dh,Bool.not_false]
  have k6:ah [] M5 ((M5.push (.row [St [],St [],aH,St [],N .i64 0] false TL 0)).put M5.next (.row (AV.agg cs5).cells false TL 0)):=((ah.refl _ _).push _).put _ (.inl (Nat.le_refl _))
  rw[hno] at hQ
  refine Gp (p:=true) (P:=fun M'=>ah [] M M') ((k13.trans k5).trans k6) (fun h=>by cases h) (fun M7 k7=>?_)
  rw[Bool.true_or,bf]
  exact hQ M7 k7
 ·have hl5:cs5.length=5:=gF.len Lc
  rw[jy,jv,bn,eH (n:=5) (x:=.agg cs5) (RM.aY _) hl5 rfl (gF.one Lc),dh,Bool.not_true]
  have k6:ah [] M5 ((M5.push (.row [St [],St [],aH,St [],N .i64 0] false TL 0)).put M5.next (.row (AV.agg cs5).cells false TL 0)):=((ah.refl _ _).push _).put _ (.inl (Nat.le_refl _))
  have h6:((M5.push (.row [St [],St [],aH,St [],N .i64 0] false TL 0)).put M5.next (.row (AV.agg cs5).cells false TL 0)).heap M5.next=some (.row cs5 false TL 0):=aV _
  have n6:((M5.push (.row [St [],St [],aH,St [],N .i64 0] false TL 0)).put M5.next (.row (AV.agg cs5).cells false TL 0)).next=M5.next + 1:=rfl
  generalize (M5.push (.row [St [],St [],aH,St [],N .i64 0] false TL 0)).put M5.next (.row (AV.agg cs5).cells false TL 0)=M6 at *
  rw[hso] at hQ
  dsimp only at hQ
  have k16:=(k13.trans k5).trans k6
  have h16:=k6.aG (k5.aG h3 (by omega) (by simp)) (by have:=k5.next; omega) (by simp)
  obtain⟨sm1,sm2⟩:=Md (Nat.le_refl _) hso
  refine Gp (p:=!decide (L5=L)) (P:=fun M'=>ah [] M M') k16 (fun _ kk hkk=>?_) (fun M7 k7=>?_)
  ·rw[dN (n:=5) h6 hl5,dN (n:=5) h16 rfl]
   refine hs (gF.keep Lc k6 (by simp)) (gF.keep sD k16 (by simp)) (by omega) (fun p hp=>by have:=sm2 p hp; omega) fun M7 k7=>?_
   rw[dh]
   exact hkk _ (k16.trans k7)
  rw[Bool.false_or]
  refine bU (fun hc=>?_) (fun hc=>?_)
  ·have hc:decide (L5=L)=false:=by simpa using hc
   rw[if_neg (by rw[hc]; simp)] at hQ
   exact hQ M7 k7
  ·have hc:decide (L5=L)=true:=by simpa using hc
   rw[if_pos hc] at hQ
   exact fin k7 hQ
end
end Go.Ab.Vl
namespace Go.Ab.Vl
open Go Go.Ab
theorem iV {α:Type} {p:α→Bool} : ∀ {s:List α},s.dropWhile p=[]→∀ x∈s,p x=true
 | [],_,x,hx=>by cases hx
 | c :: s,h,x,hx=>by
   rw[List.dropWhile_cons] at h
   split at h
   ·rename_i hc
    rcases List.mem_cons.1 hx with rfl | hx
    ·exact hc
    ·exact iV h x hx
   ·cases h
theorem og {α:Type} {p:α→Bool} : ∀ {s t:List α} {y:α},s.dropWhile p=y :: t→p y=false
 | [],_,_,h=>by cases h
 | c :: s,t,y,h=>by
   rw[List.dropWhile_cons] at h
   split at h
   ·exact og h
   ·rename_i hc
    cases h; simpa using hc
theorem NL {s:List UInt8} (h:fJ s=[]) : ∀ c∈s,dF.contains c=true:=by
 unfold fJ Lib.trimS at h
 by_cases hr:s.reverse.dropWhile (dF.contains ·)=[]
 ·exact fun c hc=>iV hr c (by simpa using hc)
 ·exfalso
  obtain⟨y,t,e⟩ : ∃ y t,s.reverse.dropWhile (dF.contains ·)=y :: t:=by
   cases hd:s.reverse.dropWhile (dF.contains ·) with
   | nil=>exact absurd hd hr
   | cons y t=>exact⟨y,t,rfl⟩
  have hy:dF.contains y=false:=og e
  have h1:Lib.trimLeftS (Lib.trimRightS s dF) dF=[]∨Lib.trimRightS (Lib.trimLeftS s dF) dF=[]:=by
   first | exact .inl h | exact .inr h
  rcases h1 with h1 | h1
  ·have:=iV h1 y (by unfold Lib.trimRightS; rw[e]; simp)
   rw[hy] at this; cases this
  ·unfold Lib.trimRightS at h1
   have h1:=List.reverse_eq_nil_iff.1 h1
   have h2:=iV h1
   unfold Lib.trimLeftS at h2
   by_cases hl:s.dropWhile (dF.contains ·)=[]
   ·have:=iV hl y
    have hm:y∈s:=by
     have:y∈s.reverse.dropWhile (dF.contains ·):=by rw[e]; simp
     simpa using (List.dropWhile_sublist _).subset this
    rw[iV hl y hm] at hy; cases hy
   ·cases hd:s.dropWhile (dF.contains ·) with
    | nil=>exact hl hd
    | cons z u =>
      have h3:=h2 z (by rw[hd]; simp)
      rw[og hd] at h3; cases h3
theorem iY {s:List UInt8} (h:gq fJ s=true) : 1≤s.length∧s.length≤20∧∀ c∈s,dF.contains c=true:=by
 unfold gq at h
 simp only[Bool.and_eq_true,decide_eq_true_eq,beq_iff_eq] at h
 exact⟨h.1.1,h.1.2,NL h.2⟩
theorem iC (c:UInt8) (h:dF.contains c=true) : iZ c=true∧iZ (dU c)=true∧bW c=c∧bW (dU c)=c∧c.toNat<128∧(dU c).toNat<128∧bO (dU c)=true∧bO c=true:=by
 have key:∀ n:Fin 256,dF.contains (UInt8.ofNat n.val)=true→iZ (UInt8.ofNat n.val)=true∧iZ (dU (UInt8.ofNat n.val))=true∧bW (UInt8.ofNat n.val)=UInt8.ofNat n.val∧bW (dU (UInt8.ofNat n.val))=UInt8.ofNat n.val∧(UInt8.ofNat n.val).toNat<128∧(dU (UInt8.ofNat n.val)).toNat<128∧bO (dU (UInt8.ofNat n.val))=true∧bO (UInt8.ofNat n.val)=true:=by decide +kernel
 have:=key ⟨c.toNat,c.toNat_lt⟩
 simp only[UInt8.ofNat_toNat] at this
 exact this h
theorem GD {a b:List UInt8} (ha:∀ x∈a,iZ x=true) (hb:∀ x,b.head?=some x→iZ x=false) : wn (a++b)=a.length:=by
 unfold wn; rw[(fV ha hb).1]
theorem LY {n:List UInt8} (h:∀ c∈n,dF.contains c=true) : ∀ x∈n.map dU,iZ x=true:=by
 intro x hx
 obtain⟨c,hc,rfl⟩:=List.mem_map.1 hx
 exact(iC c (h c hc)).2.1
theorem LJ {n:List UInt8} (h:∀ c∈n,dF.contains c=true) : (n.map dU).map bW=n:=by
 rw[List.map_map]
 conv=>rhs; rw[← List.map_id n]
 exact List.map_congr_left fun c hc=>(iC c (h c hc)).2.2.2.1
theorem NY {n:List UInt8} (h:∀ c∈n,dF.contains c=true) : n.map bW=n:=by
 conv=>rhs; rw[← List.map_id n]
 exact List.map_congr_left fun c hc=>(iC c (h c hc)).2.2.1
theorem EI {s:List UInt8} (h1:1≤s.length) (h2:s.length≤20) : bad s.length=false:=by
 unfold bad
 rw[decide_eq_false (by omega),decide_eq_false (by omega)]; rfl
theorem Cr {v:List UInt8} (h:ji v=false) : (∀ c∈v,bO c=true∧c≠34)∧dJ v=true:=by
 unfold ji fu at h
 simp only[Bool.not_eq_false',Bool.and_eq_true,List.all_eq_true] at h
 refine⟨fun c hc=>?_,h.2⟩
 have:=h.1 c hc
 unfold okB at this
 simp only[Bool.and_eq_true,Bool.not_eq_true',decide_eq_false_iff_not,List.mem_singleton] at this
 exact this
theorem OC {c:UInt8} (h:c∈fA) : c=44∨c=59∨c=58:=by simpa [fA] using h
theorem JL {v R:List UInt8} (hv:ji v=false) {c:UInt8} {t:List UInt8} (hR:R=c :: t) (hc:c∈fA) : kN (qv v++R)=some (v,R):=by
 obtain⟨hp,_⟩:=Cr hv
 unfold kN qv
 cases hm:nk v with
 | true =>
   have e:[34]++v++[34]++R=34 :: (v++(34 :: R)):=by simp
   rw[if_pos rfl,e]
   have h1:=fV (p:=jE) (a:=v) (b:=34 :: R) (fun x hx=>by
    obtain⟨h1,h2⟩:=hp x hx
    unfold jE; rw[h1,Bool.and_true,bne_iff_ne]; exact h2) (fun x hx=>by
    simp only[List.head?_cons,Option.some.injEq] at hx
    subst hx; rfl)
   rw[if_pos (by rfl)]
   simp only[List.drop_succ_cons,List.drop_zero]
   rw[h1.1,h1.2,if_pos (by rfl)]
   rfl
 | false =>
   have e:(if false=true then[34]++v++[34] else v)=v:=if_neg (by simp)
   rw[e]
   have hnm:∀ x∈v,x ∉ fA:=by
    unfold nk at hm
    rw[List.any_eq_false] at hm
    exact fun x hx=>by simpa using hm x hx
   have h1:=fV (p:=j6) (a:=v) (b:=R) (fun x hx=>by
    obtain⟨h1,h2⟩:=hp x hx
    have h3:=hnm x hx
    simp only[fA,List.mem_cons,List.not_mem_nil,or_false,not_or] at h3
    unfold j6
    rw[h1]
    simp[h2,h3]) (fun x hx=>by
    rw[hR] at hx
    simp only[List.head?_cons,Option.some.injEq] at hx
    subst hx
    exact(CG hc).2.2)
   have h34:aK 34 (v++R)=false:=by
    cases v with
    | nil =>
      rw[hR]
      rcases OC hc with rfl | rfl | rfl <;> rfl
    | cons x v =>
      have:=(hp x (by simp)).2
      simp[aK,this]
   rw[h34,if_neg (by simp),h1.1,h1.2]
theorem CF:∀ (vs:List (List UInt8)) (v:List UInt8) (acc:List (List UInt8)) (k:Nat) {R:List UInt8} {c:UInt8} {t:List UInt8},ji v=false→(∀ w∈vs,ji w=false)→R=c :: t→(c=59∨c=58) →
  (qv v++(tailV vs++R)).length + 1≤k→iB k (qv v++(tailV vs++R)) acc=some (acc++(v :: vs),R)
 | [],v,acc,k,R,c,t,hv,hvs,hR,hc,hk=>by
   obtain⟨i,rfl⟩ : ∃ i,k=i + 1:=⟨k - 1,by omega⟩
   have hcm:c∈fA:=by rcases hc with rfl | rfl <;> simp[fA]
   have e:tailV []++R=R:=rfl
   rw[e,iB,JL hv hR hcm]
   have h44:aK 44 R=false:=by rw[hR]; rcases hc with rfl | rfl <;> rfl
   simp only[h44,Bool.false_eq_true,if_false]
 | w :: vs,v,acc,k,R,c,t,hv,hvs,hR,hc,hk=>by
   obtain⟨i,rfl⟩ : ∃ i,k=i + 1:=⟨k - 1,by omega⟩
   have e:tailV (w :: vs)++R=44 :: (qv w++(tailV vs++R)):=by simp[tailV]
   rw[e] at hk ⊢
   rw[iB,JL hv rfl (by simp[fA])]
   simp only[show aK 44 (44 :: (qv w++(tailV vs++R)))=true from rfl,if_true,List.drop_succ_cons,List.drop_zero]
   rw[CF vs w (acc++[v]) i (hvs w (by simp)) (fun x hx=>hvs x (by simp[hx])) hR hc (by simp only[List.length_append,List.length_cons] at hk ⊢; omega)]
   simp
theorem NH {vs:List (List UInt8)} (hne:vs≠[]) (hvs:∀ w∈vs,ji w=false) {R:List UInt8} {c:UInt8} {t:List UInt8} (hR:R=c :: t) (hc:c=59∨c=58) : C9 (gu vs++R)=some (vs,R):=by
 cases vs with
 | nil=>exact absurd rfl hne
 | cons v vs =>
   unfold C9
   have e:gu (v :: vs)++R=qv v++(tailV vs++R):=by simp[gu]
   rw[e,CF vs v [] _ (hvs v (by simp)) (fun x hx=>hvs x (by simp[hx])) hR hc (Nat.le_refl _)]
   rfl
theorem yZ {p:jr} (h:jf fJ p=true) : gq fJ p.1=true∧p.2≠[]∧∀ v∈p.2,ji v=false:=by
 unfold jf at h
 simp only[Bool.not_eq_true',Bool.or_eq_false_iff,decide_eq_false_iff_not,Bool.not_eq_false'] at h
 refine⟨h.1.1,fun e=>h.1.2 (by rw[e]; rfl),fun v hv=>?_⟩
 have:=h.2
 rw[List.any_eq_false] at this
 simpa using this v hv
theorem EW {ps:List jr} {Y:List UInt8} (hY:∃ t,Y=58 :: t) : ∃ c t,ps.flatMap dH++Y=c :: t∧(c=59∨c=58):=by
 cases ps with
 | nil=>obtain⟨t,rfl⟩:=hY; exact⟨58,t,rfl,.inr rfl⟩
 | cons p ps=>exact⟨59,p.1.map dU++61 :: (gu p.2++(ps.flatMap dH++Y)),by simp[dH],.inl rfl⟩
theorem Dt:∀ (ps:List jr) (acc:List jr) (k:Nat) {Y:List UInt8},(∀ p∈ps,jf fJ p=true)→(∃ t,Y=58 :: t)→(ps.flatMap dH++Y).length + 1≤k→iR k (ps.flatMap dH++Y) acc=some (acc++ps,Y)
 | [],acc,k,Y,hp,hY,hk=>by
   obtain⟨i,rfl⟩ : ∃ i,k=i + 1:=⟨k - 1,by omega⟩
   obtain⟨t,rfl⟩:=hY
   rw[List.flatMap_nil,List.nil_append,iR]
   rw[if_neg (by show ¬ (aK 59 (58 :: t))=true; simp[aK])]
   simp
 | p :: ps,acc,k,Y,hp,hY,hk=>by
   obtain⟨i,rfl⟩ : ∃ i,k=i + 1:=⟨k - 1,by omega⟩
   obtain⟨hn,hne,hvs⟩:=yZ (hp p (by simp))
   obtain⟨g1,g2,g3⟩:=iY hn
   obtain⟨c,t,hR,hc⟩:=EW (ps:=ps) hY
   have e:(p :: ps).flatMap dH++Y=59 :: (p.1.map dU++(61 :: (gu p.2++(ps.flatMap dH++Y)))):=by simp[dH]
   rw[e] at hk ⊢
   generalize hRe:ps.flatMap dH++Y=R at *
   have hw:wn (p.1.map dU++(61 :: (gu p.2++R)))=p.1.length:=by
    rw[GD (LY g3) (fun x hx=>by simp only[List.head?_cons,Option.some.injEq] at hx; subst hx; rfl),List.length_map]
   have hd:(p.1.map dU++(61 :: (gu p.2++R))).drop p.1.length=61 :: (gu p.2++R):=by
    rw[List.drop_left' (by simp)]
   have hd2:(p.1.map dU++(61 :: (gu p.2++R))).drop (p.1.length + 1)=gu p.2++R:=by
    rw[← List.drop_drop,hd]; rfl
   have hl:dB p.1.length (p.1.map dU++(61 :: (gu p.2++R)))=p.1:=by
    unfold dB
    rw[List.take_left' (by simp),LJ g3]
   rw[iR,if_pos (by rfl)]
   simp only[List.drop_succ_cons,List.drop_zero]
   rw[hw,EI g1 g2,if_neg (by simp),hd,if_pos (by rfl),hd2,NH hne hvs hR hc,hl]
   simp only
   rw[← hRe,Dt ps _ i (fun q hq=>hp q (by simp[hq])) hY (by rw[hRe]; simp only[List.length_append,List.length_cons] at hk ⊢; omega)]
   simp
theorem zY {L:Ln} (h:iP fJ L=true) : (L.g=[]∨gq fJ L.g=true)∧gq fJ L.n=true∧(∀ c∈L.v,bO c=true)∧dJ L.v=true∧∀ p∈L.ps,jf fJ p=true:=by
 unfold iP at h
 simp only[Bool.and_eq_true,Bool.not_eq_true',Bool.or_eq_false_iff,Bool.and_eq_false_iff,Bool.not_eq_false',bne_eq_false_iff_eq,List.all_eq_true] at h
 obtain⟨⟨⟨h1,h2⟩,h3⟩,h4⟩:=h
 unfold fu at h3
 simp only[Bool.and_eq_true,List.all_eq_true] at h3
 exact⟨h1,h2,fun c hc=>by have:=h3.1 c hc; rw[uG] at this; exact this,h3.2,h4⟩
theorem eG {a:List UInt8} (h:∀ c∈a,c.toNat<128) : dJ a=true:=by
 have:=oh a [] h
 rw[List.append_nil,mG] at this; exact this
theorem il {a b:List UInt8} (ha:dJ a=true) (hb:dJ b=true) : dJ (a++b)=true:=DN a.length (Nat.le_refl _) ha hb
theorem ME {v:List UInt8} (h:dJ v=true) : dJ (qv v)=true:=by
 unfold qv
 split
 ·exact il (il (eG (by decide)) h) (eG (by decide))
 ·exact h
theorem ES:∀ {vs:List (List UInt8)},(∀ v∈vs,dJ v=true)→dJ (tailV vs)=true
 | [],_=>mG
 | v :: vs,h=>by
   have e:tailV (v :: vs)=[44]++(qv v++tailV vs):=by simp[tailV]
   rw[e]
   exact il (eG (by decide)) (il (ME (h v (by simp))) (ES fun w hw=>h w (by simp[hw])))
theorem Mf {vs:List (List UInt8)} (h:∀ v∈vs,dJ v=true) : dJ (gu vs)=true:=by
 cases vs with
 | nil=>exact mG
 | cons v vs=>exact il (ME (h v (by simp))) (ES fun w hw=>h w (by simp[hw]))
theorem GQ {n:List UInt8} (h:∀ c∈n,dF.contains c=true) : ∀ x∈n.map dU,x.toNat<128:=by
 intro x hx
 obtain⟨c,hc,rfl⟩:=List.mem_map.1 hx
 exact(iC c (h c hc)).2.2.2.2.2.1
theorem OQ {p:jr} (h:jf fJ p=true) : dJ (dH p)=true:=by
 obtain⟨hn,_,hvs⟩:=yZ h
 obtain⟨_,_,g3⟩:=iY hn
 unfold dH
 exact il (il (il (eG (by decide)) (eG (GQ g3))) (eG (by decide))) (Mf fun v hv=>(Cr (hvs v hv)).2)
theorem Gh:∀ {ps:List jr},(∀ p∈ps,jf fJ p=true)→dJ (ps.flatMap dH)=true
 | [],_=>mG
 | p :: ps,h=>by
   rw[List.flatMap_cons]
   exact il (OQ (h p (by simp))) (Gh fun q hq=>h q (by simp[hq]))
theorem NR {L:Ln} (h:iP fJ L=true) : dJ (bE L)=true:=by
 obtain⟨h1,h2,h3,h4,h5⟩:=zY h
 obtain⟨_,_,g3⟩:=iY h2
 unfold bE l5
 refine il (il (il ?_ (il (eG (GQ g3)) (Gh h5))) (eG (by decide))) h4
 unfold kG
 split
 ·exact mG
 ·rename_i hne
  have hg:=h1.resolve_left hne
  exact il (eG fun c hc=>(iC c ((iY hg).2.2 c hc)).2.2.2.2.1) (eG (by decide))
theorem Gc {L:Ln} (h:iP fJ L=true) : xE (bE L)=some L:=by
 have hf:=NR h
 obtain⟨h1,h2,h3,h4,h5⟩:=zY h
 obtain⟨n1,n2,n3⟩:=iY h2
 unfold xE
 rw[hf,if_pos rfl]
 have hall:L.v.all bO=true:=by rw[List.all_eq_true]; exact h3
 obtain⟨c,t,hR,hc⟩:=EW (ps:=L.ps) (Y:=58 :: L.v) ⟨_,rfl⟩
 have hX:∀ x,(L.ps.flatMap dH++(58 :: L.v)).head?=some x→iZ x=false:=by
  intro x hx
  rw[hR] at hx
  simp only[List.head?_cons,Option.some.injEq] at hx
  subst hx
  rcases hc with rfl | rfl <;> rfl
 have hwn:wn (L.n.map dU++(L.ps.flatMap dH++(58 :: L.v)))=L.n.length:=by rw[GD (LY n3) hX,List.length_map]
 have hdr:(L.n.map dU++(L.ps.flatMap dH++(58 :: L.v))).drop L.n.length=L.ps.flatMap dH++(58 :: L.v):=List.drop_left' (by simp)
 have tail:∀ g,Ag g (L.n.map dU++(L.ps.flatMap dH++(58 :: L.v)))=some ⟨g,L.n,L.ps,L.v⟩:=by
  intro g
  unfold Ag
  rw[hwn,EI n1 n2,if_neg (by simp),hdr,Dt L.ps [] _ h5 ⟨_,rfl⟩ (Nat.le_refl _)]
  simp only[List.nil_append]
  rw[show aK 58 (58 :: L.v)=true from rfl,show(58 :: L.v).drop 1=L.v from rfl,hall,Bool.and_true,if_pos rfl]
  unfold dB
  rw[List.take_left' (by simp),LJ n3]
 have he:bE L=kG L++(L.n.map dU++(L.ps.flatMap dH++(58 :: L.v))):=by unfold bE l5; simp
 rw[he]
 by_cases hg:L.g=[]
 ·have hgj:kG L=[]:=if_pos hg
  rw[hgj,List.nil_append]
  unfold AJ
  have h46:aK 46 (L.ps.flatMap dH++(58 :: L.v))=false:=by rw[hR]; rcases hc with rfl | rfl <;> rfl
  rw[hwn,hdr,h46,if_neg (by simp)]
  simp only
  rw[tail,← hg]
 ·have hgn:=h1.resolve_left hg
  obtain⟨g1,g2,g3⟩:=iY hgn
  have hgj:kG L=L.g++[46]:=if_neg hg
  rw[hgj,List.append_assoc,List.singleton_append]
  have hwg:wn (L.g++(46 :: (L.n.map dU++(L.ps.flatMap dH++(58 :: L.v)))))=L.g.length:=GD (fun x hx=>(iC x (g3 x hx)).1) (fun x hx=>by simp only[List.head?_cons,Option.some.injEq] at hx; subst hx; rfl)
  have hd:(L.g++(46 :: (L.n.map dU++(L.ps.flatMap dH++(58 :: L.v))))).drop L.g.length=46 :: (L.n.map dU++(L.ps.flatMap dH++(58 :: L.v))):=List.drop_left' rfl
  have hd2:(L.g++(46 :: (L.n.map dU++(L.ps.flatMap dH++(58 :: L.v))))).drop (L.g.length + 1)=L.n.map dU++(L.ps.flatMap dH++(58 :: L.v)):=by rw[← List.drop_drop,hd]; rfl
  unfold AJ
  rw[hwg,hd,if_pos (by rfl),EI g1 g2,if_neg (by simp),hd2]
  simp only
  rw[tail]
  unfold dB
  rw[List.take_left' rfl,NY g3]
theorem Mx {s:List UInt8} (h:(iL s).2.2=true) : ji (iL s).1=false:=by
 unfold ji
 unfold iL at h ⊢
 split at h
 ·rename_i h34
  rw[if_pos h34]
  rcases qy 34 (s.drop 1) with⟨e,_⟩ | ⟨a,b,e,_,_,hn⟩
  ·rw[e] at h; cases h
  ·rw[e] at h ⊢
   simp only at h ⊢
   unfold fu at h ⊢
   simp only[Bool.and_eq_true,List.all_eq_true] at h
   rw[h.2,Bool.and_true,Bool.not_eq_false',List.all_eq_true]
   intro c hc
   have h1:=h.1 c hc
   rw[uG] at h1
   unfold okB
   rw[h1,Bool.true_and,Bool.not_eq_true',decide_eq_false_iff_not,List.mem_singleton]
   rintro rfl
   exact hn hc
 ·rename_i h34
  rw[if_neg h34]
  split at h
  ·cases h
  ·rename_i hi
   rw[if_neg hi]
   simp only at h ⊢
   rw[h]; rfl
theorem Db:∀ (k:Nat) (s:List UInt8) (acc vs:List (List UInt8)) (r:List UInt8),(∀ v∈acc,ji v=false)→gP k s acc=some (vs,r)→vs≠[]∧∀ v∈vs,ji v=false
 | 0,_,_,_,_,_,h=>by cases h
 | k + 1,s,acc,vs,r,ha,h=>by
   rw[gP] at h
   cases hv:iL (s.drop 1) with
   | mk v p =>
   obtain⟨after,ok⟩:=p
   rw[hv] at h
   simp only at h
   cases ok with
   | false=>simp at h
   | true =>
     have hb:ji v=false:=by
      have:=Mx (s:=s.drop 1) (by rw[hv])
      rw[hv] at this; exact this
     have ha' : ∀ w∈acc++[v],ji w=false:=fun w hw=>by
      rcases List.mem_append.1 hw with hw | hw
      ·exact ha w hw
      ·simp at hw; subst hw; exact hb
     simp only[if_true] at h
     split at h
     ·exact Db k _ _ _ _ ha' h
     ·cases h
      exact⟨by simp,ha'⟩
theorem EQ:∀ (k:Nat) (s:List UInt8) (acc ps:List jr) (r:List UInt8),(∀ p∈acc,jf fJ p=true)→kZ fJ k s acc=some (ps,r)→∀ p∈ps,jf fJ p=true
 | 0,_,_,_,_,_,h=>by cases h
 | k + 1,s,acc,ps,r,ha,h=>by
   rw[kZ] at h
   split at h
   ·split at h
    ·rename_i hg
     cases hv:gP ((s.drop 1).drop (wk (s.drop 1))).length ((s.drop 1).drop (wk (s.drop 1))) [] with
     | none=>rw[hv] at h; cases h
     | some x =>
       obtain⟨vs,s3⟩:=x
       rw[hv] at h
       simp only at h
       obtain⟨hne,hvs⟩:=Db _ _ _ _ _ (by simp) hv
       refine EQ k _ _ _ _ (fun p hp=>?_) h
       rcases List.mem_append.1 hp with hp | hp
       ·exact ha p hp
       ·simp only[List.mem_singleton] at hp
        subst hp
        rw[Bool.and_eq_true] at hg
        unfold jf
        have hl:¬ vs.length=0:=fun e=>hne (List.eq_nil_of_length_eq_zero e)
        have ha:vs.any ji=false:=by rw[List.any_eq_false]; exact fun v hv=>by rw[hvs v hv]; simp
        simp only[hg.1,ha,decide_eq_false hl]
        rfl
    ·cases h
   ·cases h; exact ha
theorem OY {s:List UInt8} {L:Ln} (h:xE s=some L) : iP fJ L=true:=by
 rw[← Em] at h
 unfold oz at h
 split at h
 ·cases hh:sI fJ s with
  | none=>rw[hh] at h; cases h
  | some x =>
    obtain⟨g,n,r⟩:=x
    rw[hh] at h
    simp only at h
    have hg:g=[]∨gq fJ g=true:=by
     unfold sI at hh
     split at hh
     ·split at hh
      ·rename_i hgn
       cases hh; exact .inr hgn
      ·cases hh
     ·cases hh; exact .inl rfl
    unfold AP at h
    cases hp:oD fJ r with
    | none=>rw[hp] at h; cases h
    | some y =>
      obtain⟨ps,q⟩:=y
      rw[hp] at h
      simp only at h
      split at h
      ·rename_i hc
       cases h
       have hps:=EQ _ _ _ _ _ (by simp) hp
       simp only[Bool.and_eq_true] at hc
       unfold iP
       simp only[hc.1.1,hc.2,Bool.not_true,Bool.or_false]
       rw[Bool.and_eq_true]
       refine⟨?_,by rw[List.all_eq_true]; exact hps⟩
       rcases hg with rfl | hg
       ·rfl
       ·rw[hg]; simp
      ·cases h
 ·cases h
theorem ML (L:Ln) : FU L=iP fJ L:=by
 unfold FU
 cases hg:iP fJ L with
 | true=>rw[Gc hg]; simp
 | false =>
   cases hr:xE (bE L) with
   | none=>rfl
   | some L' =>
     simp only
     refine decide_eq_false fun e=>?_
     subst e
     rw[OY hr] at hg; cases hg
theorem J9 (L:Ln) : nP L=rE fJ L:=by
 unfold nP rE
 rw[ML]
theorem Np {c:UInt8} (h:bO c=true) : c.toNat≠10∧c.toNat≠13:=by
 unfold bO at h
 simp only[Bool.or_eq_true,Bool.and_eq_true,decide_eq_true_eq] at h
 omega
theorem GR {v:List UInt8} (h:∀ c∈v,bO c=true) : ∀ c∈qv v,bO c=true:=by
 unfold qv
 split
 ·intro c hc
  simp only[List.mem_append,List.mem_singleton] at hc
  rcases hc with(rfl | hc) | rfl
  ·rfl
  ·exact h c hc
  ·rfl
 ·exact h
theorem Bc:∀ {vs:List (List UInt8)},(∀ v∈vs,∀ c∈v,bO c=true)→∀ c∈tailV vs,bO c=true
 | [],_,c,hc=>by cases hc
 | v :: vs,h,c,hc=>by
   have e:tailV (v :: vs)=[44]++(qv v++tailV vs):=by simp[tailV]
   rw[e] at hc
   simp only[List.mem_append,List.mem_singleton] at hc
   rcases hc with rfl | hc | hc
   ·rfl
   ·exact GR (h v (by simp)) c hc
   ·exact Bc (fun w hw=>h w (by simp[hw])) c hc
theorem LC {p:jr} (h:jf fJ p=true) : ∀ c∈dH p,bO c=true:=by
 obtain⟨hn,_,hvs⟩:=yZ h
 obtain⟨_,_,g3⟩:=iY hn
 have hv:∀ v∈p.2,∀ c∈v,bO c=true:=fun v hv c hc=>((Cr (hvs v hv)).1 c hc).1
 intro c hc
 unfold dH at hc
 simp only[List.mem_append,List.mem_singleton,List.mem_map] at hc
 rcases hc with((rfl | ⟨d,hd,rfl⟩) | rfl) | hc
 ·rfl
 ·exact(iC d (g3 d hd)).2.2.2.2.2.2.1
 ·rfl
 ·cases hp:p.2 with
  | nil=>rw[hp] at hc; cases hc
  | cons v vs =>
    rw[hp] at hc hv
    simp only[gu,List.mem_append] at hc
    rcases hc with hc | hc
    ·exact GR (hv v (by simp)) c hc
    ·exact Bc (fun w hw=>hv w (by simp[hw])) c hc
theorem JV {L:Ln} (h:iP fJ L=true) : ∀ c∈bE L,bO c=true:=by
 obtain⟨h1,h2,h3,h4,h5⟩:=zY h
 obtain⟨_,_,g3⟩:=iY h2
 intro c hc
 unfold bE l5 at hc
 simp only[List.mem_append,List.mem_singleton,List.mem_flatMap,List.mem_map] at hc
 rcases hc with((hc | ⟨d,hd,rfl⟩ | ⟨p,hp,hc⟩) | rfl) | hc
 ·unfold kG at hc
  split at hc
  ·cases hc
  ·rename_i hne
   simp only[List.mem_append,List.mem_singleton] at hc
   rcases hc with hc | rfl
   ·exact(iC c ((iY (h1.resolve_left hne)).2.2 c hc)).2.2.2.2.2.2.2
   ·rfl
 ·exact(iC d (g3 d hd)).2.2.2.2.2.2.1
 ·exact LC (h5 p hp) c hc
 ·rfl
 ·exact h3 c hc
theorem Qg (L:Ln) : bE L≠[]:=by unfold bE; simp
theorem Qy {t s:List UInt8} {L:Ln} (hg:(dw [] t).foldl glue []=[s]) (hne:s≠[]) (hl:s.length≤912) (hr:xE s=some L) : ∃ k,xC fJ t=([(L,k)],0,0):=by
 have h1:=Ha (dw [] t) [] [] 1
 have h2:=Bw (dw [] t) [] [] 1 rfl
 rw[hg] at h1
 rw[h1] at h2
 obtain⟨k,hk⟩ : ∃ k,(jk [] [] 1 (dw [] t)).2=[k]:=by
  cases hh:(jk [] [] 1 (dw [] t)).2 with
  | nil=>rw[hh] at h2; simp at h2
  | cons k ks =>
    rw[hh] at h2
    simp only[List.length_cons,List.length_nil] at h2
    have:ks=[]:=List.eq_nil_of_length_eq_zero (by omega)
    exact⟨k,by rw[this]⟩
 refine⟨k, ?_⟩
 unfold xC Mm Oy
 rw[h1,hk]
 simp only[List.zip_cons_cons,List.zip_nil_right]
 rw[kW,if_neg hne,if_neg (by omega),Em,hr]
 rfl
theorem NB {L:Ln} (h:iP fJ L=true) : mY (bE L):=fun c hc=>(Np (JV h c hc)).1
theorem Nc {L:Ln} (h:iP fJ L=true) : (dw [] (fo 0 (bE L)++[13,10])).foldl glue []=[bE L]:=Hw _ (Nat.le_refl _) (NB h)
theorem OH {L:Ln} (h:iP fJ L=true) (hl:(bE L).length≤912) : ∃ k,xC fJ (fo 0 (bE L)++[13,10])=([(L,k)],0,0) :=
 Qy (Nc h) (Qg L) hl (Gc h)
theorem MC (v:List UInt8) : (qv v).length≤v.length + 2:=by
 unfold qv; split
 ·simp
 ·omega
theorem EX {B:Nat} : ∀ {vs:List (List UInt8)},(∀ v∈vs,v.length≤B)→(tailV vs).length≤vs.length * (B + 3)
 | [],_=>by simp[tailV]
 | v :: vs,h=>by
   have e:tailV (v :: vs)=[44]++(qv v++tailV vs):=by simp[tailV]
   have h1:=EX (B:=B) (vs:=vs) fun w hw=>h w (by simp[hw])
   have h2:=MC v
   have h3:=h v (by simp)
   rw[e,List.length_cons,Nat.succ_mul]
   simp only[List.length_append,List.length_cons,List.length_nil]
   omega
theorem L9 {B:Nat} {vs:List (List UInt8)} (h:∀ v∈vs,v.length≤B) : (gu vs).length≤vs.length * (B + 3):=by
 cases vs with
 | nil=>simp[gu]
 | cons v vs =>
   have h1:=EX (B:=B) (vs:=vs) fun w hw=>h w (by simp[hw])
   have h2:=MC v
   have h3:=h v (by simp)
   rw[List.length_cons,Nat.succ_mul]
   simp only[gu,List.length_append]
   omega
theorem H8 {B K:Nat} : ∀ {ps:List jr},(∀ p∈ps,p.1.length≤B)→(∀ p∈ps,p.2.length≤K)→(∀ p∈ps,∀ v∈p.2,v.length≤B)→(ps.flatMap dH).length≤ps.length * (B + 2 + K * (B + 3))
 | [],_,_,_=>by simp
 | p :: ps,h1,h2,h3=>by
   have ih:=H8 (B:=B) (K:=K) (ps:=ps) (fun q hq=>h1 q (by simp[hq])) (fun q hq=>h2 q (by simp[hq])) (fun q hq=>h3 q (by simp[hq]))
   have a1:=h1 p (by simp)
   have a2:=L9 (h3 p (by simp))
   have a3:=Nat.mul_le_mul_right (B + 3) (h2 p (by simp))
   have e:(dH p).length=1 + p.1.length + 1 + (gu p.2).length:=by
    unfold dH; simp only[List.length_append,List.length_cons,List.length_nil,List.length_map]
   rw[List.flatMap_cons,List.length_append,List.length_cons,Nat.succ_mul,e]
   omega
theorem O0 {B K N:Nat} {L:Ln} (h:LB B L) (hk:∀ p∈L.ps,p.2.length≤K) (hn:L.ps.length≤N) : (bE L).length≤(B + 1) + (B + N * (B + 2 + K * (B + 3))) + 1 + L.v.length:=by
 have h1:=H8 h.pn hk h.pv
 have h2:=Nat.mul_le_mul_right (B + 2 + K * (B + 3)) hn
 have h3:=h.g
 have h4:=h.n
 have h5:(kG L).length≤B + 1:=by
  unfold kG; split
  ·simp
  ·simp; omega
 unfold bE l5
 simp only[List.length_append,List.length_cons,List.length_nil,List.length_map]
 omega
end Go.Ab.Vl
namespace Go.Ab.Vl
open Go Go.Ab Go.Ab.Sm
theorem L8 {f g:Prop→Prop} {k:Prop} : Mi (Bo true) true f g k=f k:=rfl
theorem RO:((0:Int) == 0)=true:=rfl
theorem SC:((1:Int) == 1)=true:=rfl
def JA (c:ak) : Prop:=∀ {M:RM} {cs:List AV} {L:Ln} {k:Int} {S:Nat→Prop} {Q:ai},gF.rel M cs (L,k) S→LB 1000000000 L→(bE L).length≤1000000000→L.v.length≤100000→(∀ M',ah [] M M'→Q (.tup [St (nP L).1,N .i64 (nP L).2]) M')→c [.agg cs] M Q
theorem LB.mono {N K:Nat} {L:Ln} (h:LB N L) (hk:N≤K) : LB K L :=
 ⟨Nat.le_trans h.g hk,Nat.le_trans h.n hk,Nat.le_trans h.v hk,Nat.le_trans h.ps hk,fun p hp=>Nat.le_trans (h.pn p hp) hk,fun p hp=>Nat.le_trans (h.pl p hp) hk,fun p hp v hv=>Nat.le_trans (h.pv p hp v hv) hk⟩
theorem Uk {s:List UInt8} {K:AV→Prop} : bF .neq (St s) (St s) K=K (Bo false):=by rw[jR,bne_self_eq_false]
theorem QY {M:RM} {v:AV} {x:Ln × Int} {S:Nat→Prop} (h:df gF M v [x] S) : ∃ cs,gF.rel M cs x S∧∀ K:AV→Prop,(bN v (N .i64 (0:Int)) 5 fun p=>bg M p 5 K)=K (.agg cs):=by
 obtain⟨b,o,cs,hb,hbm,hidx,hld,hrel⟩:=df.at h 5 (0:Int) (i:=0) (by simp) rfl rfl
 refine⟨cs,hrel,fun K=>?_⟩
 rw[hidx,zZ,hld]
 exact propext ⟨fun⟨_,e,hk⟩=>by cases e; exact hk,fun hk=>⟨_,rfl,hk⟩⟩
theorem Lb {TL:Nat} {M:RM} {ca cp co crp cr cs' : ak} (ha:MX M.base ca) (hp:H6 M.base (rE fJ) cp) (ho:Rh co) (hrp:JA crp) (hr:Qu M.base fJ cr) (hs:F8 cs')
  {cs:List AV} {L:Ln} {k:Int} {S:Nat→Prop} {Q:ai} (hrel:gF.rel M cs (L,k) S) (hB:LB 1048576 L) (hQ:∀ M',Q (Bo true) M') : kE TL ca cp co crp cr cs' (.agg cs) M Q:=by
 have sD:=hrel
 obtain⟨v,rfl,hps⟩:=hrel
 simp only at hps
 unfold kE
 simp only[eu,Py]
 rw[jL (gF.one sD) (by simp),bn]
 have k1:ah [] M (M.push (.row [St L.g,St L.n,v,St L.v,N .i64 k] false TL 0)):=(ah.refl _ _).push _
 have h1:(M.push (.row [St L.g,St L.n,v,St L.v,N .i64 k] false TL 0)).heap M.next=some (.row [St L.g,St L.n,v,St L.v,N .i64 k] false TL 0):=RM.aY _
 have n1:(M.push (.row [St L.g,St L.n,v,St L.v,N .i64 k] false TL 0)).next=M.next + 1:=dK _
 generalize M.push (.row [St L.g,St L.n,v,St L.v,N .i64 k] false TL 0)=M1 at *
 have Ep:df iT M1 v L.ps S:=hps.keep k1 (by simp)
 refine ha k1.base ?_
 rw[dh,Bool.not_true,bI,aX,ax h1 rfl,bB,show(N .i64 (3000:Int))=N .i64 ((3000:Nat) : Int) from rfl,yA]
 refine QP (p:=decide (L.ps.length > 10)) (fun _ kk hk=>?_) ?_
 ·rw[aX,ax h1 rfl,Ep.len,show(N .i64 (10:Int))=N .i64 ((10:Nat) : Int) from rfl,yA]; exact hk
 refine bU (fun _=>hQ _) (fun hc=>?_)
 rw[Bool.or_eq_false_iff] at hc
 have hvl:L.v.length≤3000:=by have:=of_decide_eq_false hc.1; omega
 have hpl:L.ps.length≤10:=by have:=of_decide_eq_false hc.2; omega
 refine aS (fun m ys M'=>M'=M1∧∃ i:Nat,m=L.ps.length - i∧ys=[N .i64 (i:Int)]∧i≤L.ps.length∧∀ p∈L.ps.take i,p.2.length≤10) L.ps.length ⟨rfl,0,rfl,rfl,Nat.zero_le _,by simp⟩ ?_
 rintro next m ys M' hnext ⟨rfl,i,rfl,rfl,hi,hk10⟩
 dsimp only[ae]
 rw[aX,ax h1 rfl,Ep.len,rC]
 refine bU (fun hlt=>?_) (fun hge=>?_)
 ·have hlt:i<L.ps.length:=of_decide_eq_true hlt
  obtain⟨pv,hpv,_,hf1⟩:=BR Ep hlt
  rw[aX,ax h1 rfl,hf1,hpv.len,show(N .i64 (10:Int))=N .i64 ((10:Nat) : Int) from rfl,yA]
  refine bU (fun _=>hQ _) (fun hc=>?_)
  have hc:=of_decide_eq_false hc
  rw[add1 (by omega)]
  refine hnext _ _ _ (by omega) ⟨rfl,i + 1,rfl,rfl,by omega,fun p hp=>?_⟩
  rw[List.take_succ_eq_append_getElem hlt,List.mem_append] at hp
  rcases hp with hp | hp
  ·exact hk10 p hp
  ·simp at hp; subst hp; omega
 have he:i=L.ps.length:=by
  have:¬ i<L.ps.length:=of_decide_eq_false hge
  omega
 subst he
 rw[List.take_length] at hk10
 clear hnext
 have hll:=O0 hB hk10 hpl
 have hB9:=hB.mono (show 1048576≤1000000000 by decide)
 have hll:(bE L).length≤1000000000:=by omega
 rw[dN (n:=5) h1 rfl]
 refine hp k1.base (gF.keep sD k1 (by simp)) hB9 (by omega) fun M2 k2=>?_
 have k12:=k1.trans k2
 have h2:=k2.aG h1 (by omega) (by simp)
 rw[jy,jv,dN (n:=5) h2 rfl]
 refine ho (gF.keep sD k12 (by simp)) (by omega) fun cs3 M3 k3 Si=>?_
 refine hrp Si hB9 hll (by omega) fun M4 k4=>?_
 have k14:=(k12.trans k3).trans k4
 have h4:=k4.aG (k3.aG h2 (by have:=k2.next; omega) (by simp)) (by have:=k2.next; have:=k3.next; omega) (by simp)
 rw[jy,jv,J9,QT]
 simp only[aZ]
 rw[Uk,bX,bI]
 unfold rE
 cases hg:iP fJ L with
 | false =>
   rw[if_neg (by simp)]
   dsimp only
   rw[gI]
   refine bU (fun _=>hQ _) (fun hc=>?_)
   simp at hc
 | true =>
   rw[if_pos rfl]
   by_cases Ru:912<(bE L).length
   ·rw[if_pos Ru]
    dsimp only
    rw[gI]
    refine bU (fun _=>hQ _) (fun hc=>?_)
    simp at hc
   rw[if_neg Ru]
   dsimp only
   rw[QT,bI]
   have hfo:=Kb (bE L)
   obtain⟨k',hrd⟩:=OH hg (by omega)
   refine hr k14.base (by simp only[List.length_append,List.length_cons,List.length_nil]; omega) fun w M5 k5 hw _ _=>?_
   rw[hrd] at hw ⊢
   dsimp only at hw ⊢
   have k15:=k14.trans k5
   have h5:=k5.aG h4 (by have:=k2.next; have:=k3.next; have:=k4.next; omega) (by simp)
   rw[jy,jv,Aj,cz,RO]
   simp only[EN]
   rw[hw.len,show(([(L,k')] : List (Ln × Int)).length:Int)=1 from rfl,cz,SC,bu]
   simp only[EN,bz,L8]
   obtain⟨cs6,RG,hix⟩:=QY hw
   rw[hix,dN (n:=5) h5 rfl]
   refine ho RG (by omega) fun cs7 M7 k7 RN=>?_
   have h7:=k7.aG h5 (by have:=k2.next; have:=k3.next; have:=k4.next; have:=k5.next; omega) (by simp)
   rw[dN (n:=5) h7 rfl]
   refine⟨rfl, ?_⟩
   refine ho (gF.keep sD (k15.trans k7) (by simp)) (by omega) fun cs8 M8 k8 RZ=>?_
   refine hs (gF.keep RN k8 (by simp)) RZ (by omega) (fun p hp=>by have:=hk10 p hp; omega) fun M9 k9=>?_
   rw[bu,decide_eq_true rfl]
   exact hQ M9
end Go.Ab.Vl
namespace Go.Ab
open Go Go.RowKit
inductive cO (B:Nat) (P:Program) (M:RM) : TypeId→List AV→Prop
 | bool (t:TypeId) (b:Bool) : P.underlying t=some .bool→cO B P M t [Bo b]
 | int (t:TypeId) (k:IntKind) (n:Int) : P.underlying t=some (.int k)→k.min≤n→n≤k.max→cO B P M t [N k n]
 | str (t:TypeId) (s:List UInt8) : P.underlying t=some .string→s.length≤B→cO B P M t [St s]
 | Oh (t e:TypeId) : P.underlying t=some (.slice e)→cO B P M t [aH]
 | emp (t e:TypeId) (b:Nat) : P.underlying t=some (.slice e)→cO B P M t [.emp b]
 | slc (t e:TypeId) (b o n c:Nat) (cs:List AV) : P.underlying t=some (.slice e)→b<M.next→n≤c→n≤B→M.loads b o (n * P.cellsOf e)=some cs →
   (∀ i,i<n→cO B P M e ((cs.drop (i * P.cellsOf e)).take (P.cellsOf e)))→cO B P M t [.slc b o n (.ex c)]
 | struct (t:TypeId) (fs:Array Field) (cs:List AV) : P.underlying t=some (.struct fs)→cs.length=P.cellsOf t →
   (∀ (i:Nat) (f:Field),fs[i]?=some f→cO B P M f.type ((cs.drop f.offset).take (P.cellsOf f.type)))→cO B P M t cs
 | array (t e:TypeId) (n:Nat) (cs:List AV) : P.underlying t=some (.array n e)→cs.length=P.cellsOf t →
   (∀ i,i<n→cO B P M e ((cs.drop (i * P.cellsOf e)).take (P.cellsOf e)))→cO B P M t cs
 | other (t:TypeId) (cs:List AV) : uD (P.underlying t)=true→cO B P M t cs
 | zero (t e:TypeId) (cs:List AV) : P.underlying t=some (.slice e)→P.cellsOf e=0→cO B P M t cs
section
variable {H:Type} {enc:TypeId × Value→H} {P:Program} {base:Base} {w:World}
variable {bulk:DataW H→Nat} {B:Nat}
structure Hl (bulk:DataW H→Nat) : Prop where
 str:∀ bs:List UInt8,bs.length≤bulk (.lit (.string bs))
 len:∀ es sp:List (DataW H),es.length≤bulk (.slice es sp)
 elem:∀ (es sp:List (DataW H)) d,d∈es→bulk d≤bulk (.slice es sp)
 spare:∀ (es sp:List (DataW H)) d,d∈sp→bulk d≤bulk (.slice es sp)
 agg:∀ (ps:List (DataW H)) d,d∈ps→bulk d≤bulk (.agg ps)
theorem FJ (hB:Hl bulk) (hn:base.n=w.heap.size) {held:Bool} : ∀ (fuel:Nat) (t:TypeId) (cs:List Value) (x:DataW H × List MemPlace),DataW.trod enc P w 0 (fun _=>true) held fuel t cs=some x →
  bulk x.1≤B→cO B P (RM.old base w) t (cs.map (mo base.n)):=by
 intro fuel
 induction fuel with
 | zero=>intro t cs x h; simp[DataW.trod] at h
 | succ m ih =>
   intro t cs x h hw
   cases hu:P.underlying t with
   | none=>exact .other _ _ (by rw[hu]; rfl)
   | some d =>
     cases d with
     | bool =>
       obtain⟨b,rfl,rfl⟩:=DataW.trod_bool hu h
       exact .bool t b hu
     | int k =>
       obtain⟨n,rfl,rfl,hwf⟩:=DataW.trod_int hu h
       simp only[Lit.wf,Bool.and_eq_true,decide_eq_true_eq] at hwf
       exact .int t k n hu hwf.1 hwf.2
     | string =>
       obtain⟨s,rfl,rfl,_⟩:=DataW.trod_string hu h
       exact .str t s.data.toList hu (Nat.le_trans (hB.str _) hw)
     | slice e =>
       rcases DataW.trod_slice hu h with⟨rfl,rfl⟩ | ⟨a,len,cap,elems,rest,n,hm,rfl,rfl,_,hlc,_,hel,hget,hrest,_⟩
       ·exact .Oh t e hu
       ·cases hm
        rcases Nat.eq_zero_or_pos (P.cellsOf e) with hz | hz
        ·exact .zero t e _ hu hz
        rcases Nat.eq_zero_or_pos cap with hc | hc
        ·have hl0:len=0:=by omega
         subst hc hl0
         exact .emp t e 0 hu
        ·obtain⟨hr1,hr2⟩:=hrest rfl
         have every:∀ i,i<cap→∃ es y,w.cells? 0 (a.add (i * P.cellsOf e)) (P.cellsOf e)=some es∧DataW.trod enc P w 0 (fun _=>true) held m e es=some y∧(y∈elems∨y∈rest):=by
          intro i hi
          by_cases hil:i<len
          ·have h1:=hget i hil
           have h2:elems[i]?=some (elems[i]'(by omega)):=by simp[hel,hil]
           rw[h2] at h1
           obtain⟨es,e1,e2⟩:=Option.bind_eq_some_iff.1 h1
           exact⟨es,_,e1,e2,.inl (List.getElem_mem _)⟩
          ·have h1:=hr2 (i - len) (by omega)
           rw[show len + (i - len)=i by omega] at h1
           have h2:rest[i - len]?=some (rest[i - len]'(by omega)):=by
            rw[List.getElem?_eq_getElem]
           rw[h2] at h1
           obtain⟨es,e1,e2⟩:=Option.bind_eq_some_iff.1 h1
           exact⟨es,_,e1,e2,.inr (List.getElem_mem _)⟩
         obtain⟨es0,_,k0,_,_⟩:=every 0 hc
         obtain⟨kl0,kg0⟩:=qw k0
         have hc0:=kg0 0 hz
         rw[List.getElem?_eq_getElem (by omega)] at hc0
         obtain⟨c,el,fr,hh,hsp,_,_⟩:=cell?_at hc0
         obtain⟨b,o,sp⟩:=a
         rw[Nat.zero_mul,xK,xK] at hh hsp
         simp only at hh hsp
         subst hsp
         have hblt:b<base.n:=by rw[hn]; exact(Array.getElem?_eq_some_iff.1 hh).1
         have hlast:o + cap * P.cellsOf e≤c.size:=by
          obtain⟨es1,_,k1,_,_⟩:=every (cap - 1) (by omega)
          obtain⟨kl1,kg1⟩:=qw k1
          have hc1:=kg1 (P.cellsOf e - 1) (by omega)
          rw[List.getElem?_eq_getElem (by omega)] at hc1
          obtain⟨c',el',fr',hh',_,hlt,_⟩:=cell?_at hc1
          rw[dP,dP] at hh' hlt
          simp only at hh' hlt
          rw[hh] at hh'
          cases hh'
          have:cap * P.cellsOf e=(cap - 1) * P.cellsOf e + P.cellsOf e:=by
           rw[← Nat.succ_mul]; congr 1; omega
          omega
         have Tj:mo base.n (.slice (some ⟨b,o,none⟩) len cap)=.slc b o len (.ex cap):=by
          obtain⟨cap,rfl⟩ : ∃ k,cap=k + 1:=⟨cap - 1,by omega⟩
          simp only[mo,if_pos hblt]
         have hcells:=RM.Na hblt hh
         have hle:len * P.cellsOf e≤cap * P.cellsOf e:=Nat.mul_le_mul_right _ hlc
         have hload:(RM.old base w).loads b o (len * P.cellsOf e)=some (((c.toList.map (mo base.n)).drop o).take (len * P.cellsOf e)):=by
          simp only[RM.loads,hcells]
          rw[if_pos (by simp; omega)]
         simp only[List.map_cons,List.map_nil,Tj]
         refine .slc t e b o len cap _ hu hblt hlc ?_ hload fun i hi=>?_
         ·have:=hB.len (elems.map (·.1)) (rest.map (·.1))
          rw[List.length_map,hel] at this
          exact Nat.le_trans this hw
         ·obtain⟨es,y,k1,k2,k3⟩:=every i (by omega)
          have hlen:=(qw k1).1
          have hes:((((c.toList.map (mo base.n)).drop o).take (len * P.cellsOf e)).drop (i * P.cellsOf e)).take (P.cellsOf e)=es.map (mo base.n):=by
           have hii:i * P.cellsOf e + P.cellsOf e≤len * P.cellsOf e:=by rw[← Nat.succ_mul]; exact Nat.mul_le_mul_right _ hi
           apply List.ext_getElem?
           intro j
           by_cases hj:j<P.cellsOf e
           ·have hg:=(qw k1).2 j hj
            rw[List.getElem?_take,if_pos hj,List.getElem?_drop,List.getElem?_take,if_pos (by omega),List.getElem?_drop,List.getElem?_map,List.getElem?_map,← hg]
            rw[dP,dP]
            simp only[World.cell?,hh]
            rw[Array.getElem?_toList]
            simp[Nat.add_assoc]
           ·rw[List.getElem?_eq_none (by simp; omega),List.getElem?_eq_none (by simp; omega)]
          rw[hes]
          refine ih e es y k2 (Nat.le_trans ?_ hw)
          rcases k3 with k3 | k3
          ·exact hB.elem _ _ _ (List.mem_map_of_mem k3)
          ·exact hB.spare _ _ _ (List.mem_map_of_mem k3)
     | struct fs =>
       obtain⟨xs,n,hm,rfl,hl,hxl,hget⟩:=DataW.trod_struct hu h
       cases hm
       refine .struct t fs _ hu (by simpa using hl) fun i f hf=>?_
       have h1:=hget i f hf
       have hi:i<fs.size:=(Array.getElem?_eq_some_iff.1 hf).1
       rw[List.getElem?_eq_getElem (by omega)] at h1
       rw[← List.map_drop,← List.map_take]
       exact ih _ _ _ h1 (Nat.le_trans (hB.agg _ _ (List.mem_map_of_mem (List.getElem_mem _))) hw)
     | array n e =>
       obtain⟨xs,m',hm,rfl,hl,hxl,hget⟩:=DataW.trod_array hu h
       cases hm
       refine .array t e n _ hu (by simpa using hl) fun i hi=>?_
       have h1:=hget i hi
       rw[List.getElem?_eq_getElem (by omega)] at h1
       rw[← List.map_drop,← List.map_take]
       exact ih _ _ _ h1 (Nat.le_trans (hB.agg _ _ (List.mem_map_of_mem (List.getElem_mem _))) hw)
     | _=>exact .other _ _ (by rw[hu]; rfl)
end
section
variable {P:Program} {M:RM} {t:TypeId} {cs:List AV} {B:Nat}
theorem cO.PR (h:cO B P M t cs) {k:IntKind} (hu:P.underlying t=some (.int k)) : ∃ n:Int,cs=[N k n]∧k.min≤n∧n≤k.max:=by
 cases h with
 | int _ k' n h1 h2 h3=>rw[hu] at h1; cases h1; exact⟨n,rfl,h2,h3⟩
 | _=>simp_all [uD]
theorem cO.uO (h:cO B P M t cs) (hu:P.underlying t=some .string) : ∃ s,cs=[St s]∧s.length≤B:=by
 cases h with
 | str _ s h1 h2=>exact⟨s,rfl,h2⟩
 | _=>simp_all [uD]
theorem cO.DI (h:cO B P M t cs) {fs:Array Field} (hu:P.underlying t=some (.struct fs)) : cs.length=P.cellsOf t∧∀ (i:Nat) (f:Field),fs[i]?=some f→cO B P M f.type ((cs.drop f.offset).take (P.cellsOf f.type)):=by
 cases h with
 | struct _ fs' _ h1 h2 h3=>rw[hu] at h1; cases h1; exact⟨h2,h3⟩
 | _=>simp_all [uD]
def UE:AV→Prop
 | .slc _ _ n (.ex c)=>n≤c
 | .slc _ _ _ (.op e)=>e=1
 | _=>True
theorem cO.E8 (h:cO B P M t cs) {e:TypeId} (hu:P.underlying t=some (.slice e)) (hz:0<P.cellsOf e) :
  ∃ v n ds,cs=[v]∧fU M (P.cellsOf e) v ds n∧n≤B∧UE v∧∀ i,i<n→cO B P M e ((ds.drop (i * P.cellsOf e)).take (P.cellsOf e)):=by
 cases h with
 | Oh _ e' h1=>exact⟨_,0,[],rfl,.nil,Nat.zero_le _,trivial,fun i hi=>absurd hi (by omega)⟩
 | emp _ e' b h1=>exact⟨_,0,[],rfl,.emp b,Nat.zero_le _,trivial,fun i hi=>absurd hi (by omega)⟩
 | slc _ e' b o n c ds h1 h2 h3 h4 h5 h6 =>
   rw[hu] at h1; cases h1
   exact⟨_,n,ds,rfl,.slc b o n _ ds h2 h5,h4,h3,h6⟩
 | zero _ e' _ h1 h2=>rw[hu] at h1; cases h1; omega
 | _=>simp_all [uD]
end
def uL (B:Nat) (P:Program) (M:RM) (t:TypeId) (v:AV) : Prop :=
 match yF P t with
 | true=>∃ cs,v=.agg cs∧cO B P M t cs
 | false=>cO B P M t [v]
theorem uL.agg {B:Nat} {P:Program} {M:RM} {t:TypeId} {v:AV} (h:uL B P M t v) (ha:yF P t=true) : ∃ cs,v=.agg cs∧cO B P M t cs:=by
 unfold uL at h; rw[ha] at h; exact h
section
variable {H:Type} {enc:TypeId × Value→H} {P:Program} {base:Base} {w:World} {bulk:DataW H→Nat} {B:Nat}
theorem MJ (hB:Hl bulk) (hn:base.n=w.heap.size) {r:Reach} {b:Nat} {held:Bool} {t:TypeId} {v:Value} {d:DataW H} {ps:List MemPlace} (hv:Value.okWide P w r b t v) (h:DataW.Trod enc P w 0 (fun _=>true) held t v d ps)
  (hw:bulk d≤B) : uL B P (RM.old base w) t (zU base.n v):=by
 obtain⟨fuel,hf⟩:=h
 have hfit:=FJ hB hn fuel t _ _ hf hw
 unfold uL
 cases ha:yF P t with
 | true =>
   have:∃ cs,v=.agg cs:=by
    unfold Value.okWide at hv
    unfold yF at ha
    split at hv
    ·obtain⟨cs,h,_⟩:=hv; exact⟨cs,h⟩
    ·obtain⟨cs,h,_⟩:=hv; exact⟨cs,h⟩
    ·split at ha <;> simp_all
   obtain⟨cs,rfl⟩:=this
   exact⟨_,rfl,hfit⟩
 | false =>
   have hc:Cell.okWide P w r b t v:=by
    unfold Value.okWide at hv
    unfold yF at ha
    split at hv
    ·simp_all
    ·simp_all
    ·exact hv
   have:v.cells.toList=[v]∧zU base.n v=mo base.n v:=by
    cases v with
    | agg cs=>exact(Ie hc).elim
    | _=>exact⟨rfl,rfl⟩
   rw[this.1] at hfit
   rw[this.2]
   exact hfit
end
end Go.Ab
