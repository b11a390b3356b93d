/- Part 4 of the ground of the proofs of this seat (texts VlH3 to N9). By an AI agent. -/
import Derived.Test.YtoikjkmmdpdkbaaGreatDoorVck3
import Derived.Lib.IndexAny
import Derived.Lib.SlTrimSet
import Derived.Lib.ItoaLen
import Derived.Lib.AtoiAll
import Derived.RangeFuncRecord
import Derived.RangeFuncSeq
import Derived.OrdersIn
import Derived.LoopNIn
set_option maxRecDepth 10000
set_option linter.unusedVariables false
set_option linter.unusedSimpArgs false
namespace Go.Ab.Vl
open Go Go.Ab
theorem Hz {s:List UInt8} {x:UInt8} (h:x ∉ s) : Lib.indexByte s x=-1:=by
 rcases vN x s with⟨_,h2,_⟩ | ⟨a,b,_,_,h3,_⟩
 ·exact h2
 ·exact absurd (by rw[h3]; simp) h
def Asc (cs:List UInt8) : Prop:=∀ x∈cs,x.toNat<128
theorem Asc.bt {cs:List UInt8} (h:Asc cs) {i:Nat} (hi:i<cs.length) : bt cs i<128:=by
 rw[← Io hi]; exact h _ (List.getElem_mem hi)
def xP (c:aj) : Prop:=∀ {M:RM} {r:Nat} {Q:ai},(∀ b,Q (Bo b) M)→c [N .i32 (r:Int)] M Q
theorem Fh:xP fun args M Q=>∃ a0,args=[a0]∧iK a0 M Q:=by
 intro M r Q hQ
 refine⟨_,rfl, ?_⟩
 unfold iK
 simp only[dH,mX]
 simp only[go_sem,decide_true]
 refine⟨fun _=>hQ _,fun _=>?_⟩
 cases decide ((57343:Int)<(r:Int)) with
 | true=>simp only[go_sem]; exact⟨fun _=>hQ _,fun _=>hQ _⟩
 | false=>simp only[go_sem]; exact hQ _
def Ce (cs:List UInt8) (r:Nat) : Int:=if r<128 then Lib.indexByte cs (UInt8.ofNat r) else -1
def wQ (cs:List UInt8) (c:aj) : Prop:=∀ {M:RM} {r:Nat} {Q:ai},r<2147483648→(∀ M',ae [] M M'→Q (N .i64 (Ce cs r)) M')→c [St cs,N .i32 (r:Int)] M Q
def lL (cs:List UInt8) (B:Base) (c:aj) : Prop:=∀ {M:RM} {s:List UInt8} {Q:ai},M.base=B→s.length≤1000000000→(∀ M',ae [] M M'→Q (N .i64 (Lib.indexAny s cs)) M')→c [St s,St cs] M Q
theorem Gm {cs:List UInt8} {T:Nat} {cr cu cm ct:aj} {M:RM} {s:List UInt8} {Q:ai} (hcs:Asc cs) (h2:2≤cs.length) (hl:cs.length≤1000) (hs:s.length≤8) (hr:wQ cs cr)
  (hu:∀ {M:RM} {n:Nat} {Q:ai},Q (Bo (decide (8<n))) M→cu [N .i64 (n:Int)] M Q) (hQ:∀ M',ae [] M M'→Q (N .i64 (Lib.indexAny s cs)) M') : lv cr cu cm T ct (St s) (St cs) M Q:=by
 unfold lv
 have e0:(cs == ([] : List UInt8))=false:=by
  cases cs with
  | nil=>simp at h2
  | cons=>rfl
 have e1:((cs.length:Int) == 1)=false:=by simp; omega
 simp only[dI,go_sem,e0,e1]
 refine wZ ?_
 refine hu ?_
 rw[show decide (8<s.length)=false by simp; omega]
 simp only[go_sem]
 refine⟨s,rfl, ?_⟩
 simp only[go_sem]
 refine aR (fun m ys M3=>∃ pos:Nat,m=s.length - pos∧ys=[]∧M3.heap M.next=some (.fM s pos)∧ae [] M M3∧M.next<M3.next∧pos≤s.length∧Lib.NoAny s cs pos) _
  ⟨0,rfl,rfl,RM.aQ _,(ae.refl _ _).push _,by simp[RM.push],Nat.zero_le _,Lib.NoAny.zero _ _⟩ ?_
 rintro next m ys M3 hnext ⟨pos,rfl,rfl,hh,hk,hlt,hple,hno⟩
 refine⟨_,_,_,rfl,hh, ?_⟩
 have Ri:∀ y,ae [] M (M3.put M.next y):=fun y=>hk.put y (.inl (Nat.le_refl _))
 split
 ·rename_i hp
  rcases sP hp with⟨d1,d2⟩ | ⟨d1,d2,d3,d4,d5,d6⟩
  ·rw[d2]
   simp only[go_sem]
   refine hr (by omega) fun M4 k4=>?_
   rw[Ce,if_pos d1]
   have hx:UInt8.ofNat (bt s pos)=s[pos]:=by rw[← Io hp]; simp
   rw[hx]
   have hc:=Lib.contains_iff_indexByte cs s[pos]
   simp only[go_sem]
   refine⟨fun h=>?_,fun h=>?_⟩
   ·have h:(0:Int)≤Lib.indexByte cs s[pos]:=by simpa using h
    rw[decide_eq_true h] at hc
    have:=hQ M4 ((Ri _).trans k4)
    rw[Lib.indexAny_hit hno (List.getElem?_eq_getElem hp) hc] at this
    exact this
   ·have h:¬ (0:Int)≤Lib.indexByte cs s[pos]:=by simpa using h
    rw[decide_eq_false h] at hc
    refine hnext _ _ _ (by omega) ⟨pos + 1,rfl,rfl,k4.ax (RM.jD _ _) (by simpa [RM.mR] using hlt) (by simp),(Ri _).trans k4, ?_,by omega,hno.succ (List.getElem?_eq_getElem hp) hc⟩
    have:=k4.next
    simp[RM.mR] at this; omega
  ·generalize Utf8.decode ⟨⟨s⟩⟩ pos=d at *
   obtain⟨r,n⟩:=d
   simp only at d2 d3 d4 d5 d6
   simp only[go_sem]
   refine hr d3 fun M4 k4=>?_
   rw[Ce,if_neg (by omega)]
   simp only[go_sem,show decide ((-1:Int) ≥ 0)=false from rfl]
   refine hnext _ _ _ (by omega) ⟨pos + n,rfl,rfl,k4.ax (RM.jD _ _) (by simpa [RM.mR] using hlt) (by simp),(Ri _).trans k4, ?_,by omega,fun j b hj hb=>?_⟩
   ·have:=k4.next
    simp[RM.mR] at this; omega
   ·rcases Nat.lt_or_ge j pos with h | h
    ·exact hno j b h hb
    ·have hjl:j<s.length:=(List.getElem?_eq_some_iff.1 hb).1
     have h7:=d6 j h hj
     rw[← Io hjl] at h7
     have h8:s[j]=b:=(List.getElem?_eq_some_iff.1 hb).2
     rw[h8] at h7
     cases hcb:cs.contains b with
     | false=>rfl
     | true =>
       have:=hcs b (by simpa using hcb)
       omega
 ·simp only[go_sem]
  have:pos=s.length:=by omega
  subst this
  rw[Lib.indexAny_none hno] at hQ
  exact hQ M3 hk
def nY:List UInt8:=[44,59,58]
def mr (s:List UInt8) : List UInt8 × List UInt8 × Bool :=
 if bH 34 s then match brk 34 (s.drop 1) with
  | some (a,b)=>(a,b,mV [] a)
  | none=>(s.drop 1,[],false)
 else if Lib.indexAny s nY<0 then([],[],false)
 else(s.take (Lib.indexAny s nY).toNat,s.drop (Lib.indexAny s nY).toNat,mV [34] (s.take (Lib.indexAny s nY).toNat))
theorem vE:∀ (s cs:List UInt8),Lib.indexAny s cs<(s.length:Int)∨Lib.indexAny s cs=-1
 | [],cs=>.inr rfl
 | b :: s,cs=>by
   have:=vE s cs
   rw[Lib.indexAny]
   split
   ·left; simp only[List.length_cons]; omega
   ·split
    ·right; rfl
    ·rename_i h1 h2
     left
     rcases this with h | h
     ·simp only[List.length_cons]; omega
     ·rw[h] at h2; simp at h2
theorem xJ (s:List UInt8) : (mr s).1.length≤s.length∧(mr s).2.1.length≤s.length:=by
 unfold mr
 split
 ·rcases vN 34 (s.drop 1) with⟨h1,_⟩ | ⟨a,b,h1,_,h3,_⟩
  ·rw[h1]; simp
  ·rw[h1]
   have:=congrArg List.length h3
   simp at this ⊢; omega
 ·split
  ·simp
  ·simp; omega
def JA (B:Base) (c:aj) : Prop:=∀ {M:RM} {s:List UInt8} {Q:ai},M.base=B→s.length≤1000000→(∀ M',ae [] M M'→Q (.tup [St (mr s).1,St (mr s).2.1,Bo (mr s).2.2]) M')→c [St s] M Q
theorem Nn {B:Base} {cp cc cg ci:aj} (hp:jq cp) (hc:xE 34 cc) (hg:lW B cg) (hi:lL nY B ci) : JA B fun args M Q=>∃ a0,args=[a0]∧qC cp cc cg ci a0 M Q:=by
 intro M s Q hM hl hQ
 refine⟨_,rfl, ?_⟩
 unfold qC
 refine hp (by omega) ?_
 unfold Bi
 unfold mr at hQ
 cases hh:bH 34 s with
 | true =>
   simp only[hh,if_true] at hQ
   simp only[go_sem,dH]
   refine hc (by simp; omega) ?_
   unfold ED
   cases hb:brk 34 (s.drop 1) with
   | none =>
     simp only[hb] at hQ
     simp only[go_sem]
     exact hQ M (ae.refl _ _)
   | some p =>
     obtain⟨a,b⟩:=p
     simp only[hb] at hQ
     have:=xJ s
     unfold mr at this
     simp only[hh,if_true,hb] at this
     simp only[go_sem]
     refine hg hM (by omega) fun M1 k1=>?_
     exact hQ M1 k1
 | false =>
   simp only[hh,Bool.false_eq_true,if_false] at hQ
   simp only[go_sem,Bool.false_eq_true,if_false]
   refine hi hM (by omega) fun M1 k1=>?_
   have hlt:=vE s nY
   generalize Lib.indexAny s nY=n at *
   simp only[go_sem]
   refine⟨fun h=>?_,fun h=>?_⟩
   ·have h:n<0:=by simpa using h
    simp only[h,if_true] at hQ
    exact hQ M1 k1
   ·have h:¬ n<0:=by simpa using h
    simp only[h,if_false] at hQ
    obtain⟨k,rfl⟩ : ∃ k:Nat,n=(k:Int):=⟨n.toNat,by omega⟩
    simp only[Int.toNat_natCast] at hQ
    have hk:k≤s.length:=by omega
    rw[gm hk,bB hk]
    simp only[go_sem]
    refine hg (by rw[k1.base,hM]) (by simp; omega) fun M2 k2=>?_
    exact hQ M2 (k1.trans k2)
abbrev jG:=List UInt8 × List (List UInt8)
def iB:jk jG:=jk.pre iW iW.iY.slice
theorem JI {M:RM} {n:List UInt8} {v:AV} {vs:List (List UInt8)} {S:Nat→Prop} (h:bD iW.iY M v vs S) : iB.rel M [St n,v] (n,vs) S:=⟨[v],rfl,v,rfl,h⟩
def jd:Nat→List UInt8→List (List UInt8)→Option (List (List UInt8) × List UInt8)
 | 0,_,_=>none
 | k + 1,s,acc=>match mr (s.drop 1) with
   | (v,after,ok)=>if ok then(if bH 44 after then jd k after (acc++[v]) else some (acc++[v],after)) else none
def pz (f:List UInt8→List UInt8) : Nat→List UInt8→List jG→Option (List jG × List UInt8)
 | 0,_,_=>none
 | k + 1,s,acc=>if bH 59 s then
     (if ll f (((s.drop 1).take (wk (s.drop 1))).map dF) && bH 61 ((s.drop 1).drop (wk (s.drop 1))) then
      match jd ((s.drop 1).drop (wk (s.drop 1))).length ((s.drop 1).drop (wk (s.drop 1))) [] with
      | some (vs,s3)=>pz f k s3 (acc++[(((s.drop 1).take (wk (s.drop 1))).map dF,vs)])
      | none=>none
     else none)
   else some (acc,s)
theorem aZ {x:UInt8} {s:List UInt8} (h:bH x s=true) : 1≤s.length:=by
 cases s with
 | nil=>cases h
 | cons=>simp
theorem uL:∀ (k:Nat) (s:List UInt8) (acc vs:List (List UInt8)) (r:List UInt8),1≤s.length→jd k s acc=some (vs,r)→r.length + vs.length≤s.length + acc.length
 | 0,_,_,_,_,_,h=>by cases h
 | k + 1,s,acc,vs,r,h1,h=>by
   rw[jd] at h
   have hl:=xJ (s.drop 1)
   generalize mr (s.drop 1)=x at *
   obtain⟨v,after,ok⟩:=x
   simp only[List.length_drop] at hl h
   split at h
   ·split at h
    ·rename_i hh
     have:=uL k after _ vs r (aZ hh) h
     simp at this; omega
    ·cases h; simp; omega
   ·cases h
theorem wL:∀ (n:Nat) (s:List UInt8) (acc:List (List UInt8)) (k:Nat),s.length≤n→1≤s.length→s.length≤k→jd k s acc=jd s.length s acc
 | 0,s,acc,k,h1,h2,h3=>by omega
 | n + 1,s,acc,k,h1,h2,h3=>by
   obtain⟨j,hj⟩ : ∃ j,s.length=j + 1:=⟨s.length - 1,by omega⟩
   obtain⟨i,rfl⟩ : ∃ i,k=i + 1:=⟨k - 1,by omega⟩
   rw[hj,jd,jd]
   have hl:=xJ (s.drop 1)
   generalize mr (s.drop 1)=x at *
   obtain⟨v,after,ok⟩:=x
   simp only[List.length_drop] at hl ⊢
   split
   ·split
    ·rename_i hh
     have h4:=aZ hh
     rw[wL n after _ i (by omega) h4 (by omega),wL n after _ j (by omega) h4 (by omega)]
    ·rfl
   ·rfl
theorem Ao (f:List UInt8→List UInt8) : ∀ (n:Nat) (s:List UInt8) (acc:List jG) (k:Nat),s.length≤n→s.length + 1≤k→pz f k s acc=pz f (s.length + 1) s acc
 | n,s,acc,k,h1,h3=>by
   obtain⟨i,rfl⟩ : ∃ i,k=i + 1:=⟨k - 1,by omega⟩
   rw[pz,pz]
   split
   ·rename_i h59
    have hpos:=aZ h59
    split
    ·rename_i hc
     simp only[Bool.and_eq_true] at hc
     have h61:=aZ hc.2
     cases hv:jd ((s.drop 1).drop (wk (s.drop 1))).length ((s.drop 1).drop (wk (s.drop 1))) [] with
     | none=>rfl
     | some p =>
       obtain⟨vs,s3⟩:=p
       have:=uL _ _ _ _ _ h61 hv
       simp at this
       simp only
       cases n with
       | zero=>omega
       | succ n =>
         rw[Ao f n s3 _ i (by omega) (by omega),Ao f n s3 _ s.length (by omega) (by omega)]
    ·rfl
   ·rfl
def qZ (f:List UInt8→List UInt8) (s:List UInt8) : Option (List jG × List UInt8):=pz f (s.length + 1) s []
def Fw (B:Base) (f:List UInt8→List UInt8) (TP:Nat) (c:aj) : Prop:=∀ {M:RM} {s:List UInt8} {Q:ai},M.base=B→s.length≤100000 →
 (∀ M',ae [] M M'→qZ f s=none→Q (.tup [aC,St [],Bo false]) M') →
 (∀ v M' ps r,ae [] M M'→qZ f s=some (ps,r)→bD iB M' v ps (fun b=>M.next≤b)→ps.length + r.length≤s.length→Q (.tup [v,St r,Bo true]) M')→c [St s] M Q
theorem KH {B:Base} {f:List UInt8→List UInt8} {TP TS:Nat} {ch cw cg cv:aj} (hh:lV ch) (hw:IA B cw) (hg:pU B f cg) (hv:JA B cv) :
  Fw B f TP fun args M Q=>∃ a0,args=[a0]∧oO ch TP cw cg cv TS a0 M Q:=by
 intro M s Q hM hl hN hS
 refine⟨_,rfl, ?_⟩
 unfold oO
 simp only[dH,dI]
 refine aR (fun m ys M3=>∃ (t:List UInt8) (v:AV) (acc:List jG),m=t.length∧ys=[St t,v]∧acc.length + t.length≤s.length∧ae [] M M3 ∧
   eu iB M3 M.next TP v acc (fun b=>M.next≤b∧b<M3.next∧b ∉ aD v)∧pz f (t.length + 1) t acc=qZ f s) _
  ⟨s,aC,[],rfl,rfl,by simp,ae.refl _ _,.nil,rfl⟩ ?_
 rintro next m ys M3 hnext ⟨t,v,acc,rfl,rfl,hal,hK,ho,hp⟩
 have hM3:M3.base=B:=by rw[hK.base,hM]
 rw[pz] at hp
 dsimp only[ag]
 refine hh (by omega) ?_
 cases h59:bH 59 t with
 | false =>
   simp only[h59,Bool.false_eq_true,if_false] at hp
   rw[dU]
   refine hS v M3 acc t hK hp.symm ((ho.mono (fun b h=>h.1)).Cj (fun b hb _=>hb)) hal
 | true =>
   simp only[h59,if_true] at hp
   have htl:=aZ h59
   rw[eQ,aF,show aS (St t) (some (N .i64 1)) none=some (St (t.drop 1)) from bB (l:=1) (by omega) .i64,dG]
   have hb5:(M3.push (.row [St [],aC] false TP 0)).heap M3.next=some (.row [St [],aC] false TP 0):=RM.aQ _
   refine hw (by rw[RM.Qc,hM3]) (by simp; omega) fun M4 k4=>?_
   have hb5:=k4.ax hb5 (by simp[RM.push]) (by simp)
   have hn4:M3.next<M4.next:=by have:=k4.next; simp[RM.push] at this; omega
   have kk4:ae [] M3 M4:=((ae.refl _ _).push _).trans k4
   unfold Ng
   rw[bG,bI,gY,Nat.zero_add,AZ hb5 (by decide) rfl rfl,gY,Nat.zero_add,az (ay _) rfl]
   generalize ht1:t.drop 1=t1 at *
   have ht1l:t1.length + 1=t.length:=by rw[← ht1]; simp; omega
   have hwk:=uw t1
   generalize wk t1=k at *
   refine hg (by rw[RM.QL,kk4.base,hM3]) (by simp; omega) fun M5 k5=>?_
   rw[bQ]
   have fail:qZ f s=none→Q (.tup [aC,St [],Bo false]) M5:=fun h=>hN M5 ((hK.trans kk4).new _ hK.next |>.trans k5) h
   cases hgn:ll f ((t1.take k).map dF) with
   | false =>
     simp only[hgn,Bool.false_and,Bool.false_eq_true,if_false] at hp
     rw[Bool.not_false,gL]
     dsimp only
     rw[gI,eQ]
     exact fail hp.symm
   | true =>
   rw[Bool.not_true,jW]
   refine hh (by simp; omega) ?_
   rw[bQ]
   cases h61:bH 61 (t1.drop k) with
   | false =>
     simp only[h61,Bool.and_false,Bool.false_eq_true,if_false] at hp
     rw[Bool.not_false,iV,eQ]
     exact fail hp.symm
   | true =>
   simp only[hgn,h61,Bool.and_self,if_true] at hp
   rw[Bool.not_true,iV,dU]
   generalize ht2:t1.drop k=t2 at *
   have ht2l:t2.length≤t1.length:=by rw[← ht2]; simp
   generalize hnm:(t1.take k).map dF=nm at *
   -- the block of this parameter
   have hb5:M5.heap M3.next=some (.row [St nm,aC] false TP 0):=k5.ax (ay _) (by rw[jA]; exact hn4) (by simp)
   have kk5:ae [] M3 M5:=(kk4.new _ (Nat.le_refl _)).trans k5
   have hn5:M3.next<M5.next:=by have:=k5.next; rw[jA] at this; omega
   refine aR (fun m zs M6=>∃ (u:List UInt8) (vs:List (List UInt8)) (w:AV) (more:Bool),m=2 * u.length + (if more then 1 else 0)∧zs=[St u,v,Bo more]∧u.length + vs.length≤t2.length∧ae [] M3 M6∧M5.next≤M6.next ∧
     M6.heap M3.next=some (.row [St nm,w] false TP 0)∧eu iW.iY M6 M5.next TS w vs (fun _=>False) ∧
     (more=true→1≤u.length∧jd u.length u vs=jd t2.length t2 [])∧(more=false→jd t2.length t2 []=some (vs,u))) _
    ⟨t2,[],aC,true,rfl,rfl,by simp,kk5,Nat.le_refl _,hb5,.nil,fun _=>⟨aZ h61,rfl⟩,fun h=>by cases h⟩ ?_
   rintro EP m zs M6 mO ⟨u,vs,w,more,rfl,rfl,hul,hk6,hn6,hb6,how,hm1,hm2⟩
   dsimp only[ag]
   have hM6:M6.base=B:=by rw[hk6.base,hM3]
   cases more with
   | true =>
     obtain⟨hu1,hvf⟩:=hm1 rfl
     obtain⟨j,hj⟩ : ∃ j,u.length=j + 1:=⟨u.length - 1,by omega⟩
     rw[hj,jd] at hvf
     rw[eQ,show aS (St u) (some (N .i64 1)) none=some (St (u.drop 1)) from bB (l:=1) (by omega) .i64,dG]
     have hvl:=xJ (u.drop 1)
     refine hv hM6 (by simp; omega) fun M7 k7=>?_
     generalize mr (u.drop 1)=x at *
     obtain⟨a,after,ok⟩:=x
     simp only[List.length_drop] at hvl hvf
     rw[bG,bI,iq,bQ]
     dsimp only
     cases ok with
     | false =>
       simp only[Bool.false_eq_true,if_false] at hvf
       rw[Bool.not_false,eQ]
       refine hN M7 (hK.trans (hk6.trans k7)) ?_
       rw[← hp,← hvf]
     | true =>
     simp only[if_true] at hvf
     have hb7:=k7.ax hb6 (by omega) (by simp)
     rw[Bool.not_true,dU,gY,Nat.zero_add,az hb7 rfl,iR (x:=St a) (size:=1) rfl rfl rfl,aF]
     have Xb:=how.keep k7 (by simp) (by simp)
     refine eu.app (R:=iW.iY) (a:=a) (cs:=[St a]) Xb rfl (by have:=k7.next; omega) (Nat.le_refl _) (by simp) (by simp) (by omega) (by omega) ?_
     intro w' M8 o8 k8 n8 hw8 _
     have hwb:∀ b∈aD w,M5.next≤b:=fun b hb=>(how.blk b hb).1
     have hb8:=k8.ax hb7 (by have:=k7.next; omega) (fun h=>by have:=hwb _ h; omega)
     have Ra:∀ b∈aD w',M5.next≤b:=fun b hb=>(o8.blk b hb).1
     rw[gY,Nat.zero_add,AZ hb8 (by simp) o8.cells o8.one]
     refine hh (by omega) ?_
     have k9:ae [] M3 (M8.put M3.next (.row [St nm,w'] false TP 0)):=ae.new ((hk6.trans k7).eU k8 fun c hc=>.inl (by have:=hwb c hc; omega)) _ (Nat.le_refl _)
     refine mO _ _ _ ?_ ⟨after,vs++[a],w',bH 44 after,rfl,rfl,by simp; omega,k9,by rw[jA]; have:=k7.next; omega,ay _, ?_, ?_, ?_⟩
     ·split <;> simp <;> omega
     ·refine o8.keep (bs:=[M3.next]) ((ae.refl _ _).put _ (.inr (by simp))) (by simp) fun b hb=>?_
      have:=Ra b hb
      simp; omega
     ·intro hmo
      rw[if_pos hmo] at hvf
      refine⟨aZ hmo, ?_⟩
      rw[← hvf,wL after.length after _ j (Nat.le_refl _) (aZ hmo) (by omega)]
     ·intro hmo
      rw[hmo] at hvf
      simp only[Bool.false_eq_true,if_false] at hvf
      exact hvf.symm
   | false =>
     rw[hm2 rfl] at hp
     simp only at hp
     rw[dU,aM (n:=2) hb6 rfl,iR (x:=.agg [St nm,w]) (size:=2) rfl (by simp[AV.cells,how.one]; rfl) rfl,aF]
     have hvl:=ho.blk
     let S' : Nat→Prop:=fun b=>M.next≤b∧b<M6.next∧b ∉ aD v
     have ho6:eu iB M6 M.next TP v acc S':=(ho.keep hk6 (by simp) (by simp)).mono fun b h=>⟨h.1,by have:=hk6.next; omega,h.2.2⟩
     have hel:iB.rel M6 [St nm,w] (nm,vs) S':=JI ((how.mono (S':=S') (fun _ h=>h.elim)).Cj (fun b h1 h2=>⟨by have:=hK.next; omega,h2,fun hb=>by have:=(hvl b hb).2; omega⟩))
     refine eu.app (R:=iB) ho6 hel (by have:=hK.next; have:=hk6.next; omega) (by decide) (fun b hb h=>h.2.2 hb) (fun b h=>h.2.1) (by omega) (by omega) ?_
     intro v' M7 o7 k7 n7 hv7 hd7
     have hvs:=uL _ _ _ _ _ (aZ h61) (hm2 rfl)
     simp at hvs
     refine hnext _ _ _ (by omega) ⟨u,v',acc++[(nm,vs)],rfl,rfl,by simp; omega, ?_, ?_, ?_⟩
     ·exact(hK.trans hk6).eU k7 fun c hc=>.inl (hvl c hc).1
     ·exact o7.mono fun b h=>⟨h.1,by omega,fun hb=>hd7 b hb h⟩
     ·rw[← hp,Ao f u.length u _ t.length (Nat.le_refl _) (by omega)]
structure Ln where
 g:List UInt8
 n:List UInt8
 ps:List jG
 v:List UInt8
 deriving DecidableEq
def gP:jk (Ln × Int) where
 size:=5
 rel M cs a S:=∃ v,cs=[St a.1.g,St a.1.n,v,St a.1.v,N .i64 a.2]∧bD iB M v a.1.ps S
 len h:=by obtain⟨v,rfl,h⟩:=h; rfl
 one h:=by obtain⟨v,rfl,h⟩:=h; simp[h.one,eT]
 mono h hs:=by obtain⟨v,rfl,h⟩:=h; exact⟨v,rfl,h.mono hs⟩
 lt h:=by obtain⟨v,rfl,h⟩:=h; exact⟨v,rfl,h.lt⟩
 keep h hk hb:=by obtain⟨v,rfl,h⟩:=h; exact⟨v,rfl,h.keep hk hb⟩
abbrev lz:List AV:=[St [],St [],aC,St [],N .i64 0]
def dX (s:List UInt8) : List UInt8:=(s.take (wk s)).map dF
theorem Kv (s:List UInt8) : Ng s=.tup [St (dX s),St (s.drop (wk s))]:=rfl
def yF (f:List UInt8→List UInt8) (s:List UInt8) : Option (List UInt8 × List UInt8 × List UInt8) :=
 if bH 46 (s.drop (wk s)) then
  (if ll f (dX s) then some (dX s,dX ((s.drop (wk s)).drop 1),((s.drop (wk s)).drop 1).drop (wk ((s.drop (wk s)).drop 1))) else none)
 else some ([],dX s,s.drop (wk s))
def Ih (f:List UInt8→List UInt8) (g n s:List UInt8) : Option Ln :=
 match qZ f s with
 | none=>none
 | some (ps,r)=>if ll f n && bH 58 r && mV [] (r.drop 1) then some ⟨g,n,ps,r.drop 1⟩ else none
def ol (f:List UInt8→List UInt8) (s:List UInt8) : Option Ln :=
 if uy s then(match yF f s with
  | none=>none
  | some (g,n,r)=>Ih f g n r)
 else none
def U4 (B:Base) (f:List UInt8→List UInt8) (c:aj) : Prop:=∀ {M:RM} {s:List UInt8} {Q:ai},M.base=B→s.length≤10000 →
 (∀ M',ae [] M M'→ol f s=none→Q (.tup [.agg lz,Bo false]) M') →
 (∀ cs M' L,ae [] M M'→ol f s=some L→gP.rel M' cs (L,0) (fun b=>M.next≤b)→Q (.tup [.agg cs,Bo true]) M')→c [St s] M Q
theorem Ol {M:RM} {b T:Nat} {l:List AV} {Q:ai} (h:M.heap b=some (.row l false T 0)) (hl:l.length=5) (hQ:Q (.tup [.agg lz,Bo false]) (M.put b (.row lz false T 0))) :
  dB lz [] fun t=>aA M (.ptr b 0) t 5 fun M1=>aI M1 (.ptr b 0) 5 fun res=>Q (.tup [res,Bo false]) M1:=by
 rw[iG]
 refine⟨_,rfl, ?_⟩
 rw[bJ (n:=5) h rfl hl rfl,aM (n:=5) (ay _) rfl]
 exact hQ
theorem AU {B:Base} {f:List UInt8→List UInt8} {TP TL:Nat} {cvs cw ch cg cp cv:aj} (hvs:JK B cvs) (hw:IA B cw) (hh:lV ch) (hg:pU B f cg) (hp:Fw B f TP cp) (hv:lW B cv) :
  U4 B f fun args M Q=>∃ a0,args=[a0]∧tO TL cvs cw ch cg cp cv a0 M Q:=by
 intro M s Q hM hl hN hS
 refine⟨_,rfl, ?_⟩
 unfold tO
 simp only[dH,dI]
 rw[aF]
 have h2:(M.push (.row lz false TL 0)).heap M.next=some (.row lz false TL 0):=RM.aQ _
 have k1:ae [] M (M.push (.row lz false TL 0)):=(ae.refl _ _).push _
 have n1:(M.push (.row lz false TL 0)).next=M.next + 1:=rfl
 generalize M.push (.row lz false TL 0)=M1 at *
 refine hvs (by rw[k1.base,hM]) (by omega) ?_
 rw[bQ]
 unfold ol at hN hS
 cases hf:uy s with
 | false =>
   rw[Bool.not_false,eQ]
   exact Ol h2 rfl (hN _ (k1.new _ (Nat.le_refl _)) (by simp[hf]))
 | true =>
 simp only[hf,if_true] at hN hS
 rw[Bool.not_true,dU,aF]
 have h4:(M1.push (.row lz false TL 0)).heap (M.next + 1)=some (.row lz false TL 0):=by rw[← n1]; exact RM.aQ _
 have h2:(M1.push (.row lz false TL 0)).heap M.next=some (.row lz false TL 0):=rU h2 (by omega)
 have k2:ae [] M (M1.push (.row lz false TL 0)):=k1.push _
 have n2:(M1.push (.row lz false TL 0)).next=M.next + 2:=by rw[bF,n1]
 rw[n1]
 generalize M1.push (.row lz false TL 0)=M2 at *
 refine hw (by rw[k2.base,hM]) (by omega) fun M3 k3=>?_
 rw[Kv]
 have h2:=k3.ax h2 (by omega) (by simp)
 have h4:=k3.ax h4 (by omega) (by simp)
 have n3:=k3.next
 rw[bG,bI,aX,bK [St [],St (dX s),aC,St [],N .i64 0] h4 (by simp) rfl rfl rfl]
 have k4:ae [] M (M3.put (M.next + 1) (.row [St [],St (dX s),aC,St [],N .i64 0] false TL 0)):=(k2.trans k3).new _ (by omega)
 have h2:=df (z:=.row [St [],St (dX s),aC,St [],N .i64 0] false TL 0) h2 (show M.next≠M.next + 1 by omega)
 have h4:(M3.put (M.next + 1) (.row [St [],St (dX s),aC,St [],N .i64 0] false TL 0)).heap (M.next + 1)=some (.row [St [],St (dX s),aC,St [],N .i64 0] false TL 0):=ay _
 have n4:M.next + 2≤(M3.put (M.next + 1) (.row [St [],St (dX s),aC,St [],N .i64 0] false TL 0)).next:=by rw[jA]; omega
 generalize M3.put (M.next + 1) (.row [St [],St (dX s),aC,St [],N .i64 0] false TL 0)=M4 at *
 have hdl:=uw s
 refine bN (fun xs M'=>∃ g n r,xs=[St r]∧yF f s=some (g,n,r)∧r.length≤s.length∧n.length≤s.length∧ae [] M M'∧M.next + 2≤M'.next∧M'.heap M.next=some (.row lz false TL 0) ∧
   M'.heap (M.next + 1)=some (.row [St g,St n,aC,St [],N .i64 0] false TL 0)) ?_ ?_
 ·rintro _ M5 ⟨g,n,r,rfl,hhd,hrl,hnl,k5,n5,h2,h4⟩
  rw[hhd] at hN hS
  simp only at hN hS
  unfold Ih at hN hS
  dsimp only[ag]
  have stop:∀ M',ae [] M5 M'→qZ f r=none∨(∃ ps q,qZ f r=some (ps,q)∧(ll f n && bH 58 q && mV [] (q.drop 1))=false)→dB lz [] fun t=>aA M' (.ptr M.next 0) t 5 fun M1=>aI M1 (.ptr M.next 0) 5 fun res=>Q (.tup [res,Bo false]) M1:=by
   intro M' k' hc
   refine Ol (k'.ax h2 (by omega) (by simp)) rfl (hN _ ((k5.trans k').new _ (Nat.le_refl _)) ?_)
   rcases hc with hc | ⟨ps,q,hc,hc2⟩
   ·simp[hc]
   ·rw[hc]; simp only[hc2,Bool.false_eq_true,if_false]
  refine hp (by rw[k5.base,hM]) (by omega) ?_ ?_
  ·intro M6 k6 hpn
   rw[bG,bI,iq,bQ,Bool.not_false,gL]
   dsimp only
   rw[gI,gL]
   dsimp only
   rw[gI,gL]
   dsimp only
   rw[gI,eQ]
   exact stop M6 k6 (.inl hpn)
  ·intro v M6 ps q k6 hps hsl hlen
   have h4:=k6.ax h4 (by omega) (by simp)
   have n6:=k6.next
   rw[bG,bI,iq,bQ,Bool.not_true,jW,aX,az h4 rfl]
   refine hg (by rw[k6.base,k5.base,hM]) (by omega) fun M7 k7=>?_
   have h4:=k7.ax h4 (by omega) (by simp)
   have n7:=k7.next
   have k67:=k6.trans k7
   rw[bQ]
   dsimp only
   rw[iV]
   cases hgn:ll f n with
   | false =>
     rw[Bool.not_false,gL]
     dsimp only
     rw[gI,gL]
     dsimp only
     rw[gI,eQ]
     exact stop M7 k67 (.inr ⟨ps,q,hps,by rw[hgn]; rfl⟩)
   | true =>
   rw[Bool.not_true,jW]
   refine hh (by omega) ?_
   rw[bQ]
   dsimp only
   rw[iV]
   cases h58:bH 58 q with
   | false =>
     rw[Bool.not_false,gL]
     dsimp only
     rw[gI,eQ]
     exact stop M7 k67 (.inr ⟨ps,q,hps,by rw[hgn,h58]; rfl⟩)
   | true =>
   have hq1:=aZ h58
   rw[Bool.not_true,jW,show aS (St q) (some (N .i64 1)) none=some (St (q.drop 1)) from bB (l:=1) hq1 .i64,dG]
   refine hv (by rw[k7.base,k6.base,k5.base,hM]) (by simp; omega) fun M8 k8=>?_
   have h4:=k8.ax h4 (by omega) (by simp)
   have n8:=k8.next
   have k68:=k67.trans k8
   rw[bQ]
   dsimp only
   rw[iV]
   cases hgv:mV [] (q.drop 1) with
   | false =>
     rw[Bool.not_false,eQ]
     exact stop M8 k68 (.inr ⟨ps,q,hps,by rw[hgn,h58,hgv]; rfl⟩)
   | true =>
   have hs8:=hsl.keep (k7.trans k8) (by simp)
   rw[Bool.not_true,dU,dG,aX,bK [St g,St n,v,St [],N .i64 0] h4 (by simp) hs8.cells hs8.one rfl,dG]
   refine⟨rfl, ?_⟩
   rw[aX,bK [St g,St n,v,St (q.drop 1),N .i64 0] (ay _) (by simp) rfl rfl rfl,aM (n:=5) (ay _) rfl]
   have h2:=df (z:=.row [St g,St n,v,St (q.drop 1),N .i64 0] false TL 0) (df (z:=.row [St g,St n,v,St [],N .i64 0] false TL 0) (k68.ax h2 (by omega) (by simp)) (show M.next≠M.next + 1 by omega)) (show M.next≠M.next + 1 by omega)
   rw[bJ (n:=5) h2 rfl rfl (by simp[AV.cells,eT,hs8.one]),aM (n:=5) (ay _) rfl]
   refine hS _ _ ⟨g,n,ps,q.drop 1⟩ ?_ (by rw[hps]; simp only[hgn,h58,hgv,Bool.and_self,if_true]) ⟨v,rfl, ?_⟩
   ·exact(((k5.trans k68).new _ (by omega)).new _ (by omega)).new _ (Nat.le_refl _)
   ·refine(hs8.keep (bs:=[M.next,M.next + 1]) ((((ae.refl _ _).put _ (.inr (by simp))).put _ (.inr (by simp))).put _ (.inr (by simp))) ?_).mono fun b hb=>by omega
    intro b hb h
    simp at hb
    omega
 ·intro J hJ
  refine hh (by simp; omega) ?_
  unfold yF at hJ hN
  cases h46:bH 46 (s.drop (wk s)) with
  | false =>
    rw[dU]
    simp only[h46,Bool.false_eq_true,if_false] at hJ
    exact hJ _ _ ⟨[],dX s,_,rfl,rfl,by simp,by simp[dX]; omega,k4,n4,h2,h4⟩
  | true =>
    simp only[h46,if_true] at hJ hN
    rw[eQ,aX,az h4 rfl,aX,bK [St (dX s),St (dX s),aC,St [],N .i64 0] h4 (by simp) rfl rfl rfl,aX,az (ay _) rfl]
    have k5:ae [] M (M4.put (M.next + 1) (.row [St (dX s),St (dX s),aC,St [],N .i64 0] false TL 0)):=k4.new _ (by omega)
    have h2:=df (z:=.row [St (dX s),St (dX s),aC,St [],N .i64 0] false TL 0) h2 (show M.next≠M.next + 1 by omega)
    have h4:(M4.put (M.next + 1) (.row [St (dX s),St (dX s),aC,St [],N .i64 0] false TL 0)).heap (M.next + 1)=some (.row [St (dX s),St (dX s),aC,St [],N .i64 0] false TL 0):=ay _
    have n5:M.next + 2≤(M4.put (M.next + 1) (.row [St (dX s),St (dX s),aC,St [],N .i64 0] false TL 0)).next:=n4
    generalize M4.put (M.next + 1) (.row [St (dX s),St (dX s),aC,St [],N .i64 0] false TL 0)=M5 at *
    refine hg (by rw[k5.base,hM]) (by simp[dX]; omega) fun M6 k6=>?_
    have h2:=k6.ax h2 (by omega) (by simp)
    have h4:=k6.ax h4 (by omega) (by simp)
    have n6:=k6.next
    rw[bQ]
    cases hgn:ll f (dX s) with
    | false =>
      rw[Bool.not_false,eQ]
      refine Ol h2 rfl (hN _ ((k5.trans k6).new _ (Nat.le_refl _)) (by simp[hgn]))
    | true =>
      simp only[hgn,if_true] at hJ
      rw[Bool.not_true,dU,show aS (St (s.drop (wk s))) (some (N .i64 1)) none=some (St ((s.drop (wk s)).drop 1)) from bB (l:=1) (aZ h46) .i64,dG]
      refine hw (by rw[k6.base,k5.base,hM]) (by simp; omega) fun M7 k7=>?_
      have h2:=k7.ax h2 (by omega) (by simp)
      have h4:=k7.ax h4 (by omega) (by simp)
      have n7:=k7.next
      rw[Kv,bG,bI,aX,bK [St (dX s),St (dX ((s.drop (wk s)).drop 1)),aC,St [],N .i64 0] h4 (by simp) rfl rfl rfl]
      have hdl2:=uw ((s.drop (wk s)).drop 1)
      refine hJ _ _ ⟨dX s,dX ((s.drop (wk s)).drop 1),_,rfl,rfl,by simp,by simp[dX]; omega,((k5.trans k6).trans k7).new _ (by omega),by rw[jA]; omega,df h2 (by omega),ay _⟩
inductive Wl where
 | ok (l:List (Ln × Int))
 | bad (k:Int) (e:Int)
def ik (f:List UInt8→List UInt8) : List (List UInt8 × Int)→List (Ln × Int)→Wl
 | [],acc=>.ok acc
 | (s,k) :: r,acc=>if s=[] then ik f r acc else if 912<s.length then .bad k 2 else match ol f s with
   | none=>.bad k 3
   | some L=>ik f r (acc++[(L,k)])
def Qp (s:List UInt8) : List (List UInt8 × Int):=(kI [] [] 1 (gZ [] s)).1.zip (kI [] [] 1 (gZ [] s)).2
def Gz (f:List UInt8→List UInt8) (s:List UInt8) : Wl:=ik f (Qp s) []
theorem KN (acc:List (List UInt8)) (x:List UInt8) : (glue acc x).length=if acc≠[]∧isSp x=true then acc.length else acc.length + 1:=by
 unfold glue
 split
 ·rename_i h; simp
 ·rename_i h; simp
theorem JX:∀ (xs:List (List UInt8)) (acc:List (List UInt8)) (ns:List Int) (k:Int),acc.length=ns.length→(kI acc ns k xs).1.length=(kI acc ns k xs).2.length
 | [],acc,ns,k,h=>h
 | x :: xs,acc,ns,k,h=>by
   rw[kI]
   refine JX xs _ _ _ ?_
   rw[KN]
   split <;> simp[h]
theorem Ga:∀ (xs:List (List UInt8)) (acc:List (List UInt8)) (ns:List Int) (k:Int),(kI acc ns k xs).1.length≤acc.length + xs.length
 | [],acc,ns,k=>by simp[kI]
 | x :: xs,acc,ns,k=>by
   rw[kI]
   have:=Ga xs (glue acc x) (if acc≠[]∧isSp x=true then ns else ns++[k]) (IntKind.i64.wrap (k + 1))
   have h:=Rt acc x
   simp only[List.length_cons]
   omega
def tC (B:Base) (f:List UInt8→List UInt8) (c:aj) : Prop:=∀ {M:RM} {s:List UInt8} {Q:ai},M.base=B→s.length≤100000000 →
 (∀ v M' ls,ae [] M M'→Gz f s=.ok ls→bD gP M' v ls (fun b=>M.next≤b)→ls.length≤s.length + 1→Q (.tup [v,N .i64 0,N .i64 0]) M') →
 (∀ M' k e,ae [] M M'→Gz f s=.bad k e→Q (.tup [aC,N .i64 k,N .i64 e]) M')→c [St s] M Q
theorem J7 {B:Base} {f:List UInt8→List UInt8} {T TI TL:Nat} {cu cr:aj} (hu:CP T TI cu) (hr:U4 B f cr) : tC B f fun args M Q=>∃ a0,args=[a0]∧ul cu cr TL a0 M Q:=by
 intro M s Q hM hl hS hN
 refine⟨_,rfl, ?_⟩
 unfold ul
 simp only[dH,dI]
 refine hu (by omega) fun v u M1 ho1 ho2 hd k1=>?_
 have s1:=ho1.sD
 have s2:=ho2.sD
 have hlen:=JX (gZ [] s) [] [] 1 rfl
 have hle:=Ga (gZ [] s) [] [] 1
 have hrl:=sH s []
 simp only[List.length_nil,Nat.zero_add] at hle
 unfold Gz Qp at hS hN
 generalize (kI [] [] 1 (gZ [] s)).1=xs at *
 generalize (kI [] [] 1 (gZ [] s)).2=ns at *
 rw[bG,bI,dK.len s1]
 refine aR (fun m ys M3=>∃ (i:Nat) (w:AV) (acc:List (Ln × Int)),m=xs.length - i∧ys=[w,N .i64 i]∧i≤xs.length∧acc.length≤i∧ae [] M1 M3 ∧
   eu gP M3 M1.next TL w acc (fun b=>M1.next≤b∧b<M3.next∧b ∉ aD w)∧ik f ((xs.zip ns).drop i) acc=ik f (xs.zip ns) []) _
  ⟨0,aC,[],rfl,rfl,Nat.zero_le _,Nat.le_refl _,ae.refl _ _,.nil,rfl⟩ ?_
 rintro next m ys M3 hnext ⟨i,w,acc,rfl,rfl,hi,hal,hK,ho,hp⟩
 dsimp only[ag]
 rw[lM]
 refine bi (fun hlt=>?_) (fun hge=>?_)
 ·have hlt:i<xs.length:=by simpa using hlt
  have t1:=dK.keep s1 hK (by simp)
  have t2:=dK.keep s2 hK (by simp)
  have hz:(xs.zip ns).drop i=(xs[i],ns[i]'(by omega)) :: (xs.zip ns).drop (i + 1):=by
   rw[List.drop_eq_getElem_cons (by simp; omega)]; simp
  rw[hz,ik] at hp
  refine bN (fun zs M'=>∃ (w' : AV) (acc' : List (Ln × Int)),zs=[w']∧acc'.length≤i + 1∧ae [] M1 M'∧eu gP M' M1.next TL w' acc' (fun b=>M1.next≤b∧b<M'.next∧b ∉ aD w')∧ik f ((xs.zip ns).drop (i + 1)) acc'=ik f (xs.zip ns) []) ?_ ?_
  ·rintro _ M4 ⟨w',acc',rfl,h1,h2,h3,h4⟩
   dsimp only[ag]
   rw[ed,lG (by omega)]
   exact hnext _ _ _ (by omega) ⟨i + 1,w',acc',rfl,rfl,by omega,h1,h2,h3,h4⟩
  ·intro J hJ
   obtain⟨b,o,hb,hbm,hidx,hc⟩:=Sl.Sg (E:=iW) t1 (i:Int) hlt
   have hc:=hc _ rfl
   rw[hidx,dZ]
   refine⟨_,hc, ?_⟩
   rw[fB]
   obtain⟨b2,o2,hb2,hbm2,ND,hc2⟩:=Sl.Sg (E:=INT) t2 (i:Int) (show i<ns.length by omega)
   have hc2:=hc2 _ rfl
   generalize hxi:xs[i]=x at *
   generalize hni:ns[i]'(by omega)=k at *
   refine bi (fun he=>?_) (fun hne=>?_)
   ·have he:x=[]:=by simpa using he
    rw[if_pos he] at hp
    exact hJ _ _ ⟨w,acc,rfl,by omega,hK,ho,hp⟩
   ·have hne:¬ x=[]:=by simpa using hne
    rw[if_neg hne] at hp
    rw[bC,uf]
    refine bi (fun hg=>?_) (fun hg=>?_)
    ·have hg:912<x.length:=by simp at hg; omega
     rw[if_pos hg] at hp
     rw[ND,dZ]
     exact⟨_,hc2,hN M3 k 2 (k1.trans hK) hp.symm⟩
    ·have hg:¬ 912<x.length:=by simp at hg; omega
     rw[if_neg hg] at hp
     have hM3:M3.base=B:=by rw[hK.base,k1.base,hM]
     refine hr hM3 (by omega) ?_ ?_
     ·intro M4 k4 hrd
      rw[hrd] at hp
      rw[bG,bI,aF,bJ (n:=5) (RM.aQ _) rfl rfl rfl,bQ,Bool.not_false,eQ,ND,dZ]
      have kk:ae [] M3 ((M4.push (.row lz false TL 0)).put M4.next (.row lz false TL 0)):=(k4.push _).new _ k4.next
      exact⟨_,(kk.cell hb2 (by simp)).trans hc2,hN _ k 3 ((k1.trans hK).trans kk) hp.symm⟩
     ·intro cs M4 L k4 hrd hrel
      rw[hrd] at hp
      obtain⟨pv,rfl,hpv⟩:=hrel
      simp only at hpv hp
      have Xm:([St L.g,St L.n,pv,St L.v,N .i64 0] : List AV).all oneCell=true:=by simp[eT,hpv.one]
      have WS:([St L.g,St L.n,pv,St L.v,N .i64 k] : List AV).all oneCell=true:=by simp[eT,hpv.one]
      rw[bG,bI,aF,bJ (n:=5) (x:=.agg [St L.g,St L.n,pv,St L.v,N .i64 0]) (l:=lz) (RM.aQ _) rfl rfl Xm,bQ,Bool.not_true,dU,ND,dZ]
      have k45:ae [] M4 (((M4.push (.row lz false TL 0)).put M4.next (.row [St L.g,St L.n,pv,St L.v,N .i64 0] false TL 0)).put M4.next (.row [St L.g,St L.n,pv,St L.v,N .i64 k] false TL 0)) :=
       (((ae.refl _ _).push _).new _ (Nat.le_refl _)).new _ (Nat.le_refl _)
      have k4' : ae [] M3 ((M4.push (.row lz false TL 0)).put M4.next (.row [St L.g,St L.n,pv,St L.v,N .i64 0] false TL 0)):=(k4.push _).new _ k4.next
      refine⟨_,(k4'.cell hb2 (by simp)).trans hc2, ?_⟩
      rw[aX,bK [St L.g,St L.n,pv,St L.v,N .i64 k] (ay _) (by simp[AV.cells]) rfl rfl rfl,aM (n:=5) (ay _) rfl,iR (x:=.agg [St L.g,St L.n,pv,St L.v,N .i64 k]) (size:=5) rfl WS rfl,aF]
      have n5:(((M4.push (.row lz false TL 0)).put M4.next (.row [St L.g,St L.n,pv,St L.v,N .i64 0] false TL 0)).put M4.next (.row [St L.g,St L.n,pv,St L.v,N .i64 k] false TL 0)).next=M4.next + 1:=rfl
      have n4:=k4.next
      have n3:=hK.next
      have hvl:=ho.blk
      let S' : Nat→Prop:=fun b=>M1.next≤b∧b<M4.next + 1∧b ∉ aD w
      have ho5:=(ho.keep (k4.trans k45) (by simp) (by simp)).mono (S':=S') fun b h=>⟨h.1,by omega,h.2.2⟩
      have hel:=(show gP.rel _ _ (L,k) _ from⟨pv,rfl,(hpv.lt.keep k45 (by simp)).mono (S':=S') fun b h=>⟨by omega,by omega,fun hb=>by have:=(hvl b hb).2; omega⟩⟩)
      refine eu.app (R:=gP) ho5 hel (show M1.next≤M4.next + 1 by omega) (by decide) (fun b hb h=>h.2.2 hb) (fun b h=>(show b<M4.next + 1 from h.2.1)) (by omega) (by omega) ?_
      intro w' M6 o6 k6 n6 _ hd6
      have n6:M4.next + 1≤M6.next:=n6
      refine hJ _ _ ⟨w',acc++[(L,k)],rfl,by simp; omega, ?_,o6.mono fun b h=>⟨h.1,by have:=h.2.1; omega,fun hb=>hd6 b hb h⟩,hp⟩
      exact(hK.trans (k4.trans k45)).eU k6 fun c hc=>.inl (hvl c hc).1
 ·have hge:i=xs.length:=by simp at hge; omega
  subst hge
  rw[List.drop_of_length_le (by simp; omega)] at hp
  refine hS w M3 acc (k1.trans hK) hp.symm ((ho.mono (fun b h=>h.1)).Cj (fun b hb _=>hb) |>.mono fun b hb=>Nat.le_trans k1.next hb) (by omega)
theorem uC {α:Type} (p:α→Bool) : ∀ s:List α,s.drop (s.takeWhile p).length=s.dropWhile p∧s.take (s.takeWhile p).length=s.takeWhile p
 | []=>by simp
 | c :: s=>by
   rw[List.takeWhile_cons,List.dropWhile_cons]
   split
   ·have:=uC p s
    simp[this.1,this.2]
   ·simp
def bad (n:Nat) : Bool:=decide (n<1) || decide (20<n)
theorem JH (f:List UInt8→List UInt8) (N:Nat) : ∀ (k:Nat) (s:List UInt8) (acc ps:List jG) (r:List UInt8),s.length≤N→(∀ p∈acc,p.2.length≤N)→pz f k s acc=some (ps,r)→ps.length + r.length≤acc.length + s.length∧∀ p∈ps,p.2.length≤N
 | 0,s,acc,ps,r,_,_,h=>by cases h
 | k + 1,s,acc,ps,r,hN,ha,h=>by
   rw[pz] at h
   split at h
   ·rename_i h59
    have hpos:=aZ h59
    split at h
    ·rename_i hc
     simp only[Bool.and_eq_true] at hc
     have h61:=aZ hc.2
     generalize hk:((s.drop 1).drop (wk (s.drop 1))).length=kk at h
     cases hv:jd kk ((s.drop 1).drop (wk (s.drop 1))) [] with
     | none=>rw[hv] at h; cases h
     | some p =>
       obtain⟨vs,s3⟩:=p
       rw[hv] at h
       have h2:=uL _ _ _ _ _ h61 hv
       simp at h2
       simp only at h
       have:=JH f N k s3 _ ps r (by omega) (fun p hp=>by
        rcases List.mem_append.1 hp with hp | hp
        ·exact ha p hp
        ·simp at hp; subst hp; simp; omega) h
       refine⟨?_,this.2⟩
       have h3:=this.1
       simp at h3
       omega
    ·cases h
   ·cases h
    exact⟨Nat.le_refl _,ha⟩
def Small (N:Nat) (L:Ln) : Prop:=L.ps.length≤N∧∀ p∈L.ps,p.2.length≤N
theorem KW {f:List UInt8→List UInt8} {s:List UInt8} {L:Ln} {N:Nat} (hN:s.length≤N) (h:ol f s=some L) : Small N L:=by
 unfold ol at h
 split at h
 ·cases hh:yF f s with
  | none=>rw[hh] at h; cases h
  | some x =>
    obtain⟨g,n,r⟩:=x
    rw[hh] at h
    simp only[Ih] at h
    have hr:r.length≤N:=by
     unfold yF at hh
     split at hh
     ·split at hh
      ·cases hh; simp; omega
      ·cases hh
     ·cases hh; simp; omega
    unfold qZ at h
    cases hp:pz f (r.length + 1) r [] with
    | none=>rw[hp] at h; cases h
    | some y =>
      obtain⟨ps,q⟩:=y
      rw[hp] at h
      simp only at h
      split at h
      ·cases h
       have:=JH f N _ r [] ps q hr (by simp) hp
       refine⟨?_,this.2⟩
       have h3:=this.1
       simp at h3 ⊢; omega
      ·cases h
 ·cases h
theorem tV {f:List UInt8→List UInt8} : ∀ (l:List (List UInt8 × Int)) (acc ls:List (Ln × Int)),(∀ x∈acc,Small 912 x.1)→ik f l acc=.ok ls→∀ x∈ls,Small 912 x.1
 | [],acc,ls,ha,h=>by cases h; exact ha
 | (s,k) :: r,acc,ls,ha,h=>by
   rw[ik] at h
   split at h
   ·exact tV r acc ls ha h
   ·split at h
    ·cases h
    ·cases hr:ol f s with
     | none=>rw[hr] at h; cases h
     | some L =>
       rw[hr] at h
       refine tV r _ ls (fun x hx=>?_) h
       rcases List.mem_append.1 hx with hx | hx
       ·exact ha x hx
       ·simp at hx; subst hx
        exact KW (by omega) hr
abbrev mh:List UInt8→List UInt8:=fun s=>Lib.trimS s iw
theorem QX (s:List UInt8) : (Lib.indexAny s nY=-1∧∀ x∈s,x ∉ nY)∨∃ a c b,s=a++c :: b∧Lib.indexAny s nY=(a.length:Int)∧c∈nY∧∀ x∈a,x ∉ nY:=by
 induction s with
 | nil=>exact .inl ⟨rfl,by simp⟩
 | cons d s ih =>
   rw[Lib.indexAny]
   by_cases hd:d∈nY
   ·have:nY.contains d=true:=by simpa using hd
    exact .inr ⟨[],d,s,rfl,by rw[if_pos this]; rfl,hd,by simp⟩
   ·have:¬ nY.contains d=true:=by simpa using hd
    rw[if_neg this]
    rcases ih with⟨h1,h2⟩ | ⟨a,c,b,rfl,h1,h2,h3⟩
    ·exact .inl ⟨by rw[h1]; rfl,fun x hx=>by rcases List.mem_cons.1 hx with rfl | hx; exact hd; exact h2 x hx⟩
    ·refine .inr ⟨d :: a,c,b,rfl, ?_,h2,fun x hx=>by rcases List.mem_cons.1 hx with rfl | hx; exact hd; exact h3 x hx⟩
     rw[h1]
     have:((a.length:Int) == -1)=false:=by simp
     rw[this]; simp
end Go.Ab.Vl
namespace Go.Ab.Vl
open Go Go.Ab Go.Ab.Sm
def pV (c:UInt8) : UInt8:=if 97≤c.toNat∧c.toNat≤122 then UInt8.ofNat (c.toNat - 32) else c
def Km (c:aj) : Prop:=∀ {M:RM} {s:List UInt8} {Q:ai},s.length≤1000000000→(∀ M',ae [] M M'→Q (St (s.map pV)) M')→c [St s] M Q
section
variable {f:UInt8→UInt8} {s:List UInt8} {i:Nat}
theorem map_set (hi:i<s.length) (x:UInt8) : ((s.take i).map f++s.drop i).set i x=(s.take i).map f++x :: s.drop (i + 1):=by
 have hl:((s.take i).map f).length=i:=by simp; omega
 rw[List.drop_eq_getElem_cons hi,List.set_append_right _ _ (by omega),hl,Nat.sub_self,List.set_cons_zero]
theorem map_take (hi:i<s.length) : (s.take (i + 1)).map f++s.drop (i + 1)=(s.take i).map f++f s[i] :: s.drop (i + 1):=by
 rw[List.take_succ_eq_append_getElem hi,List.map_append,List.append_assoc]
 rfl
theorem Te (hi:i<s.length) (h:i<((s.take i).map f++s.drop i).length) : ((s.take i).map f++s.drop i)[i]=s[i]:=by
 have hl:((s.take i).map f).length=i:=by simp; omega
 rw[List.getElem_append_right (by omega)]
 simp only[hl,Nat.sub_self,List.getElem_drop,Nat.add_zero]
end
theorem Ty {c:UInt8} (h:¬ (97≤c.toNat∧c.toNat≤122)) : pV c=c:=if_neg h
theorem UO {c:UInt8} (h:97≤c.toNat∧c.toNat≤122) : (pV c).toNat=c.toNat - 32:=by
 have:=Ie c
 unfold pV
 rw[if_pos h,OY,Nat.mod_eq_of_lt (by omega)]
theorem Np {T8:Nat} : Km fun args M Q=>∃ a0,args=[a0]∧qG T8 a0 M Q:=by
 intro M s Q hl hQ
 refine⟨_,rfl, ?_⟩
 unfold qG
 simp only[dH,dI]
 rw[qp,aF,rT]
 have k1:ae [] M (M.push (.row (BY.row s) true T8 0)):=(ae.refl _ _).push _
 have o1:Ow BY (M.push (.row (BY.row s) true T8 0)) 0 T8 (.slc M.next 0 s.length (.op 1)) s:=.op M.next s.length _ (Nat.zero_le _) (by rw[bF]; omega) (RM.aQ _) (BY.fu _)
 generalize M.push (.row (BY.row s) true T8 0)=M1 at *
 refine aR (fun m ys M3=>∃ i:Nat,m=s.length - i∧ys=[N .i64 (i:Int)]∧i≤s.length∧Ow BY M3 0 T8 (.slc M.next 0 s.length (.op 1)) ((s.take i).map pV++s.drop i)∧ae [] M M3) s.length
  ⟨0,rfl,rfl,Nat.zero_le _,by simpa using o1,k1⟩ ?_
 rintro next m ys M3 hnext ⟨i,rfl,rfl,hi,o3,k3⟩
 dsimp only[ag]
 rw[kU]
 refine bi (fun hlt=>?_) (fun hge=>?_)
 ·have hlt:i<s.length:=of_decide_eq_true hlt
  have hlen:i<((s.take i).map pV++s.drop i).length:=by simp; omega
  obtain⟨b,hbk,hbl,hix,hld,hst⟩:=QE (E:=BY) rfl o3 hlen
  rw[Te hlt hlen] at hld
  have hbe:M.next=b:=by simpa [aD] using hbk
  refine bN (fun _ M'=>Ow BY M' 0 T8 (.slc M.next 0 s.length (.op 1)) ((s.take (i + 1)).map pV++s.drop (i + 1))∧ae [] M M') ?_ ?_
  ·rintro xs M4 ⟨o4,k4⟩
   rw[add1 (by omega)]
   exact hnext _ _ _ (by omega) ⟨i + 1,rfl,rfl,by omega,o4,k4⟩
  intro J hJ
  have cb:=Ie s[i]
  have same:¬ (97≤s[i].toNat∧s[i].toNat≤122)→J [] M3:=fun h=>hJ _ _ ⟨by rw[map_take hlt,Ty h,← List.drop_eq_getElem_cons hlt]; exact o3,k3⟩
  rw[hix,hld (By s[i]) rfl,By,eY]
  refine jH (p:=decide ((s[i].toNat:Int)≤122)) (fun _ k hk=>by rw[mX]; exact hk) ?_
  refine bi (fun hc=>?_) (fun hc=>same ?_)
  ·rw[Bool.and_eq_true,decide_eq_true_eq,decide_eq_true_eq] at hc
   have h:97≤s[i].toNat∧s[i].toNat≤122:=by omega
   obtain⟨M4,o4,e4,hs4⟩:=hst (pV s[i]) (By (pV s[i])) rfl rfl
   have wv:N IntKind.u8 (IntKind.u8.wrap (IntKind.u8.wrap ((s[i].toNat:Int) + 65) - 97))=By (pV s[i]):=by
    rw[By,UO h]
    rw[show IntKind.u8.wrap ((s[i].toNat:Int) + 65)=(s[i].toNat:Int) + 65 from qO (by omega) (by omega)]
    rw[qO (by omega) (by omega)]
    congr 1; omega
   rw[ed,lN,hix,wv,hs4]
   refine hJ _ _ ⟨?_, ?_⟩
   ·rw[map_take hlt,← map_set hlt]; exact o4
   ·rw[e4]; exact k3.put _ (.inl (by omega))
  ·rw[Bool.and_eq_false_iff,decide_eq_false_iff_not,decide_eq_false_iff_not] at hc
   omega
 ·have he:i=s.length:=by
   have:¬ i<s.length:=of_decide_eq_false hge
   omega
  subst he
  rw[List.take_length,List.drop_length,List.append_nil] at o3
  rw[Sl.str (Own.sD o3)]
  exact hQ M3 k3
def Fs (s:List UInt8) : Bool:=s.any fun c=>decide (c∈nY)
def QJ (B:Base) (c:aj) : Prop:=∀ {M:RM} {s:List UInt8} {Q:ai},M.base=B→s.length≤1000000000→(∀ M',ae [] M M'→Q (Bo (Fs s)) M')→c [St s,St nY] M Q
theorem QK {B:Base} {ci:aj} (hi:lL nY B ci) : QJ B fun args M Q=>∃ a0 a1,args=[a0,a1]∧fG ci a0 a1 M Q:=by
 intro M s Q hM hl hQ
 refine⟨_,_,rfl, ?_⟩
 unfold fG
 refine hi hM hl fun M' k=>?_
 have hQ:=hQ M' k
 rw[eY]
 rcases QX s with⟨e,h⟩ | ⟨a,c,b,e1,e2,h1,h2⟩
 ·have:Fs s=false:=by
   unfold Fs
   rw[List.any_eq_false]
   intro x hx
   simpa using h x hx
  rw[this] at hQ
  rw[e]; exact hQ
 ·have:Fs s=true:=by
   unfold Fs
   rw[List.any_eq_true]
   exact⟨c,by rw[e1]; simp,by simpa using h1⟩
  rw[this] at hQ
  rw[e2,show decide ((a.length:Int) ≥ 0)=true from decide_eq_true (by omega)]; exact hQ
structure BM (n0 b:Nat) (M M' : RM) : Prop where
 base:M'.base=M.base
 next:M.next≤M'.next
 heap:∀ c,c<n0→c≠b→M'.heap c=M.heap c
 shut:∀ c l e f,c<M.next→c≠b→M.heap c=some (.row l false e f)→M'.heap c=some (.row l false e f)
theorem iX.buf {TB T8 n0 b:Nat} {M:RM} {xs:List UInt8} {buf:AV} (hB:iX TB T8 n0 M b xs) (ho:Ow BY M n0 T8 buf xs) (he:xs=[]→buf=aC) : ∀ c∈aD buf,∀ l e f,M.heap c≠some (.row l false e f):=by
 intro c hc l e f hh
 by_cases hx:xs=[]
 ·rw[he hx] at hc; simp[aD] at hc
 ·obtain⟨d,rfl,_,h3⟩:=OV (Own.mono ho (Nat.zero_le _)) (List.length_pos_iff.2 hx)
  simp only[aD,List.mem_singleton] at hc
  subst hc
  rw[h3] at hh
  cases hh
theorem iX.keep {TB T8 n0 b:Nat} {M M' : RM} {xs:List UInt8} (hB:iX TB T8 n0 M b xs) (hk:ae [] M M') : iX TB T8 n0 M' b xs:=by
 obtain⟨addr,buf,hh,ha,ho,he⟩:=hB.row
 have:=hB.hn
 have:=hB.lt
 exact⟨hB.lt,Nat.le_trans hB.hn hk.next,addr,buf,hk.ax hh (by omega) (by simp),ha,Own.keep ho hk (by simp),he⟩
theorem BM.keep {n0 b:Nat} {M0 M M' : RM} (h0:ae [] M0 M) (h:BM n0 b M M') (hn:M0.next≤n0) (hb:M0.next≤b) : ae [] M0 M' :=
 ⟨h.base.trans h0.base,Nat.le_trans h0.next h.next,fun c h1 _=>(h.heap c (by omega) (by omega)).trans (h0.heap c h1 (by simp))⟩
def wP (TB T8:Nat) (c:aj) : Prop:=∀ {n0:Nat} {M:RM} {b:Nat} {xs:List UInt8} {x:UInt8} {Q:ai},iX TB T8 n0 M b xs→xs.length + 1≤140737488355328 →
 (∀ M',iX TB T8 n0 M' b (xs++[x])→BM n0 b M M'→Q (.sc .nilIface) M')→c [.ptr b 0,By x] M Q
theorem D5 {TB T8:Nat} {c:aj} (hc:wE TB c) : wP TB T8 fun args M Q=>∃ a0 a1,args=[a0,a1]∧dN c T8 a0 a1 M Q:=by
 intro n0 M b xs x Q hB hl hQ
 obtain⟨addr,buf,hh,ha,ho,he⟩:=hB.row
 refine⟨_,_,rfl, ?_⟩
 unfold dN
 refine hc hh ha ho.one fun M1 h1 hnx hbs hot=>?_
 have hbuf:=hB.buf ho he
 have hlt:=hB.lt
 have hn:=hB.hn
 have ho1:Ow BY M1 n0 T8 buf xs:=Own.same ho hnx (fun c hc=>hot c (by have:=ho.blk c hc; omega)) hbs
 simp only[go_sem,RM.cell_of h1]
 rw[iR (x:=By x) (size:=1) rfl rfl rfl]
 simp only[aF]
 refine nG (E:=BY) (a:=x) ho1 (by omega) (Nat.le_refl _) (by omega) hl fun v' M2 h2 k2 hnx2 hv=>?_
 have hb2:b ∉ aD buf:=fun hm=>by have:=ho.blk b hm; omega
 have hh2:=k2.ax h1 (by omega) hb2
 simp only[go_sem,RM.jg hh2]
 rw[Own.cells h2,fO (by simp) (by simp) (by simp[Own.one h2])]
 simp only[go_sem]
 have hne:∀ c∈aD v',c≠b:=fun c hm=>by have:=h2.blk c hm; omega
 refine hQ _ ⟨hlt,by show n0≤M2.next; omega,.ptr b 0,v',RM.jD _ _,.inr rfl,Own.same h2 rfl (fun c hm=>by simp[go_sem,hne c hm]) rfl,by simp⟩ ⟨?_, ?_,fun c h3 h4=>?_,fun c l e f h3 h4 h5=>?_⟩
 ·exact k2.base.trans hbs
 ·show M.next≤M2.next
  omega
 ·simp only[go_sem,if_neg h4]
  rw[k2.heap c (by omega) (fun hm=>by have:=ho.blk c hm; omega),hot c h4]
 ·simp only[go_sem,if_neg h4]
  rw[k2.heap c (by omega) (fun hm=>hbuf c hm l e f h5),hot c h4,h5]
def tJ (TB T8:Nat) (c:aj) : Prop:=∀ {n0:Nat} {M:RM} {b:Nat} {xs s:List UInt8} {Q:ai},iX TB T8 n0 M b xs→xs.length + s.length≤140737488355328 →
 (∀ M',iX TB T8 n0 M' b (xs++s)→BM n0 b M M'→Q (.tup [N .i64 s.length,.sc .nilIface]) M')→c [.ptr b 0,St s] M Q
theorem Cg {TB T8:Nat} {c:aj} (hc:wE TB c) : tJ TB T8 fun args M Q=>∃ a0 a1,args=[a0,a1]∧dE c T8 a0 a1 M Q:=by
 intro n0 M b xs s Q hB hl hQ
 obtain⟨addr,buf,hh,ha,ho,he⟩:=hB.row
 refine⟨_,_,rfl, ?_⟩
 unfold dE
 refine hc hh ha ho.one fun M1 h1 hnx hbs hot=>?_
 have hbuf:=hB.buf ho he
 have hlt:=hB.lt
 have hn:=hB.hn
 have ho1:Ow BY M1 n0 T8 buf xs:=Own.same ho hnx (fun c hc=>hot c (by have:=ho.blk c hc; omega)) hbs
 simp only[go_sem,RM.cell_of h1]
 have hnew:mq M1 1 [N .u8 0] false (St s)=some (s.length,BY.row s):=by
  simp only[mq,qj,if_true]
 by_cases hne0:xs++s=[]
 ·obtain⟨rfl,rfl⟩:=List.append_eq_nil_iff.1 hne0
  have hb0:=he rfl
  subst hb0
  refine⟨0,[],hnew,by omega,by omega,aC,M1,by simp[qF], ?_⟩
  simp only[go_sem,RM.jg h1]
  rw[fO (by simp) (by simp) (by simp[oneCell])]
  simp only[go_sem]
  refine hQ _ ⟨hlt,by show n0≤M1.next; omega,.ptr b 0,aC,by simp[go_sem],.inr rfl,.nil,fun _=>rfl⟩ ⟨hbs,by show M.next≤M1.next; omega,fun c h3 h4=>?_,fun c l e f h3 h4 h5=>?_⟩
  ·simp only[go_sem,if_neg h4]
   exact hot c h4
  ·simp only[go_sem,if_neg h4]
   rw[hot c h4,h5]
 refine BP ho1 (by omega) (Nat.le_refl _) hnew (by rw[BY.fu]; rfl) (BY.jR s) (by omega) (by omega) fun v' M2 h2 k2 hnx2 hv=>?_
 rw[← BY.qW] at h2
 have h2:Ow BY M2 n0 T8 v' (xs++s):=by
  show Own M2 n0 T8 1 v' (BY.row (xs++s)) (xs++s).length
  rw[List.length_append]; exact h2
 have hb2:b ∉ aD buf:=fun hm=>by have:=ho.blk b hm; omega
 have hh2:=k2.ax h1 (by omega) hb2
 simp only[go_sem,RM.jg hh2]
 rw[Own.cells h2,fO (by simp) (by simp) (by simp[Own.one h2])]
 simp only[go_sem]
 have hne:∀ c∈aD v',c≠b:=fun c hm=>by have:=h2.blk c hm; omega
 refine hQ _ ⟨hlt,by show n0≤M2.next; omega,.ptr b 0,v',RM.jD _ _,.inr rfl,Own.same h2 rfl (fun c hm=>by simp[go_sem,hne c hm]) rfl,fun e=>absurd e hne0⟩ ⟨?_, ?_,fun c h3 h4=>?_,fun c l e f h3 h4 h5=>?_⟩
 ·exact k2.base.trans hbs
 ·show M.next≤M2.next
  omega
 ·simp only[go_sem,if_neg h4]
  rw[k2.heap c (by omega) (fun hm=>by have:=ho.blk c hm; omega),hot c h4]
 ·simp only[go_sem,if_neg h4]
  rw[k2.heap c (by omega) (fun hm=>hbuf c hm l e f h5),hot c h4,h5]
def CK (v:List UInt8) : Bool:=!mV [34] v
def yJ (f:List UInt8→List UInt8) (p:jG) : Bool:=!(!ll f p.1 || decide (p.2.length=0) || p.2.any CK)
def Bv (f:List UInt8→List UInt8) (L:Ln) : Bool:=!((L.g != []) && !ll f L.g || !ll f L.n || !mV [] L.v) && L.ps.all (yJ f)
structure LB (N:Nat) (L:Ln) : Prop where
 g:L.g.length≤N
 n:L.n.length≤N
 v:L.v.length≤N
 ps:L.ps.length≤N
 pn:∀ p∈L.ps,p.1.length≤N
 pl:∀ p∈L.ps,p.2.length≤N
 pv:∀ p∈L.ps,∀ v∈p.2,v.length≤N
theorem Fv {M:RM} {v:AV} {ps:List jG} {S:Nat→Prop} (h:bD iB M v ps S) {i:Nat} (hi:i<ps.length) : ∃ pv,bD iW.iY M pv ps[i].2 S∧∀ K:AV→Prop,(bg v (N .i64 (i:Int)) 2 fun p=>aI M p 2 K)=K (.agg [St ps[i].1,pv]):=by
 obtain⟨b,o,cs,hb,hbm,hidx,hld,hrel⟩:=bD.at h 2 (i:Int) hi
 obtain⟨ds,rfl,pv,rfl,hpv⟩:=hrel
 refine⟨pv,hpv,fun K=>?_⟩
 rw[hidx,qf,hld]
 exact propext ⟨fun⟨_,e,hk⟩=>by cases e; exact hk,fun hk=>⟨_,rfl,hk⟩⟩
theorem Jm {M:RM} {v:AV} {xs:List (List UInt8)} (h:Sl iW M v xs) {i:Nat} (hi:i<xs.length) {K:AV→Prop} : (bg v (N .i64 (i:Int)) 1 fun p=>ak M p K)=K (St xs[i]):=by
 obtain⟨b,o,_,_,hidx,hc⟩:=Sl.Sg (E:=iW) h (i:Int) hi
 rw[hidx,dZ,hc _ rfl]
 simp
section
variable {B:Base}
def Rk (B:Base) (c:aj) : Prop:=∀ {M:RM} {s:List UInt8} {Q:ai},M.base=B→s.length≤1000000000→(∀ M',ae [] M M'→Q (Bo (CK s)) M')→c [St s] M Q
theorem MI {cv:aj} (hv:lW B cv) : Rk B fun args M Q=>∃ a0,args=[a0]∧oQ cv a0 M Q:=by
 intro M s Q hM hl hQ
 refine⟨_,rfl, ?_⟩
 unfold oQ
 refine hv hM hl fun M' k=>?_
 rw[bQ]
 exact hQ M' k
def FW (B:Base) (n:Nat) (c:aj) : Prop:=∀ {M:RM} {v:AV} {xs:List (List UInt8)} {Q:ai},M.base=B→Sl iW M v xs→xs.length≤1000000000→(∀ x∈xs,x.length≤1000000000)→(∀ M',ae [] M M'→Q (Bo (xs.any CK)) M')→c [v,.fn (.func n) [] []] M Q
def Fz (B:Base) (n:Nat) (c:aj) : Prop:=∀ {M:RM} {v:AV} {xs:List (List UInt8)} {Q:ai},M.base=B→Sl iW M v xs→xs.length≤1000000000→(∀ x∈xs,x.length≤1000000000)→(∀ M' (k:Int),ae [] M M'→decide (k ≥ 0)=xs.any CK→Q (N .i64 k) M')→c [v,.fn (.func n) [] []] M Q
theorem H6 {n:Nat} {cv:FuncId→aj} (hv:Rk B (cv n)) : Fz B n fun args M Q=>∃ a0 a1,args=[a0,a1]∧lJ cv a0 a1 M Q:=by
 intro M v xs Q hM hs hl hxl hQ
 refine⟨_,_,rfl, ?_⟩
 unfold lJ
 rw[dK.len hs]
 refine aR (fun m ys M'=>∃ i:Nat,m=xs.length - i∧ys=[N .i64 (i:Int)]∧i≤xs.length∧ae [] M M'∧(xs.drop i).any CK=xs.any CK) xs.length ⟨0,rfl,rfl,Nat.zero_le _,ae.refl _ _,rfl⟩ ?_
 rintro next m ys M1 hnext ⟨i,rfl,rfl,hi,k1,hh⟩
 dsimp only[ag]
 rw[kU]
 refine bi (fun hlt=>?_) (fun hge=>?_)
 ·have hlt:i<xs.length:=of_decide_eq_true hlt
  rw[Jm (dK.keep hs k1 (by simp)) hlt,QC]
  rw[List.drop_eq_getElem_cons hlt,List.any_cons] at hh
  refine hv (k1.base.trans hM) (hxl _ (List.getElem_mem hlt)) fun M2 k2=>?_
  refine bi (fun hb=>?_) (fun hb=>?_)
  ·rw[hb,Bool.true_or] at hh
   exact hQ M2 _ (k1.trans k2) (by rw[← hh]; exact decide_eq_true (by omega))
  ·rw[hb,Bool.false_or] at hh
   rw[add1 (by omega)]
   exact hnext _ _ _ (by omega) ⟨i + 1,rfl,rfl,by omega,k1.trans k2,hh⟩
 ·have he:i=xs.length:=by
   have:¬ i<xs.length:=of_decide_eq_false hge
   omega
  subst he
  rw[List.drop_length] at hh
  exact hQ M1 _ k1 (by rw[← hh]; rfl)
theorem Dk {n:Nat} {ci:aj} (hi:Fz B n ci) : FW B n fun args M Q=>∃ a0 a1,args=[a0,a1]∧jM ci a0 a1 M Q:=by
 intro M v xs Q hM hs hl hxl hQ
 refine⟨_,_,rfl, ?_⟩
 unfold jM
 refine hi hM hs hl hxl fun M' k k' he=>?_
 rw[eY,he]
 exact hQ M' k'
def KD (B:Base) (f:List UInt8→List UInt8) (c:aj) : Prop:=∀ {M:RM} {cs:List AV} {L:Ln} {k:Int} {S:Nat→Prop} {Q:ai},M.base=B→gP.rel M cs (L,k) S→LB 1000000000 L→(∀ M',ae [] M M'→Q (Bo (Bv f L)) M')→c [.agg cs] M Q
theorem Aj {f:List UInt8→List UInt8} {TL TP n:Nat} {cn cv cc:aj} (hn:pU B f cn) (hv:lW B cv) (hc:FW B n cc) : KD B f fun args M Q=>∃ a0,args=[a0]∧sJ TL cn cv TP cc n a0 M Q:=by
 intro M cs L k S Q hM hrel hb hQ
 obtain⟨v,rfl,hps⟩:=hrel
 simp only at hps
 refine⟨_,rfl, ?_⟩
 unfold sJ
 simp only[dH]
 have hall:([St L.g,St L.n,v,St L.v,N .i64 k] : List AV).all oneCell=true:=by simp[eT,hps.one]
 rw[ic hall (by simp),aF]
 have k1:ae [] M (M.push (.row [St L.g,St L.n,v,St L.v,N .i64 k] false TL 0)):=(ae.refl _ _).push _
 have h1:(M.push (.row [St L.g,St L.n,v,St L.v,N .i64 k] false TL 0)).heap M.next=some (.row [St L.g,St L.n,v,St L.v,N .i64 k] false TL 0):=RM.aQ _
 have n1:(M.push (.row [St L.g,St L.n,v,St L.v,N .i64 k] false TL 0)).next=M.next + 1:=bF _
 generalize M.push (.row [St L.g,St L.n,v,St L.v,N .i64 k] false TL 0)=M1 at *
 have hk:∀ {M' : RM},ae [] M1 M'→M'.base=B∧M'.heap M.next=some (.row [St L.g,St L.n,v,St L.v,N .i64 k] false TL 0):=fun k'=>⟨(k'.base.trans k1.base).trans hM,k'.ax h1 (by omega) (by simp)⟩
 rw[aX,az h1 rfl,ni]
 refine IG (p:=!ll f L.g) (P:=fun M'=>ae [] M1 M') (ae.refl _ _) (fun _ kk hkk=>?_) (fun M2 k2=>?_)
 ·rw[aX,az h1 rfl]
  refine hn (k1.base.trans hM) hb.g fun M' k'=>?_
  rw[bQ]
  exact hkk _ k'
 refine Oe (p:=!ll f L.n) (P:=fun M'=>ae [] M1 M') k2 (fun _ kk hkk=>?_) (fun M3 k3=>?_)
 ·rw[aX,az (hk k2).2 rfl]
  refine hn (hk k2).1 hb.n fun M' k'=>?_
  rw[bQ]
  exact hkk _ (k2.trans k')
 refine Oe (p:=!mV [] L.v) (P:=fun M'=>ae [] M1 M') k3 (fun _ kk hkk=>?_) (fun M4 k4=>?_)
 ·rw[aX,az (hk k3).2 rfl]
  refine hv (hk k3).1 hb.v fun M' k'=>?_
  rw[bQ]
  exact hkk _ (k3.trans k')
 unfold Bv at hQ
 refine bi (fun hcnd=>?_) (fun hcnd=>?_)
 ·rw[hcnd,Bool.not_true,Bool.false_and] at hQ
  exact hQ _ (k1.trans k4)
 rw[hcnd,Bool.not_false,Bool.true_and] at hQ
 have Rp:bD iB M4 v L.ps S:=(hps.keep k1 (by simp)).keep k4 (by simp)
 rw[aX,az (hk k4).2 rfl,Rp.len]
 refine aR (fun m ys M'=>∃ i:Nat,m=L.ps.length - i∧ys=[N .i64 (i:Int)]∧i≤L.ps.length∧ae [] M1 M'∧(L.ps.drop i).all (yJ f)=L.ps.all (yJ f)) L.ps.length ⟨0,rfl,rfl,Nat.zero_le _,k4,rfl⟩ ?_
 rintro next m ys M5 hnext ⟨i,rfl,rfl,hi,k5,hh⟩
 dsimp only[ag]
 rw[kU]
 have hpl:=hb.ps
 refine bi (fun hlt=>?_) (fun hge=>?_)
 ·have hlt:i<L.ps.length:=of_decide_eq_true hlt
  have IL:bD iB M5 v L.ps S:=(hps.keep k1 (by simp)).keep k5 (by simp)
  obtain⟨pv,hpv,hall⟩:=Fv IL hlt
  have hmem:=List.getElem_mem hlt
  have b1:=hb.pn _ hmem
  have b2:=hb.pl _ hmem
  have b3:=hb.pv _ hmem
  rw[List.drop_eq_getElem_cons hlt,List.all_cons] at hh
  generalize L.ps[i]=p at *
  rw[hall,aF,bJ (n:=2) (RM.aQ _) rfl rfl (by simp[eT,AV.cells,hpv.one])]
  have k6:ae [] M5 ((M5.push (.row [St [],aC] false TP 0)).put M5.next (.row (AV.agg [St p.1,pv]).cells false TP 0)):=((ae.refl _ _).push _).put _ (.inl (Nat.le_refl _))
  have h6:((M5.push (.row [St [],aC] false TP 0)).put M5.next (.row (AV.agg [St p.1,pv]).cells false TP 0)).heap M5.next=some (.row [St p.1,pv] false TP 0):=ay _
  have n6:((M5.push (.row [St [],aC] false TP 0)).put M5.next (.row (AV.agg [St p.1,pv]).cells false TP 0)).next=M5.next + 1:=rfl
  generalize (M5.push (.row [St [],aC] false TP 0)).put M5.next (.row (AV.agg [St p.1,pv]).cells false TP 0)=M6 at *
  have k56:=k5.trans k6
  have NF:bD iW.iY M6 pv p.2 S:=hpv.keep k6 (by simp)
  rw[aX,az h6 rfl]
  refine hn (hk k56).1 b1 fun M7 k7=>?_
  rw[bQ]
  have h7:=k7.ax h6 (by omega) (by simp)
  have UU:=NF.keep k7 (by simp)
  have k57:=k56.trans k7
  refine qN (p:=decide (p.2.length=0)) (fun _ kk hkk=>?_) ?_
  ·rw[aX,az h7 rfl,UU.len,show(N .i64 (0:Int))=N .i64 ((0:Nat) : Int) from rfl,Xf]
   exact hkk
  refine Oe (p:=p.2.any CK) (P:=fun M'=>ae [] M1 M') k57 (fun _ kk hkk=>?_) (fun M8 k8=>?_)
  ·rw[aX,az h7 rfl]
   refine hc (hk k57).1 UU.sl b2 b3 fun M' k'=>?_
   exact hkk _ (k57.trans k')
  refine bi (fun hc=>?_) (fun hc=>?_)
  ·have:yJ f p=false:=by unfold yJ; rw[hc]; rfl
   rw[this,Bool.false_and] at hh
   rw[← hh] at hQ
   exact hQ _ (k1.trans k8)
  ·have:yJ f p=true:=by unfold yJ; rw[hc]; rfl
   rw[this,Bool.true_and] at hh
   rw[add1 (by omega)]
   exact hnext _ _ _ (by omega) ⟨i + 1,rfl,rfl,by omega,k8,hh⟩
 ·have he:i=L.ps.length:=by
   have:¬ i<L.ps.length:=of_decide_eq_false hge
   omega
  subst he
  rw[List.drop_length] at hh
  rw[← hh] at hQ
  exact hQ _ (k1.trans k5)
end
def qv (v:List UInt8) : List UInt8:=if Fs v then[34]++v++[34] else v
def tailV (vs:List (List UInt8)) : List UInt8:=vs.flatMap fun v=>44 :: qv v
def oq:List (List UInt8)→List UInt8
 | []=>[]
 | v :: vs=>qv v++tailV vs
def uY (p:jG) : List UInt8:=[59]++p.1.map pV++[61]++oq p.2
def nk (L:Ln) : List UInt8:=if L.g=[] then[] else L.g++[46]
def xU (L:Ln) : List UInt8:=L.n.map pV++L.ps.flatMap uY
def jo (L:Ln) : List UInt8:=nk L++xU L++[58]++L.v
def yY (j:Nat) (vs:List (List UInt8)) : List UInt8:=if j=0 then oq vs else tailV (vs.drop j)
theorem MQ {vs:List (List UInt8)} {j:Nat} (hj:j<vs.length) : yY j vs=(if 0<j then[44] else[])++(qv vs[j]++yY (j + 1) vs):=by
 unfold yY
 rw[if_neg (by omega:¬ j + 1=0)]
 by_cases h:j=0
 ·subst h
  rw[if_pos rfl,if_neg (by omega)]
  cases vs with
  | nil=>simp at hj
  | cons v vs=>simp[oq]
 ·rw[if_neg h,if_pos (by omega),List.drop_eq_getElem_cons hj]
  unfold tailV
  rw[List.flatMap_cons]
  rfl
theorem Qf (vs:List (List UInt8)) : yY vs.length vs=[]:=by
 unfold yY
 cases vs with
 | nil=>rfl
 | cons v vs=>rw[if_neg (by simp),List.drop_length]; rfl
theorem Ee {α:Type} {a b c:List α} (h:a++b=c) : a.length + b.length=c.length:=by rw[← h,List.length_append]
theorem bD.old {α:Type} {R:jk α} {M A C:RM} {v:AV} {xs:List α} {S:Nat→Prop} (h:bD R A v xs S) (hS:∀ b,S b→b<M.next) (kA:ae [] M A) (kC:ae [] M C) (n:A.next≤C.next) : bD R C v xs S:=by
 have hk:ae ((List.range A.next).filter fun c=>decide (M.next≤c)) A C:=⟨kC.base.trans kA.base.symm,n,fun c h1 h2=>by
  have h3:c<M.next:=by
   rcases Nat.lt_or_ge c M.next with h | h
   ·exact h
   ·exact absurd (List.mem_filter.2 ⟨List.mem_range.2 h1,decide_eq_true h⟩) h2
  rw[kC.heap c h3 (by simp),kA.heap c h3 (by simp)]⟩
 refine h.keep hk fun b hb hs=>?_
 have h1:=hS b hs
 have h2:=of_decide_eq_true (List.mem_filter.1 hb).2
 omega
structure wB (TB T8 TL:Nat) (M:RM) (cells:List AV) (M' : RM) (xs:List UInt8) : Prop where
 bld:iX TB T8 (M.next + 2) M' (M.next + 1) xs
 keep:ae [] M M'
 row:M'.heap M.next=some (.row cells false TL 0)
 nx:M.next + 2≤M'.next
section
variable {TB T8 TL:Nat} {M M' M2:RM} {cells:List AV} {xs ys:List UInt8}
theorem wB.more (h:wB TB T8 TL M cells M' xs) (k:ae [] M' M2) : wB TB T8 TL M cells M2 xs :=
 ⟨h.bld.keep k,h.keep.trans k,k.ax h.row (by have:=h.nx; omega) (by simp),Nat.le_trans h.nx k.next⟩
theorem wB.write (h:wB TB T8 TL M cells M' xs) (hb:iX TB T8 (M.next + 2) M2 (M.next + 1) ys) (k:BM (M.next + 2) (M.next + 1) M' M2) : wB TB T8 TL M cells M2 ys :=
 ⟨hb,BM.keep h.keep k (by omega) (by omega),k.shut _ _ _ _ (by have:=h.nx; omega) (by omega) h.row,Nat.le_trans h.nx k.next⟩
end
section
variable {B:Base}
def Om (B:Base) (c:aj) : Prop:=∀ {M:RM} {cs:List AV} {L:Ln} {k:Int} {S:Nat→Prop} {Q:ai},M.base=B→gP.rel M cs (L,k) S→LB 1000000000 L→(jo L).length≤140737488355328→(∀ M',ae [] M M'→Q (St (jo L)) M')→c [.agg cs] M Q
theorem Py {TL TB TP T8:Nat} {cw cg cb ca cs:aj} (hw:tJ TB T8 cw) (hg:Km cg) (hb:wP TB T8 cb) (ha:QJ B ca) (hs:rJ TB T8 cs) : Om B fun args M Q=>∃ a0,args=[a0]∧ug TL TB cw cg TP cb ca cs a0 M Q:=by
 intro M cs L k S Q hM hrel hB hlen hQ
 obtain⟨v,rfl,hps⟩:=hrel
 simp only at hps
 refine⟨_,rfl, ?_⟩
 unfold ug
 simp only[dI]
 have hall:([St L.g,St L.n,v,St L.v,N .i64 k] : List AV).all oneCell=true:=by simp[eT,hps.one]
 rw[ic hall (by simp),aF,aF]
 have st0:wB TB T8 TL M [St L.g,St L.n,v,St L.v,N .i64 k] ((M.push (.row [St L.g,St L.n,v,St L.v,N .i64 k] false TL 0)).push (.row [.sc (.pointer none),aC] false TB 0)) [] :=
  ⟨iX.new (RM.aQ _) (by omega) (by rw[bF,bF]; omega),((ae.refl _ _).push _).push _,rU (RM.aQ _) (by rw[bF]; omega),by rw[bF,bF]; omega⟩
 rw[bF]
 generalize (M.push (.row [St L.g,St L.n,v,St L.v,N .i64 k] false TL 0)).push (.row [.sc (.pointer none),aC] false TB 0)=M1 at *
 have hbase:∀ {M' : RM},ae [] M M'→M'.base=B:=fun h=>h.base.trans hM
 have hW:(jo L).length=(nk L).length + ((L.n.map pV).length + (L.ps.flatMap uY).length) + 1 + L.v.length:=by
  unfold jo xU; simp only[List.length_append,List.length_cons,List.length_nil]
 refine bN (fun _ M'=>wB TB T8 TL M [St L.g,St L.n,v,St L.v,N .i64 k] M' (nk L)) ?_ ?_
 rotate_left
 ·intro J hJ
  rw[aX,az st0.row rfl,ni]
  refine bi (fun hc=>?_) (fun hc=>?_)
  ·have hne:L.g≠[]:=by simpa using hc
   have hgl:=hB.g
   have hgj:nk L=L.g++[46]:=if_neg hne
   rw[aX,az st0.row rfl,bM]
   refine⟨by simp; omega, ?_⟩
   refine hw st0.bld (by simp; omega) fun M2 b2 k2=>?_
   refine hJ _ _ ?_
   rw[hgj]
   exact st0.write b2 k2
  ·have he:L.g=[]:=by simpa using hc
   refine hJ _ _ ?_
   have hgj:nk L=[]:=if_pos he
   rw[hgj]
   exact st0
 clear st0
 clear M1
 rintro _ M2 st2
 rw[aX,az st2.row rfl]
 refine hg hB.n fun M3 k3=>?_
 have st3:=st2.more k3
 refine hw st3.bld (by omega) fun M4 b4 k4=>?_
 have st4:=st3.write b4 k4
 clear st2 st3 b4 k4 k3
 have Rp:bD iB M4 v L.ps S:=hps.keep st4.keep (by simp)
 rw[aX,az st4.row rfl,Rp.len]
 generalize hWd:nk L++xU L=W
 have hWl:W.length=(nk L).length + ((L.n.map pV).length + (L.ps.flatMap uY).length):=by
  rw[← hWd]; unfold xU; simp only[List.length_append]
 have Xi:=hB.ps
 refine aR (fun m ys M5=>∃ (i:Nat) (xs:List UInt8),m=L.ps.length - i∧ys=[N .i64 (i:Int)]∧i≤L.ps.length∧wB TB T8 TL M [St L.g,St L.n,v,St L.v,N .i64 k] M5 xs∧xs++(L.ps.drop i).flatMap uY=W) L.ps.length
  ⟨0,_,rfl,rfl,Nat.zero_le _,st4,by rw[← hWd]; unfold xU; rw[List.drop_zero,List.append_assoc]⟩ ?_
 rintro next m ys M5 hnext ⟨i,xs,rfl,rfl,hi,st5,hx⟩
 dsimp only[ag]
 rw[kU]
 refine bi (fun hlt=>?_) (fun hge=>?_)
 ·have hlt:i<L.ps.length:=of_decide_eq_true hlt
  have IL:bD iB M5 v L.ps (fun b=>S b∧b<M.next):=hps.lt.keep st5.keep (by simp)
  obtain⟨pv,hpv,hall⟩:=Fv IL hlt
  have hmem:=List.getElem_mem hlt
  have b1:=hB.pn _ hmem
  have b2:=hB.pl _ hmem
  have b3:=hB.pv _ hmem
  rw[List.drop_eq_getElem_cons hlt,List.flatMap_cons] at hx
  generalize L.ps[i]=p at *
  rw[hall,aF,bJ (n:=2) (RM.aQ _) rfl rfl (by simp[eT,AV.cells,hpv.one])]
  have k6:ae [] M5 ((M5.push (.row [St [],aC] false TP 0)).put M5.next (.row (AV.agg [St p.1,pv]).cells false TP 0)):=((ae.refl _ _).push _).put _ (.inl (Nat.le_refl _))
  have h6:((M5.push (.row [St [],aC] false TP 0)).put M5.next (.row (AV.agg [St p.1,pv]).cells false TP 0)).heap M5.next=some (.row [St p.1,pv] false TP 0):=ay _
  have n6:((M5.push (.row [St [],aC] false TP 0)).put M5.next (.row (AV.agg [St p.1,pv]).cells false TP 0)).next=M5.next + 1:=rfl
  generalize (M5.push (.row [St [],aC] false TP 0)).put M5.next (.row (AV.agg [St p.1,pv]).cells false TP 0)=M6 at *
  have st6:=st5.more k6
  have nx5:=st5.nx
  have hpj:uY p=[59]++p.1.map pV++[61]++oq p.2:=rfl
  have hxl:=Ee hx
  rw[hpj] at hxl
  simp only[List.length_append,List.length_cons,List.length_nil] at hxl
  rw[aX,az h6 rfl]
  refine hg b1 fun M7 k7=>?_
  have st7:=st6.more k7
  have h7:=k7.ax h6 (by omega) (by simp)
  have n7:=k7.next
  rw[bM]
  refine⟨by simp; omega, ?_⟩
  rw[bM]
  refine⟨by simp; omega, ?_⟩
  refine hw st7.bld (by simp only[List.length_append,List.length_cons,List.length_nil]; omega) fun M8 b8 k8=>?_
  have st8:=st7.write b8 k8
  have h8:=k8.shut _ _ _ _ (by omega) (by omega) h7
  have UR:bD iW.iY M8 pv p.2 (fun b=>S b∧b<M.next):=bD.old hpv (fun b h=>h.2) st5.keep st8.keep (by have:=k6.next; have:=k8.next; omega)
  rw[aX,az h8 rfl,UR.len]
  generalize hrest:(L.ps.drop (i + 1)).flatMap uY=rest at *
  refine aR (fun m ys M9=>∃ (j:Nat) (zs:List UInt8),m=p.2.length - j∧ys=[N .i64 (j:Int)]∧j≤p.2.length∧wB TB T8 TL M [St L.g,St L.n,v,St L.v,N .i64 k] M9 zs∧M8.next≤M9.next∧zs++(yY j p.2++rest)=W) p.2.length
   ⟨0,_,rfl,rfl,Nat.zero_le _,st8,Nat.le_refl _, ?_⟩ ?_
  ·rw[← hx,hpj]
   simp only[List.append_assoc,yY,if_true]
  rintro EP m ys M9 mO ⟨j,zs,rfl,rfl,hj,st9,n9,hz⟩
  dsimp only[ag]
  rw[kU]
  refine bi (fun hlt2=>?_) (fun Qs=>?_)
  ·have hlt2:j<p.2.length:=of_decide_eq_true hlt2
   have Rc:bD iW.iY M9 pv p.2 (fun b=>S b∧b<M.next):=bD.old UR (fun b h=>h.2) st8.keep st9.keep n9
   rw[MQ hlt2] at hz
   have b4:=b3 _ (List.getElem_mem hlt2)
   have hzl:=Ee hz
   simp only[List.length_append] at hzl
   refine bN (fun _ M'=>wB TB T8 TL M [St L.g,St L.n,v,St L.v,N .i64 k] M' (zs++((if 0<j then[44] else[])++qv p.2[j]))∧M9.next≤M'.next) ?_ ?_
   ·rintro _ Ma ⟨sta,na⟩
    rw[add1 (by omega)]
    refine mO _ _ _ (by omega) ⟨j + 1,_,rfl,rfl,by omega,sta,by omega, ?_⟩
    rw[← hz]
    simp only[List.append_assoc]
   intro J hJ
   rw[Jm Rc.sl hlt2]
   generalize p.2[j]=x at *
   refine bN (fun _ M'=>wB TB T8 TL M [St L.g,St L.n,v,St L.v,N .i64 k] M' (zs++(if 0<j then[44] else[]))∧M9.next≤M'.next) ?_ ?_
   ·rintro _ Ma ⟨sta,na⟩
    refine bN (fun ys M'=>ys=[St (qv x)]∧wB TB T8 TL M [St L.g,St L.n,v,St L.v,N .i64 k] M' (zs++(if 0<j then[44] else[]))∧M9.next≤M'.next) ?_ ?_
    ·rintro _ Mb ⟨rfl,stb,nb⟩
     dsimp only[ag]
     refine hw stb.bld (by rw[List.length_append]; omega) fun Mc bc kc=>?_
     refine hJ _ _ ⟨?_,Nat.le_trans nb kc.next⟩
     rw[← List.append_assoc]
     exact stb.write bc kc
    intro J2 hJ2
    refine ha (hbase sta.keep) b4 fun Mb kb=>?_
    have stb:=sta.more kb
    have nb:=Nat.le_trans na kb.next
    refine bi (fun hh=>?_) (fun hh=>?_)
    ·rw[bM]
     refine⟨by simp; omega, ?_⟩
     rw[bM]
     refine⟨by simp; omega, ?_⟩
     exact hJ2 _ _ ⟨by rw[qv,if_pos hh],stb,nb⟩
    ·exact hJ2 _ _ ⟨by rw[qv,if_neg (by rw[hh]; simp)],stb,nb⟩
   intro J2 hJ2
   rw[show(N .i64 (0:Int))=N .i64 ((0:Nat) : Int) from rfl,Gp]
   refine bi (fun hh=>?_) (fun hh=>?_)
   ·have hh:0<j:=of_decide_eq_true hh
    rw[if_pos hh] at hzl hJ2
    simp only[List.length_cons,List.length_nil] at hzl
    show cb [.ptr (M.next + 1) 0,By 44] M9 _
    refine hb st9.bld (by omega) fun Mb bb kb=>?_
    refine hJ2 _ _ ⟨?_,kb.next⟩
    exact st9.write bb kb
   ·have hh:¬ 0<j:=of_decide_eq_false hh
    refine hJ2 _ _ ⟨?_,Nat.le_refl _⟩
    rw[if_neg hh,List.append_nil]; exact st9
  ·have he:j=p.2.length:=by
    have:¬ j<p.2.length:=of_decide_eq_false Qs
    omega
   subst he
   rw[Qf,List.nil_append] at hz
   rw[add1 (by omega)]
   exact hnext _ _ _ (by omega) ⟨i + 1,zs,rfl,rfl,by omega,st9,by rw[hrest]; exact hz⟩
 ·have he:i=L.ps.length:=by
   have:¬ i<L.ps.length:=of_decide_eq_false hge
   omega
  subst he
  rw[List.drop_length,List.flatMap_nil,List.append_nil] at hx
  subst hx
  rw[aX,az st5.row rfl]
  refine hs st5.bld (by omega) fun M6 k6=>?_
  have h6:M6.heap M.next=some (.row [St L.g,St L.n,v,St L.v,N .i64 k] false TL 0):=by rw[k6.heap _ (by omega) (by simp)]; exact st5.row
  rw[az h6 rfl]
  refine⟨rfl, ?_⟩
  rw[bM]
  refine⟨by simp; omega, ?_⟩
  rw[bM]
  refine⟨by simp; omega, ?_⟩
  have kk:ae [] M M6:=⟨k6.base.trans st5.keep.base,Nat.le_trans st5.keep.next k6.next,fun c h1 _=>by rw[k6.heap c (by omega) (by simp)]; exact st5.keep.heap c h1 (by simp)⟩
  have:=hQ M6 kk
  unfold jo at this
  rw[hWd] at this
  exact this
end
def jm (f:List UInt8→List UInt8) (L:Ln) : List UInt8 × Int:=if Bv f L then(if 912<(jo L).length then([],2) else(fo 0 (jo L)++[13,10],0)) else([],1)
section
variable {B:Base}
def DW (B:Base) (F:Ln→List UInt8 × Int) (c:aj) : Prop:=∀ {M:RM} {cs:List AV} {L:Ln} {k:Int} {S:Nat→Prop} {Q:ai},M.base=B→gP.rel M cs (L,k) S→LB 1000000000 L→(jo L).length≤140737488355328→(∀ M',ae [] M M'→Q (.tup [St (F L).1,N .i64 (F L).2]) M')→c [.agg cs] M Q
theorem Sk (s:List UInt8) : (fo 0 s).length≤4 * s.length + 4:=by
 have:=E5 s.length (u:=0) (s:=s) (Nat.le_refl _)
 omega
theorem Nq {f:List UInt8→List UInt8} {TL:Nat} {cg cl cf:aj} (hg:KD B f cg) (hl:Om B cl) (hf:Pg B cf) : DW B (jm f) fun args M Q=>∃ a0,args=[a0]∧qJ TL cg cl cf a0 M Q:=by
 intro M cs L k S Q hM hrel hB hlen hQ
 refine⟨_,rfl, ?_⟩
 unfold qJ
 have hsz:cs.length=5:=gP.len hrel
 rw[ic (gP.one hrel) (by omega),aF]
 have k1:ae [] M (M.push (.row cs false TL 0)):=(ae.refl _ _).push _
 have h1:(M.push (.row cs false TL 0)).heap M.next=some (.row cs false TL 0):=RM.aQ _
 have n1:(M.push (.row cs false TL 0)).next=M.next + 1:=bF _
 generalize M.push (.row cs false TL 0)=M1 at *
 unfold jm at hQ
 rw[aM (n:=5) h1 hsz]
 refine hg (k1.base.trans hM) (gP.keep hrel k1 (by simp)) hB fun M2 k2=>?_
 have k12:=k1.trans k2
 have h2:=k2.ax h1 (by omega) (by simp)
 rw[bQ]
 refine bi (fun hc=>?_) (fun hc=>?_)
 ·have hc:Bv f L=false:=by simpa using hc
  rw[if_neg (by rw[hc]; simp)] at hQ
  exact hQ M2 k12
 have hc:Bv f L=true:=by simpa using hc
 rw[if_pos hc] at hQ
 rw[aM (n:=5) h2 hsz]
 refine hl (k12.base.trans hM) (gP.keep hrel k12 (by simp)) hB hlen fun M3 k3=>?_
 have k13:=k12.trans k3
 rw[bC,show(N .i64 (912:Int))=N .i64 ((912:Nat) : Int) from rfl,Gp]
 refine bi (fun hc=>?_) (fun hc=>?_)
 ·rw[if_pos (of_decide_eq_true hc)] at hQ
  exact hQ M3 k13
 have hc:=of_decide_eq_false hc
 rw[if_neg (by omega)] at hQ
 refine hf (k13.base.trans hM) (by omega) fun M4 k4=>?_
 rw[bM]
 have:=Sk (jo L)
 exact⟨by simp; omega,hQ M4 (k13.trans k4)⟩
end
end Go.Ab.Vl
namespace Go.Ab.Vl
open Go Go.Ab
def Eu (f:List UInt8→List UInt8) (s:List UInt8) : List (Ln × Int) × Int × Int:=match Gz f s with
 | .ok ls=>(ls,0,0)
 | .bad k e=>([],k,e)
def WW (B:Base) (f:List UInt8→List UInt8) (c:aj) : Prop:=∀ {M:RM} {s:List UInt8} {Q:ai},M.base=B→s.length≤100000000 →
 (∀ v M',ae [] M M'→bD gP M' v (Eu f s).1 (fun b=>M.next≤b)→(Eu f s).1.length≤s.length + 1→(∀ x∈(Eu f s).1,Small 912 x.1)→Q (.tup [v,N .i64 (Eu f s).2.1,N .i64 (Eu f s).2.2]) M')→c [St s] M Q
theorem tC.one {B:Base} {f:List UInt8→List UInt8} {c:aj} (h:tC B f c) : WW B f c:=by
 intro M s Q hM hl hQ
 refine h hM hl ?_ ?_
 ·intro v M' ls k hls hsl hle
  have e:Eu f s=(ls,0,0):=by unfold Eu; rw[hls]
  rw[e] at hQ
  exact hQ v M' k hsl hle (tV _ _ _ (by simp) hls)
 ·intro M' k e kk hb
  have he:Eu f s=([],k,e):=by unfold Eu; rw[hb]
  rw[he] at hQ
  exact hQ aC M' kk bD.nil (by simp) (by simp)
theorem OM (v:List UInt8) : (qv v).length≤v.length + 2:=by
 unfold qv; split
 ·simp
 ·omega
end Go.Ab.Vl
namespace Go.Ab.Vl
open Go Go.Ab Go.Ab.Sm
theorem LB.mono {N K:Nat} {L:Ln} (h:LB N L) (hk:N≤K) : LB K L :=
 ⟨Nat.le_trans h.g hk,Nat.le_trans h.n hk,Nat.le_trans h.v hk,Nat.le_trans h.ps hk,fun p hp=>Nat.le_trans (h.pn p hp) hk,fun p hp=>Nat.le_trans (h.pl p hp) hk,fun p hp v hv=>Nat.le_trans (h.pv p hp v hv) hk⟩
end Go.Ab.Vl
namespace Go.Ab.Vc
open Go Go.Ab
abbrev Str:=List UInt8
abbrev Kc:=Str × Nat × Nat
def toC (t:Kc) : AV × AV × Nat:=(St t.1,N .i64 (t.2.1:Int),t.2.2)
def oG:List Kc→Str→Option Nat
 | [],_=>none
 | t :: T,s=>if s=t.1 then some t.2.1 else oG T s
def FD (s:Str) (v:Nat) : List Kc→List Kc
 | []=>[]
 | t :: T=>if s=t.1 then(s,v,t.2.2) :: T else t :: FD s v T
theorem JC (s:Str) : ∀ (T:List Kc) (i:Nat),(oG T s=none∧lg false [2] [St s] (T.map toC) i=some none) ∨
  ∃ j v,oG T s=some v∧lg false [2] [St s] (T.map toC) i=some (some (i + j,N .i64 ((v:Nat) : Int)))∧∀ w:Nat,CL (St s) (N .i64 (w:Int)) (T.map toC) j=(FD s w T).map toC
 | [],i=>.inl ⟨rfl,rfl⟩
 | t :: T,i=>by
   simp only[List.map_cons,toC,lg,eX,oG,FD]
   rw[if_pos (show([St t.1] : List AV).length=([2] : List Nat).length from rfl),yN]
   by_cases hs:s=t.1
   ·simp only[if_pos hs,Eb]
    exact .inr ⟨0,t.2.1,rfl,rfl,fun w=>rfl⟩
   ·simp only[if_neg hs]
    rcases JC s T (i + 1) with⟨h1,h2⟩ | ⟨j,v,h1,h2,h3⟩
    ·exact .inl ⟨h1,h2⟩
    ·refine .inr ⟨j + 1,v,h1,by rw[h2,show i + 1 + j=i + (j + 1) by omega],fun w=>?_⟩
     rw[CL,h3 w]; rfl
theorem O7 (s x:Str) (w:Nat) : ∀ (T:List Kc) {v:Nat},oG T s=some v→oG (FD s w T) x=if x=s then some w else oG T x
 | [],v,h=>by cases h
 | t :: T,v,h=>by
   rw[oG] at h
   rw[FD,oG]
   by_cases hs:s=t.1
   ·rw[if_pos hs,oG]
    by_cases hx:x=s
    ·rw[if_pos hx,if_pos hx]
    ·rw[if_neg hx,if_neg hx,if_neg (fun e=>hx (e.trans hs.symm))]
   ·rw[if_neg hs] at h
    rw[if_neg hs,oG,O7 s x w T h]
    by_cases hx:x=t.1
    ·rw[if_pos hx,if_pos hx,if_neg (fun e=>hs (e.symm.trans hx))]
    ·rw[if_neg hx,if_neg hx]
theorem L9 (s x:Str) (w k:Nat) : ∀ (T:List Kc),oG T s=none→oG (T++[(s,w,k)]) x=if x=s then some w else oG T x
 | [],_=>rfl
 | t :: T,h=>by
   rw[oG] at h
   by_cases hs:s=t.1
   ·rw[if_pos hs] at h; cases h
   ·rw[if_neg hs] at h
    rw[List.cons_append,oG,L9 s x w k T h,oG]
    by_cases hx:x=t.1
    ·rw[if_pos hx,if_pos hx,if_neg (fun e=>hs (e.symm.trans hx))]
    ·rw[if_neg hx,if_neg hx]
structure jO (M:RM) (mb:Nat) (f:Str→Nat) : Prop where
 lt:mb<M.next
 ex:∃ T cl,M.heap mb=some (.map (T.map toC) cl)∧∀ s,f s=(oG T s).getD 0
section
variable {M M' : RM} {mb:Nat} {f:Str→Nat} {ks:List Nat} {s:Str}
theorem jO.keep (h:jO M mb f) (k:ae ks M M') (hd:mb ∉ ks) : jO M' mb f :=
 ⟨Nat.lt_of_lt_of_le h.lt k.next,let ⟨T,cl,h1,h2⟩:=h.ex; ⟨T,cl,k.ax h1 h.lt hd,h2⟩⟩
theorem jO.look (h:jO M mb f) {K:AV→Prop} (hK:K (N .i64 (f s:Int))) : rR false [2] (N .i64 (0:Int)) false M (.map mb) (St s) K:=by
 obtain⟨T,cl,h1,h2⟩:=h.ex
 have h2:=h2 s
 rcases JC s T 0 with⟨a1,a2⟩ | ⟨j,v,a1,a2,a3⟩
 ·rw[a1] at h2
  refine⟨mb,_,cl,[St s],none,rfl,h1,rfl,rfl,a2, ?_⟩
  rw[h2] at hK; exact hK
 ·rw[a1] at h2
  refine⟨mb,_,cl,[St s],_,rfl,h1,rfl,rfl,a2, ?_⟩
  rw[h2] at hK; exact hK
theorem jO.upd (h:jO M mb f) {w:Nat} {K:RM→Prop} (hK:∀ M',jO M' mb (fun x=>if x=s then w else f x)→ae [mb] M M'→M'.next=M.next→K M') : wC false [2] M (.map mb) (St s) (N .i64 (w:Int)) K:=by
 obtain⟨T,cl,h1,h2⟩:=h.ex
 rcases JC s T 0 with⟨a1,a2⟩ | ⟨j,v,a1,a2,a3⟩
 ·refine⟨mb,_,cl,[St s],none,rfl,h1,rfl,rfl,a2,hK _ ⟨h.lt,T++[(s,w,cl)],cl + 1, ?_,fun x=>?_⟩ ((ae.refl _ _).put _ (.inr (by simp))) rfl⟩
  ·rw[ay]; simp[Rb,toC]
  ·rw[L9 s x w cl T a1,h2 x]; split <;> rfl
 ·refine⟨mb,_,cl,[St s],_,rfl,h1,rfl,rfl,a2,hK _ ⟨h.lt,FD s w T,cl, ?_,fun x=>?_⟩ ((ae.refl _ _).put _ (.inr (by simp))) rfl⟩
  ·rw[ay]; simp only[Rb,Nat.zero_add]; rw[a3 w]
  ·rw[O7 s x w T a1,h2 x]; split <;> rfl
theorem jO.new (M:RM) : jO (M.push (.map [] 0)) M.next (fun _=>0):=⟨Nat.lt_succ_self _,[],0,RM.aQ _,fun s=>rfl⟩
end
end Go.Ab.Vc
namespace Go.Ab.Vc
open Go Go.Ab Go.Ab.Vl Go.Ab.Sm
def lu:Str:=[44,59,58,35]
def FM (s:Str) : Bool:=s.any fun c=>decide (c∈lu)
def q4 (v:Str) : Str:=if FM v then[34]++v++[34] else v
def yS (vs:List Str) : Str:=vs.flatMap fun v=>44 :: q4 v
def BZ:List Str→Str
 | []=>[]
 | v :: vs=>q4 v++yS vs
def C8 (p:jG) : Str:=[59]++p.1++[61]++BZ p.2
def BI (ps:List jG) : Str:=ps.flatMap C8
def fQ (L:Ln) : Str:=nk L++(L.n++BI L.ps)
abbrev lH:Str:=[114,97,119]
abbrev sN:Str:=[98,101,103,105,110]
abbrev ig:Str:=[118,101,114,115,105,111,110]
abbrev Jr:Str:=[101,110,100]
abbrev MF:Str:=[117,105,100]
abbrev bV:Str:=[118,99,97,114,100]
abbrev Sw:Str:=[52,46,48]
def Lp:List Str:=[[102,110],[110,105,99,107,110,97,109,101],[116,101,108],[101,109,97,105,108],[110,111,116,101],[111,114,103],[116,105,116,108,101],[114,111,108,101],[99,97,116,101,103,111,114,105,101,115]]
def yT (n:Str) : Bool:=decide (n∈Lp)
def FE (n:Str) : Bool:=decide (n=sN) || decide (n=ig) || decide (n=Jr)
abbrev Fd:=Str × Str
def bA (L:Ln) : Fd :=
 if yT L.n then match eG L.v with
  | some s=>if esc s=L.v then(fQ L,s) else(lH++[46]++fQ L,L.v)
  | none=>(lH++[46]++fQ L,L.v)
 else(fQ L,L.v)
def kG (n:Str) (k:Int) : Str:=if k=0 then n else n++[35]++Lib.itoa (IntKind.wrap .i64 (k + 1))
def iP (L:Ln) (k:Int) : Fd × Bool :=
 if (jm mh L).2=0∧L.g≠lH∧FE L.n=false∧0≤k then((kG (bA L).1 k,(bA L).2),true) else(([],[]),false)
def fE (L:Ln) (name:Str) : Bool :=
 decide (L.n=name) && decide (L.g=[]) && decide (L.ps.length=0) && (if name=ig then decide (L.v=Sw) else decide (L.v.map dF=bV))
def iA (b:Int) : List (Ln × Int)→List (Ln × Int)→Except Int (List (Ln × Int) × List (Ln × Int))
 | [],_=>.error b
 | x :: r,acc=>if fE x.1 Jr then .ok (acc,r) else if FE x.1.n || decide (x.1.g=lH) then .error x.2 else iA b r (acc++[x])
def qE:Nat→List (Ln × Int)→List (List (Ln × Int))→Except Int (List (List (Ln × Int)))
 | 0,_,acc=>.ok acc
 | _ + 1,[],acc=>.ok acc
 | k + 1,x :: r,acc=>if fE x.1 sN=false then .error x.2 else match r with
   | []=>.error x.2
   | y :: r=>if fE y.1 ig=false then .error y.2 else match iA x.2 r [x] with
     | .error e=>.error e
     | .ok (c,r')=>qE k r' (acc++[c])
abbrev Cd:=Str × List Fd × Int
def eO (ns:List Str) (n:Str) : Nat:=ns.countP (· = n)
def xO:List (Ln × Int)→List Str→List Fd→Except (Int × Int) (List Fd)
 | [],_,acc=>.ok acc
 | x :: r,ns,acc =>
   if 64<(kG (bA x.1).1 (eO ns (bA x.1).1)).length∨512<(bA x.1).2.length then .error (x.2,2)
   else xO r (ns++[(bA x.1).1]) (acc++[(kG (bA x.1).1 (eO ns (bA x.1).1),(bA x.1).2)])
def oZ (fs:List Fd) : Str:=fs.flatMap fun p=>p.1++[0]++p.2++[0]
def nT (h:Str→Str) (ls:List (Ln × Int)) (all:Str) : Str:=match ls.find? fun x=>decide (x.1.n=MF) && decide (x.1.g=[]) with
 | some x=>if 1≤x.1.v.length∧x.1.v.length≤64 then x.1.v else[99,45]++(h all).take 16
 | none=>[99,45]++(h all).take 16
def Iy (h:Str→Str) : List (Ln × Int)→Except (Int × Int) Cd
 | []=>.error (0,0)
 | b :: ls=>match xO ls [] [] with
   | .error e=>.error e
   | .ok fs=>.ok (nT h ls (oZ fs),fs,b.2)
def wD (h:Str→Str) : List (List (Ln × Int))→List Cd→Except (Int × Int) (List Cd)
 | [],acc=>.ok acc
 | l :: r,acc=>match Iy h l with
   | .error e=>.error e
   | .ok c=>wD h r (acc++[c])
def uW (h:Str→Str) (s:Str) : Except (Int × Int) (List Cd):=match Gz mh s with
 | .bad k e=>.error (k,e)
 | .ok ls=>match qE (ls.length + 1) ls [] with
   | .error w=>.error (w,3)
   | .ok cs=>wD h cs []
def dP (s:Str) : Str × Str:=(s.takeWhile (iw.contains ·),s.dropWhile (iw.contains ·))
def qI (s:Str) : Str × Str × Bool :=
 if bH 34 s then match brk 34 (s.drop 1) with
  | some (a,b)=>(a,b,true)
  | none=>(s.drop 1,[],false)
 else if Lib.indexAny s lu<0 then(s,[],true) else(s.take (Lib.indexAny s lu).toNat,s.drop (Lib.indexAny s lu).toNat,true)
def il:Nat→Str→List Str→Option (List Str × Str)
 | 0,_,_=>none
 | k + 1,s,acc=>match qI (s.drop 1) with
   | (v,r,true)=>if bH 44 r then il k r (acc++[v]) else some (acc++[v],r)
   | _=>none
def jN:Nat→Str→List jG→Option (List jG × Str)
 | 0,_,_=>none
 | k + 1,s,acc=>if bH 59 s then
     if bH 61 (dP (s.drop 1)).2 then match il (dP (s.drop 1)).2.length (dP (s.drop 1)).2 [] with
      | some (vs,r)=>jN k r (acc++[((dP (s.drop 1)).1,vs)])
      | none=>none
     else none
   else some (acc,s)
def LC:Ln:=⟨[],[],[],[]⟩
def yC (s:Str) : Int × Bool:=match Lib.atoiAll s with
 | .ok v=>(v,true)
 | .range=>(Lib.atoiSat s,false)
 | _ => (0, false)
def mo (s:Str) : Int × Bool :=
 let a:=yC (if bH 35 s then s.drop 1 else s)
 (IntKind.wrap .i64 (a.1 - 1),bH 35 s && a.2 && decide (a.1 ≥ 2))
def CE (s:Str) : Ln × Int × Bool :=
 let h:Str × Str × Str:=if bH 46 (dP s).2 then((dP s).1,(dP ((dP s).2.drop 1)).1,(dP ((dP s).2.drop 1)).2) else([],(dP s).1,(dP s).2)
 match jN (h.2.2.length + 1) h.2.2 [] with
 | none=>(LC,0,false)
 | some (ps,r)=>if r=[] then(⟨h.1,h.2.1,ps,[]⟩,0,true) else(⟨h.1,h.2.1,ps,[]⟩,mo r)
def fT:Str:=[114,97,119,46]
def dM (p:Fd) : Ln × Int × Bool :=
 let raw:=decide (p.1.take 4=fT)
 let u:=CE (if raw then p.1.drop 4 else p.1)
 let L:Ln := { u.1 with v:=if !raw && yT u.1.n then esc p.2 else p.2 }
 (L,u.2.1,u.2.2 && (iP L u.2.1).2 && decide ((iP L u.2.1).1=p))
def yB (p:Fd) : Bool:=(dM p).2.2 && decide (p.1.length≤64) && decide (p.2.length≤512)
abbrev Sj:Str:=[66,69,71,73,78,58,86,67,65,82,68,13,10,86,69,82,83,73,79,78,58,52,46,48,13,10]
abbrev VF:Str:=[69,78,68,58,86,67,65,82,68,13,10]
def DL:List Fd→List Str→Str→Option Str
 | [],_,acc=>some (acc++VF)
 | p :: r,ns,acc =>
   if yB p=false then none
   else if (eO ns (bA (dM p).1).1:Int)≠(dM p).2.1 then none
   else DL r (ns++[(bA (dM p).1).1]) (acc++(jm mh (dM p).1).1)
def Ku (fs:List Fd) : Option Str:=DL fs [] Sj
end Go.Ab.Vc
namespace Go.Ab
open Go Go.RowKit
def wd (ds:List Deferred) (a:Act) : Act := { a with defers:=ds }
section
variable {P:Program} {Q0:Act→World→Prop} {K K' : Act→World→Prop} {Q' : Exit→Act→World→Prop} {r:Option Nat} {n:Nat} {ds:List Deferred}
end
section
variable {P:Program} {nt:Nat} {ops:Array Oper} {M0:RM} {ρ0 ρ:Ren} {w0 w:World} {a:Act}
end
def VI (ρ:Ren) (c:Nat) : Prop:=∀ b i,ρ b=some i→i.cb≠c
def XM (D:Nat) : Deferred := { target:=.collected D,args := #[] }
structure Vx (n0:Nat) (ρ:Ren) (w:World) (Ds:List Nat) : Prop where
 nodup:Ds.Nodup
 all:∀ D∈Ds,n0≤D∧w.heap[D]?=some (.deferred (some []))∧VI ρ D
inductive Head:AV→Nat→Prop
 | nil:Head (.sc (.slice none 0 0)) 0
 | emp (b:Nat) : Head (.emp b) 0
 | ex (b o len c:Nat) : len≤c→Head (.slc b o len (.ex c)) len
 | op (b o len:Nat) : Head (.slc b o len (.op 1)) len
section
variable {P:Program} {nt ret:Nat}
def MB (P:Program) (nt n0:Nat) (rg:Bool) (Ds:List Nat) (M:RM) (ρ:Ren) (w:World) (T:Tree AV) (asg:Nat) (K:K3) (e:Exit) (a' : Act) (w' : World) : Prop :=
 ∃ x T' M' ρ' a0 Ds',e=XI x∧a'=wd (Ds'.map XM) a0∧(rg=false→Ds'=Ds)∧Vx n0 ρ' w' Ds'∧After P M ρ w M' ρ' w'∧gp ρ' nt T' a0∧(∀ t,Nat.testBit asg t=false→T'.get t=T.get t)∧K x T' M'
theorem MB.trans {n0:Nat} {rg:Bool} {Ds Ds1:List Nat} {M M1:RM} {ρ ρ1:Ren} {w w1:World} {T T1:Tree AV} {asg UE:Nat} {K:K3} (h:After P M ρ w M1 ρ1 w1) (hds:rg=false→Ds1=Ds) (hk:∀ t,Nat.testBit asg t=false→Nat.testBit UE t=false∧T1.get t=T.get t) {e:Exit} {a' : Act} {w' : World}
  (q:MB P nt n0 rg Ds1 M1 ρ1 w1 T1 UE K e a' w') : MB P nt n0 rg Ds M ρ w T asg K e a' w':=by
 obtain⟨x,T',M',ρ',a0,Ds',h1,h2,hx,h3,h4,h5,h6,h7⟩:=q
 exact⟨x,T',M',ρ',a0,Ds',h1,h2,fun hr=>(hx hr).trans (hds hr),h3,h.trans h4,h5,fun t ht=>by obtain⟨k1,k2⟩:=hk t ht; rw[h6 t k1,k2],h7⟩
end
end Go.Ab
set_option maxRecDepth 100000
namespace Go.Ab.Vc
open Go Go.Ab
def lS (p1 p2:aj) (p3:Nat) (p4 p5:aj) (M0:RM) (Q:ai) : Prop:=p1 [] M0 fun wd v=>eB wd fun we=>au we ( Q (Bo false) v) ( p2 [(St [66,69,71,73,78,58,86,67,65,82,68,10,70,78,58,120])] v fun m vd=>aG m 0 fun x3=>aG m 1 fun wf=>aG m 2 fun wg=>p2 [(St [70,78,58,120])] vd fun n ve=>aG n 0 fun x4=>aG n 1 fun wh=>aG n 2 fun wi=>p2 [(St [66,69,71,73,78,58,86,67,65,82,68,10,86,69,82,83,73,79,78,58,52,46,48,10,85,73,68,58,117,49,10,70,78,58,97,92,120,98,10,69,78,68,58,118,99,97,114,100])] ve fun o vf=>aG o 0 fun p=>aG o 1 fun x5=>aG o 2 fun wj=>dB [(St []),(St [])] [(0,1,(St [116,101,108,35,50])),(1,1,(St [49]))] fun wk=>dV p3 1 [(St []),(St [])] [(0,2,wk)] fun wc vj=>aU wc vj vf fun wl vg=>dB [(St []),(.sc (.slice none 0 0)),(N .i64 0)] [(1,1,wl)] fun wm=>p4 [wm] vg fun vc H=>aG vc 0 fun x6=>aG vc 1 fun wn=>af .eql wf (N .i64 2) fun q=>aa q true (fun c=>c wg H) (fun c=>c .undef H) fun wo P=>aa q true (fun v2=>af .eql wo (N .i64 3) fun wp=>v2 wp P) (fun c=>c .undef P) fun wq va=>aB q wq (Bo false) fun r=>aa r true (fun wb=>wb wh va) (fun c=>c .undef va) fun wr w=>aa r true (fun vk=>af .eql wr (N .i64 1) fun ws=>vk ws w) (fun c=>c .undef w) fun wt x=>aB r wt (Bo false) fun s=>aa s true (fun vl=>vl wi x) (fun c=>c .undef x) fun wu y=>aa s true (fun vm=>af .eql wu (N .i64 3) fun wv=>vm wv y) (fun c=>c .undef y) fun ww z=>aB s ww (Bo false) fun t=>aa t true (fun vn=>vn wj z) (fun c=>c .undef z) fun wx A=>aa t true (fun vo=>af .eql wx (N .i64 0) fun wy=>vo wy A) (fun c=>c .undef A) fun wz B=>aB t wz (Bo false) fun g=>aa g true (fun vp=>vp p B) (fun c=>c .undef B) fun w0 C=>aa g true (fun vq=>dz w0 fun w1=>vq w1 C) (fun c=>c .undef C) fun w2 D=>aa g true (fun vr=>af .eql w2 (N .i64 1) fun w3=>vr w3 D) (fun c=>c .undef D) fun w4 E=>aB g w4 (Bo false) fun e=>aa e true (fun vs=>vs p E) (fun c=>c .undef E) fun w5 F=>aa e true (fun vt=>bg w5 (N .i64 0) 3 fun w6=>vt w6 F) (fun c=>c .undef F) fun w7 G=>aa e true (fun vu=>aJ w7 0 fun w8=>vu w8 G) (fun c=>c .undef G) fun w9 i=>aa e true (fun vv=>ak i w9 fun xa=>vv xa i) (fun c=>c .undef i) fun xb I=>aa e true (fun vw=>aY .eql xb (St [117,49]) fun xc=>vw xc I) (fun c=>c .undef I) fun xd L=>aB e xd (Bo false) fun d=>aa d true (fun vx=>vx p L) (fun c=>c .undef L) fun xe O=>aa d true (fun vy=>bg xe (N .i64 0) 3 fun xf=>vy xf O) (fun c=>c .undef O) fun xg R=>aa d true (fun vz=>aJ xg 1 fun xh=>vz xh R) (fun c=>c .undef R) fun xi j=>aa d true (fun v0=>ak j xi fun xj=>v0 xj j) (fun c=>c .undef j) fun xk S=>aa d true (fun v1=>bg xk (N .i64 1) 2 fun xl=>v1 xl S) (fun c=>c .undef S) fun xm l=>aa d true (fun v3=>aI l xm 2 fun xn=>v3 xn l) (fun c=>c .undef l) fun xo U=>aa d true (fun v4=>dB [(St []),(St [])] [(0,1,(St [114,97,119,46,102,110])),(1,1,(St [97,92,120,98]))] fun xp=>v4 xp U) (fun c=>c .undef U) fun xq V=>aa d true (fun v5=>lF false [2,2] xo xq fun xr=>v5 xr V) (fun c=>c .undef V) fun xs W=>aB d xs (Bo false) fun u=>aa u true (fun v6=>v6 wn W) (fun c=>c .undef W) fun xt X=>aa u true (fun v7=>af .eql xt (N .i64 1) fun xu=>v7 xu X) (fun c=>c .undef X) fun xv Y=>aB u xv (Bo false) fun h=>aa h true (fun v8=>dB [(St []),(St [])] [(0,1,(St [98,101,103,105,110])),(1,1,(St [86,67,65,82,68]))] fun xw=>v8 xw Y) (fun c=>c .undef Y) fun xx Z=>aa h true (fun v9=>p5 [xx] Z fun xy vh=>v9 xy vh) (fun c=>c .undef Z) fun xz vb=>aa h true (fun wa=>eB xz fun x0=>wa x0 vb) (fun c=>c .undef vb) fun x1 vi=>aB h x1 (Bo false) fun x2=>Q x2 vi)
def qx (p1 p2 p3:aj) (p4:Nat) (p5:aj) (p6:Nat) (p7:aj) (M0:RM) (Q:ai) : Prop:=p1 [(St [66,69,71,73,78,58,86,67,65,82,68,10,86,69,82,83,73,79,78,58,52,46,48,10,70,78,58,65,110,110,92,44,32,66,10,84,69,76,59,84,89,80,69,61,104,111,109,101,58,49,10,84,69,76,59,84,89,80,69,61,104,111,109,101,58,50,10,69,78,68,58,86,67,65,82,68,10])] M0 fun H V=>aG H 0 fun g=>aG H 1 fun c2=>aG H 2 fun c3=>af .neq c3 (N .i64 0) fun L=>aa L false (fun c=>c c2 V) (fun c=>c .undef V) fun c4 W=>aa L false (fun wv=>af .neq c4 (N .i64 0) fun c5=>wv c5 W) (fun c=>c .undef W) fun c6 v1=>aB L (Bo true) c6 fun p=>aa p false (fun x2=>x2 g v1) (fun c=>c .undef v1) fun c7 v6=>aa p false (fun x8=>dz c7 fun c8=>x8 c8 v6) (fun c=>c .undef v6) fun c9 we=>aa p false (fun yh=>af .neq c9 (N .i64 1) fun d0=>yh d0 we) (fun c=>c .undef we) fun d1 Z=>aB p (Bo true) d1 fun j=>aa j false (fun w1=>w1 g Z) (fun c=>c .undef Z) fun d2 ve=>aa j false (fun w7=>bg d2 (N .i64 0) 3 fun d3=>w7 d3 ve) (fun c=>c .undef ve) fun d4 vl=>aa j false (fun xg=>aJ d4 1 fun d5=>xg d5 vl) (fun c=>c .undef vl) fun d6 w=>aa j false (fun xp=>ak w d6 fun d7=>xp d7 w) (fun c=>c .undef w) fun d8 vy=>aa j false (fun xy=>dz d8 fun d9=>xy d9 vy) (fun c=>c .undef vy) fun e0 v0=>aa j false (fun xz=>af .neq e0 (N .i64 3) fun e1=>xz e1 v0) (fun c=>c .undef v0) fun e2 B=>aB j (Bo true) e2 fun e3=>au e3 ( Q (Bo false) B) ( bg g (N .i64 0) 3 fun e4=>aI B e4 3 fun e5=>p2 [e5] B fun wl wq=>aG wl 0 fun e6=>aG wl 1 fun e7=>p1 [e6] wq fun O C=>aG O 0 fun P=>aG O 1 fun s3=>aG O 2 fun e8=>bg g (N .i64 0) 3 fun e9=>aJ e9 1 fun g0=>ak C g0 fun g1=>bg g1 (N .i64 2) 2 fun g2=>aI C g2 2 fun g3=>p3 [g3] C fun wm wr=>aG wm 0 fun g4=>aG wm 1 fun g5=>aU (.row [(St []),(St []),(.sc (.slice none 0 0)),(St []),(N .i64 0)] false p4 0) (fun n=>.ptr n 0) wr fun U ws=>aA ws U g4 5 fun v2=>aI v2 U 5 fun g6=>p5 [g6,(N .i64 1)] v2 fun wn wt=>aG wn 0 fun g7=>aG wn 1 fun g8=>aU (.row [(St []),(St [])] false p6 0) (fun n=>.ptr n 0) wt fun F wu=>aA wu F g7 2 fun m=>bg g (N .i64 0) 3 fun g9=>aJ g9 1 fun h0=>ak m h0 fun h1=>bg h1 (N .i64 0) 2 fun h2=>aI m h2 2 fun h3=>dB [(St []),(St [])] [(0,1,(St [102,110])),(1,1,(St [65,110,110,44,32,66]))] fun h4=>lF false [2,2] h3 h4 fun h=>aN h true (fun x0=>x0 g m none) (fun c=>c .undef m none) fun h5 v3 n=>aN h true (fun x1=>bg h5 (N .i64 0) 3 fun h6=>x1 h6 v3 none) (fun c=>c .undef v3 none) fun h7 v4 q7=>aN h true (fun x3=>aJ h7 1 fun h8=>x3 h8 v4 none) (fun c=>c .undef v4 none) fun h9 D q8=>aN h true (fun x4=>ak D h9 fun i0=>x4 i0 D none) (fun c=>c .undef D none) fun i1 v5 q9=>aN h true (fun x5=>bg i1 (N .i64 2) 2 fun i2=>x5 i2 v5 none) (fun c=>c .undef v5 none) fun i3 E r0=>aN h true (fun x6=>aI E i3 2 fun i4=>x6 i4 E none) (fun c=>c .undef E none) fun i5 v7 r1=>aN h true (fun x7=>dB [(St []),(St [])] [(0,1,(St [116,101,108,59,116,121,112,101,61,104,111,109,101,35,50])),(1,1,(St [50]))] fun i6=>x7 i6 v7 none) (fun c=>c .undef v7 none) fun i7 v8 r2=>aN h true (fun x9=>lF false [2,2] i5 i7 fun i8=>x9 i8 v8 none) (fun c=>c .undef v8 none) fun i9 v9 r3=>aB h i9 (Bo false) fun R=>aN R true (fun ya=>ya e7 v9 none) (fun c=>c .undef v9 none) fun j0 wa r4=>aN R true (fun yb=>af .eql j0 (N .i64 0) fun j1=>yb j1 wa none) (fun c=>c .undef wa none) fun j2 wb r5=>aB R j2 (Bo false) fun S=>aN S true (fun yc=>yc e8 wb none) (fun c=>c .undef wb none) fun j3 wc r6=>aN S true (fun yd=>af .eql j3 (N .i64 0) fun j4=>yd j4 wc none) (fun c=>c .undef wc none) fun j5 wd r7=>aB S j5 (Bo false) fun q=>aN q true (fun ye=>ye P wd none) (fun c=>c .undef wd none) fun j6 wf r8=>aN q true (fun yf=>dz j6 fun j7=>yf j7 wf none) (fun c=>c .undef wf none) fun j8 wg r9=>aN q true (fun yg=>af .eql j8 (N .i64 1) fun j9=>yg j9 wg none) (fun c=>c .undef wg none) fun l0 wh s0=>aB q l0 (Bo false) fun l=>aN l true (fun yi=>yi P wh none) (fun c=>c .undef wh none) fun l1 wi s1=>aN l true (fun yj=>bg l1 (N .i64 0) 3 fun l2=>yj l2 wi none) (fun c=>c .undef wi none) fun l3 wj s2=>aN l true (fun yk=>aJ l3 1 fun l4=>yk l4 wj none) (fun c=>c .undef wj none) fun l5 r l6=>aN l true (fun ww=>ak r l5 fun yl=>ww yl r none) (fun c=>c .undef r none) fun ym X l7=>aN l true (fun wx=>dz ym fun yn=>wx yn X none) (fun c=>c .undef X none) fun yo Y l8=>aN l true (fun wy=>af .eql yo (N .i64 3) fun yp=>wy yp Y none) (fun c=>c .undef Y none) fun yq va l9=>aB l yq (Bo false) fun d=>aN d true (fun wz=>wz P va none) (fun c=>c .undef va none) fun yr vb m0=>aN d true (fun w0=>bg yr (N .i64 0) 3 fun ys=>w0 ys vb none) (fun c=>c .undef vb none) fun yt vc m1=>aN d true (fun w2=>aJ yt 0 fun yu=>w2 yu vc none) (fun c=>c .undef vc none) fun yv s m2=>aN d true (fun w3=>ak s yv fun yw=>w3 yw s none) (fun c=>c .undef s none) fun yx vd m3=>aN d true (fun w4=>w4 g vd none) (fun c=>c .undef vd none) fun yy vf m4=>aN d true (fun w5=>bg yy (N .i64 0) 3 fun yz=>w5 yz vf none) (fun c=>c .undef vf none) fun y0 vg m5=>aN d true (fun w6=>aJ y0 0 fun y1=>w6 y1 vg none) (fun c=>c .undef vg none) fun y2 t m6=>aN d true (fun w8=>ak t y2 fun y3=>w8 y3 t none) (fun c=>c .undef t none) fun y4 vh m7=>aN d true (fun w9=>aY .eql yx y4 fun y5=>w9 y5 vh none) (fun c=>c .undef vh none) fun y6 vi m8=>aB d y6 (Bo false) fun i=>aN i true (fun xa=>xa g vi none) (fun c=>c .undef vi none) fun y7 vj m9=>aN i true (fun xb=>bg y7 (N .i64 0) 3 fun y8=>xb y8 vj none) (fun c=>c .undef vj none) fun y9 vk n0=>aN i true (fun xc=>aJ y9 0 fun za=>xc za vk none) (fun c=>c .undef vk none) fun zb u n1=>aN i true (fun xd=>ak u zb fun zc=>xd zc u none) (fun c=>c .undef u none) fun zd vm n2=>aN i true (fun xe=>aP zd fun ze=>xe ze vm none) (fun c=>c .undef vm none) fun zf vn n3=>aN i true (fun xf=>af .eql zf (N .i64 18) fun zg=>xf zg vn none) (fun c=>c .undef vn none) fun zh vo n4=>aB i zh (Bo false) fun G=>aN G true (fun xh=>xh g5 vo none) (fun c=>c .undef vo none) fun zi vp n5=>aN G true (fun xi=>af .eql zi (N .i64 0) fun zj=>xi zj vp none) (fun c=>c .undef vp none) fun zk vq n6=>aB G zk (Bo false) fun o=>aN o true (fun xj=>aJ U 1 fun zl=>xj zl vq none) (fun c=>c .undef vq none) fun zm v n7=>aN o true (fun xk=>ak v zm fun zn=>xk zn v none) (fun c=>c .undef v none) fun zo vr n8=>aN o true (fun xl=>aY .eql zo (St [116,101,108]) fun zp=>xl zp vr none) (fun c=>c .undef vr none) fun zq vs n9=>aB o zq (Bo false) fun wk=>aN wk true (fun xm=>xm g8 vs none) (fun c=>c .undef vs none) fun zr x p0=>aB wk zr (Bo false) fun e=>aN e true (fun xn=>aI x F 2 fun zs=>xn zs x none) (fun c=>c .undef x none) fun zt vt p8=>aN e true (fun xo=>xo g vt none) (fun c=>c .undef vt none) fun zu vu p9=>aN e true (fun xq=>bg zu (N .i64 0) 3 fun zv=>xq zv vu none) (fun c=>c .undef vu none) fun zw vv q0=>aN e true (fun xr=>aJ zw 1 fun zx=>xr zx vv none) (fun c=>c .undef vv none) fun zy y q1=>aN e true (fun xs=>ak y zy fun zz=>xs zz y none) (fun c=>c .undef y none) fun z0 vw q2=>aN e true (fun xt=>bg z0 (N .i64 2) 2 fun z1=>xt z1 vw none) (fun c=>c .undef vw none) fun z2 z q3=>aN e true (fun xu=>aI z z2 2 fun z3=>xu z3 z none) (fun c=>c .undef z none) fun z4 vx q4=>aN e true (fun xv=>lF false [2,2] zt z4 fun z5=>xv z5 vx none) (fun c=>c .undef vx none) fun z6 A q5=>aB e z6 (Bo false) fun I=>aN I true (fun xw=>aI A F 2 fun z7=>xw z7 A none) (fun c=>c .undef A none) fun z8 vz q6=>aa I true (fun xx=>p7 [z8] vz fun z9 wo=>xx z9 wo) (fun c=>c .undef vz) fun c0 wp=>aB I c0 (Bo false) fun c1=>Q c1 wp)
def oK (p1 p2 p3:aj) (p4:Nat) (a0:AV) (M0:RM) (Q:ai) : Prop:=p1 [a0] M0 fun g i=>aG g 0 fun z=>aG g 1 fun A=>aG g 2 fun m=>af .neq m (N .i64 0) fun B=>au B ( Q (.tup [(.sc (.slice none 0 0)),A,m]) i) ( p2 [z] i fun n j=>aG n 0 fun o=>aG n 1 fun p=>af .gtr p (N .i64 0) fun C=>au C ( Q (.tup [(.sc (.slice none 0 0)),p,(N .i64 3)]) j) ( dz o fun D=>bz (fun x c d=>af .lss (ag c 1) D fun E=>au E ( bg o (ag c 1) 1 fun F=>ak d F fun G=>p3 [G] d fun h r=>aG h 0 fun H=>aG h 1 fun I=>aG h 2 fun q=>aU (.row [(St []),(.sc (.slice none 0 0)),(N .i64 0)] false p4 0) (fun v=>.ptr v 0) r fun l s=>aA s l H 3 fun e=>af .neq q (N .i64 0) fun L=>au L ( Q (.tup [(.sc (.slice none 0 0)),I,q]) e) ( aI e l 3 fun O=>dV p4 1 [(St []),(.sc (.slice none 0 0)),(N .i64 0)] [(0,3,O)] fun y w=>aU y w e fun P t=>appW p4 3 48 [(St []),(.sc (.slice none 0 0)),(N .i64 0)] false (ag c 0) P t fun R u=>af .add (ag c 1) (N .i64 1) fun S=>x [R,S] u)) ( Q (.tup [(ag c 0),(N .i64 0),(N .i64 0)]) d)) [(.sc (.slice none 0 0)),(N .i64 0)] j))
def pJ (p1 p2:Nat) (p3:aj) (p4:Nat) (p5 p6 p7:aj) (a0:AV) (M0:RM) (Q:ai) : Prop:=mD p1 a0 fun L F=>aU L F M0 fun O A=>aU (.map [] 0) (fun d=>.map d) A fun m r=>aJ O 1 fun P=>ak r P fun x=>dz x fun R=>bz (fun I e i=>af .lss (ag e 1) R fun S=>au S ( bg x (ag e 1) 2 fun U=>aI i U 2 fun V=>aU (.row [(St []),(St [])] false p2 0) (fun d=>.ptr d 0) i fun p C=>aA C p V 2 fun v=>aI v p 2 fun W=>p3 [W] v fun n D=>aG n 0 fun X=>aG n 1 fun Y=>aG n 2 fun Z=>aU (.row [(St []),(St []),(.sc (.slice none 0 0)),(St []),(N .i64 0)] false p4 0) (fun d=>.ptr d 0) D fun q E=>aA E q X 5 fun l=>eB Z fun h=>aa h false (fun c=>aI l p 2 fun va=>c va l) (fun c=>c .undef l) fun vb w=>aa h false (fun H=>p5 [vb] w fun vc B=>H vc B) (fun c=>c .undef w) fun vd s=>aa h false (fun G=>eB vd fun ve=>G ve s) (fun c=>c .undef s) fun vf j=>aB h (Bo true) vf fun vg=>au vg ( Q (.tup [(St []),(N .i64 1)]) j) ( aI j q 5 fun vh=>p6 [vh] j fun vi g=>Ir vi 0 fun o=>rR false [2] (N .i64 0) false g m o fun vj=>af .neq vj Y fun vk=>au vk ( Q (.tup [(St []),(N .i64 1)]) g) ( rR false [2] (N .i64 0) false g m o fun vl=>af .add vl (N .i64 1) fun vm=>wC false [2] g m o vm fun t=>aI t q 5 fun vn=>p7 [vn] t fun y u=>aG y 0 fun vo=>aG y 1 fun z=>af .neq z (N .i64 0) fun vp=>au vp ( Q (.tup [(St []),z]) u) ( aY .add (ag e 0) vo fun vq=>af .add (ag e 1) (N .i64 1) fun vr=>I [vq,vr] u)))) ( aY .add (ag e 0) (St [69,78,68,58,86,67,65,82,68,13,10]) fun vs=>Q (.tup [vs,(N .i64 0)]) i)) [(St [66,69,71,73,78,58,86,67,65,82,68,13,10,86,69,82,83,73,79,78,58,52,46,48,13,10]),(N .i64 0)] r
def tq (p1:Nat) (p2:aj) (p3:Nat) (a0:AV) (M0:RM) (Q:ai) : Prop:=mD p1 a0 fun E w=>aU E w M0 fun i j=>aI j i 2 fun vd=>p2 [vd] j fun r s=>aG r 0 fun ve=>aG r 1 fun vf=>aU (.row [(St []),(St []),(.sc (.slice none 0 0)),(St []),(N .i64 0)] false p3 0) (fun v=>.ptr v 0) s fun vc t=>aA t vc ve 5 fun o=>af .eql vf (N .i64 0) fun d=>aa d true (fun c=>aJ i 0 fun F=>c F o) (fun c=>c .undef o) fun G h=>aa d true (fun C=>ak h G fun H=>C H h) (fun c=>c .undef h) fun I q=>aa d true (fun D=>aP I fun L=>D L q) (fun c=>c .undef q) fun O l=>aa d true (fun x=>af .leq O (N .i64 64) fun P=>x P l) (fun c=>c .undef l) fun R m=>aB d R (Bo false) fun e=>aa e true (fun y=>aJ i 1 fun S=>y S m) (fun c=>c .undef m) fun U g=>aa e true (fun z=>ak g U fun V=>z V g) (fun c=>c .undef g) fun W n=>aa e true (fun A=>aP W fun X=>A X n) (fun c=>c .undef n) fun Y p=>aa e true (fun B=>af .leq Y (N .i64 512) fun Z=>B Z p) (fun c=>c .undef p) fun va u=>aB e va (Bo false) fun vb=>Q vb u
def sW (p1 p2:Nat) (p3:aj) (a0:AV) (M0:RM) (Q:ai) : Prop:=mD p1 a0 fun q p=>aU q p M0 fun t m=>aU (.row [(St []),(St []),(.sc (.slice none 0 0)),(St []),(N .i64 0)] false p2 0) (fun e=>.ptr e 0) m fun c h=>aI h t 2 fun z=>p3 [z] h fun g n=>aG g 0 fun u=>aG g 1 fun A=>aG g 2 fun v=>aU (.row [(St []),(St []),(.sc (.slice none 0 0)),(St []),(N .i64 0)] false p2 0) (fun e=>.ptr e 0) n fun l o=>aA o l u 5 fun d=>eB v fun w=>au w ( dB [(St []),(St []),(.sc (.slice none 0 0)),(St []),(N .i64 0)] [] fun x=>aA d c x 5 fun i=>aI i c 5 fun r=>Q (.tup [r,(N .i64 1)]) i) ( aI d l 5 fun y=>aA d c y 5 fun j=>aI j c 5 fun s=>Q (.tup [s,(N .i64 0)]) j)
def qL (p1 p2:Nat) (p3 p4 p5 p6:aj) (a0 a1:AV) (M0:RM) (Q:ai) : Prop:=mD p1 a0 fun U G=>aU U G M0 fun e B=>aU (.row [(St []),(St [])] false p2 0) (fun n=>.ptr n 0) B fun h p=>aI p e 5 fun X=>p3 [X] p fun A q=>aG A 0 fun vx=>aG A 1 fun Y=>af .neq Y (N .i64 0) fun d=>aa d false (fun c=>aJ e 0 fun Z=>c Z q) (fun c=>c .undef q) fun va m=>aa d false (fun R=>ak m va fun vb=>R vb m) (fun c=>c .undef m) fun vc y=>aa d false (fun S=>aY .eql vc (St [114,97,119]) fun vd=>S vd y) (fun c=>c .undef y) fun ve z=>aB d (Bo true) ve fun g=>aa g false (fun H=>aJ e 1 fun vf=>H vf z) (fun c=>c .undef z) fun vg j=>aa g false (fun I=>ak j vg fun vh=>I vh j) (fun c=>c .undef j) fun vi r=>aa g false (fun L=>p4 [vi] r fun vj C=>L vj C) (fun c=>c .undef r) fun vk s=>aB g (Bo true) vk fun o=>aa o false (fun O=>O a1 s) (fun c=>c .undef s) fun vl t=>aa o false (fun P=>af .lss vl (N .i64 0) fun vm=>P vm t) (fun c=>c .undef t) fun vn l=>aB o (Bo true) vn fun vo=>au vo ( dB [(St []),(St [])] [] fun vp=>aA l h vp 2 fun u=>aI u h 2 fun V=>Q (.tup [V,(Bo false)]) u) ( aI l e 5 fun vq=>p5 [vq] l fun vr D=>aU (.row [(St []),(St [])] false p2 0) (fun n=>.ptr n 0) D fun i E=>aA E i vr 2 fun v=>aJ i 0 fun vs=>ak v vs fun vt=>p6 [vt,a1] v fun vu F=>aJ i 0 fun vv=>aA F vv vu 1 fun w=>aI w i 2 fun vw=>aA w h vw 2 fun x=>aI x h 2 fun W=>Q (.tup [W,(Bo true)]) x)
def uT (p1:Nat) (p2 p3:aj) (p4:Nat) (a0:AV) (M0:RM) (Q:ai) : Prop:=bz (fun vs l p=>dz a0 fun xp=>af .lss (ag l 1) xp fun vx=>au vx ( bg a0 (ag l 1) 5 fun vz=>aI p vz 5 fun v0=>aU (.row [(St []),(St []),(.sc (.slice none 0 0)),(St []),(N .i64 0)] false p1 0) (fun X=>.ptr X 0) p fun j O=>aA O j v0 5 fun u=>aI u j 5 fun v1=>p2 [v1,(St [98,101,103,105,110])] u fun v2 m=>eB v2 fun v3=>au v3 ( aJ j 4 fun v4=>ak m v4 fun v5=>Q (.tup [(.sc (.slice none 0 0)),v5]) m) ( aI m j 5 fun v6=>dV p1 1 [(St []),(St []),(.sc (.slice none 0 0)),(St []),(N .i64 0)] [(0,5,v6)] fun vu Y=>aU vu Y m fun v7 A=>af .add (ag l 1) (N .i64 1) fun o=>dz a0 fun v8=>af .lss o v8 fun e=>aa e true (fun c=>c a0 A) (fun c=>c .undef A) fun v9 D=>aa e true (fun vo=>vo o D) (fun c=>c .undef D) fun wa L=>aa e true (fun vr=>bg v9 wa 5 fun wb=>vr wb L) (fun c=>c .undef L) fun wc t=>aa e true (fun vb=>aI t wc 5 fun wd=>vb wd t) (fun c=>c .undef t) fun we v=>aa e true (fun vc=>p2 [we,(St [118,101,114,115,105,111,110])] v fun wf P=>vc wf P) (fun c=>c .undef v) fun wg w=>aa e true (fun vd=>eB wg fun wh=>vd wh w) (fun c=>c .undef w) fun wi q=>aB e wi (Bo false) fun wj=>au wj ( bg a0 o 5 fun wk=>aJ wk 4 fun wl=>ak q wl fun wm=>Q (.tup [(.sc (.slice none 0 0)),wm]) q) ( af .add o (N .i64 1) fun wn=>bz (fun vt d x=>dz a0 fun wo=>af .lss (ag d 1) wo fun g=>aa g true (fun ve=>ve a0 x) (fun c=>c .undef x) fun wp y=>aa g true (fun vf=>vf (ag d 1) y) (fun c=>c .undef y) fun wq z=>aa g true (fun vg=>bg wp wq 5 fun wr=>vg wr z) (fun c=>c .undef z) fun ws r=>aa g true (fun vh=>aI r ws 5 fun wt=>vh wt r) (fun c=>c .undef r) fun wu B=>aa g true (fun vi=>p2 [wu,(St [101,110,100])] B fun wv R=>vi wv R) (fun c=>c .undef B) fun ww C=>aa g true (fun vj=>eB ww fun wx=>vj wx C) (fun c=>c .undef C) fun wy i=>aB g wy (Bo false) fun wz=>au wz ( bg a0 (ag d 1) 5 fun w1=>aJ w1 1 fun w2=>ak i w2 fun w3=>p3 [w3] i fun h E=>aa h false (fun vk=>vk a0 E) (fun c=>c .undef E) fun w4 F=>aa h false (fun vl=>vl (ag d 1) F) (fun c=>c .undef F) fun w5 G=>aa h false (fun vm=>bg w4 w5 5 fun w6=>vm w6 G) (fun c=>c .undef G) fun w7 H=>aa h false (fun vn=>aJ w7 0 fun w8=>vn w8 H) (fun c=>c .undef H) fun w9 s=>aa h false (fun vp=>ak s w9 fun xa=>vp xa s) (fun c=>c .undef s) fun xb I=>aa h false (fun vq=>aY .eql xb (St [114,97,119]) fun xc=>vq xc I) (fun c=>c .undef I) fun xd n=>aB h (Bo true) xd fun xe=>au xe ( bg a0 (ag d 1) 5 fun xf=>aJ xf 4 fun xg=>ak n xg fun xh=>Q (.tup [(.sc (.slice none 0 0)),xh]) n) ( bg a0 (ag d 1) 5 fun xi=>aI n xi 5 fun xj=>dV p1 1 [(St []),(St []),(.sc (.slice none 0 0)),(St []),(N .i64 0)] [(0,5,xj)] fun vv Z=>aU vv Z n fun xk S=>appW p1 5 80 [(St []),(St []),(.sc (.slice none 0 0)),(St []),(N .i64 0)] false (ag d 2) xk S fun xl U=>af .add (ag d 1) (N .i64 1) fun w0=>vt [(ag d 0),w0,xl] U)) ( dz a0 fun xm=>af .geq (ag d 1) xm fun xn=>au xn ( aJ j 4 fun xo=>ak i xo fun xq=>Q (.tup [(.sc (.slice none 0 0)),xq]) i) ( dV p4 1 [(.sc (.slice none 0 0))] [(0,1,(ag d 2))] fun vw va=>aU vw va i fun xr V=>appW p4 1 24 [(.sc (.slice none 0 0))] false (ag d 0) xr V fun xs W=>af .add (ag d 1) (N .i64 1) fun vy=>vs [xs,vy] W))) [(ag l 0),wn,v7] q))) ( Q (.tup [(ag l 0),(N .i64 0)]) p)) [(.sc (.slice none 0 0)),(N .i64 0)] M0
def sO (p1 p2:Nat) (p3:aj) (p4:Nat) (p5 p6:aj) (a0:AV) (M0:RM) (Q:ai) : Prop:=aU (.row [(St []),(.sc (.slice none 0 0)),(N .i64 0)] false p1 0) (fun g=>.ptr g 0) M0 fun d u=>bg a0 (N .i64 0) 5 fun vb=>aJ vb 4 fun vc=>ak u vc fun vd=>aJ d 2 fun ve=>aA u ve vd 1 fun E=>aU (.map [] 0) (fun g=>.map g) E fun s F=>bL (jy 5 a0 (some (N .i64 1)) none none) fun B=>dz B fun vf=>bz (fun X j o=>af .lss (ag j 1) vf fun vg=>au vg ( bg B (ag j 1) 5 fun vh=>aI o vh 5 fun vi=>aU (.row [(St []),(St []),(.sc (.slice none 0 0)),(St []),(N .i64 0)] false p2 0) (fun g=>.ptr g 0) o fun t L=>aA L t vi 5 fun z=>aI z t 5 fun vj=>p3 [vj] z fun vk O=>aU (.row [(St []),(St [])] false p4 0) (fun g=>.ptr g 0) O fun e P=>aA P e vk 2 fun r=>aJ e 0 fun vl=>ak r vl fun l=>rR false [2] (N .i64 0) false r s l fun vm=>p5 [l,vm] r fun vn R=>aJ e 0 fun vo=>aA R vo vn 1 fun A=>rR false [2] (N .i64 0) false A s l fun vp=>af .add vp (N .i64 1) fun vq=>wC false [2] A s l vq fun m=>aJ e 0 fun vr=>ak m vr fun vs=>aP vs fun vt=>af .gtr vt (N .i64 64) fun i=>aa i false (fun c=>aJ e 1 fun vu=>c vu m) (fun c=>c .undef m) fun vv n=>aa i false (fun U=>ak n vv fun vw=>U vw n) (fun c=>c .undef n) fun vx v=>aa i false (fun V=>aP vx fun vy=>V vy v) (fun c=>c .undef v) fun vz w=>aa i false (fun W=>af .gtr vz (N .i64 512) fun v0=>W v0 w) (fun c=>c .undef w) fun v1 h=>aB i (Bo true) v1 fun v2=>au v2 ( dB [(St []),(.sc (.slice none 0 0)),(N .i64 0)] [] fun v3=>aJ t 4 fun C=>ak h C fun D=>aA h d v3 3 fun p=>ak p C fun v4=>(v4=D∧aI p d 3 fun Z=>Q (.tup [Z,D,(N .i64 2)]) p)) ( aJ d 1 fun v5=>ak h v5 fun v6=>aI h e 2 fun v7=>dV p4 1 [(St []),(St [])] [(0,2,v7)] fun Y S=>aU Y S h fun v8 G=>appW p4 2 32 [(St []),(St [])] false v6 v8 G fun v9 H=>aJ d 1 fun wa=>aA H wa v9 1 fun q=>aJ e 0 fun wb=>ak q wb fun wc=>aY .add wc (St [0]) fun wd=>aJ e 1 fun we=>ak q we fun wf=>aY .add wd wf fun wg=>aY .add wg (St [0]) fun wh=>aY .add (ag j 0) wh fun wi=>af .add (ag j 1) (N .i64 1) fun wj=>X [wi,wj] q)) ( bL (jy 5 a0 (some (N .i64 1)) none none) fun wk=>p6 [wk,(ag j 0)] o fun wl I=>aJ d 0 fun wm=>aA I wm wl 1 fun x=>aI x d 3 fun wn=>aA x d wn 3 fun y=>aI y d 3 fun va=>Q (.tup [va,(N .i64 0),(N .i64 0)]) y)) [(St []),(N .i64 0)] F
def sV (p1 p2:Nat) (p3 p4 p5 p6 p7:aj) (a0:AV) (M0:RM) (Q:ai) : Prop:=mD p1 a0 fun vf W=>aU vf W M0 fun h G=>aU (.row [(St []),(St []),(.sc (.slice none 0 0)),(St []),(N .i64 0)] false p2 0) (fun d=>.ptr d 0) G fun A t=>aJ h 0 fun vh=>ak t vh fun vi=>p3 [vi,(St [114,97,119,46])] t fun z H=>aG z 0 fun vj=>aG z 1 fun vk=>p4 [vj] H fun r S=>aG r 0 fun vl=>aG r 1 fun B=>aG r 2 fun C=>aU (.row [(St []),(St []),(.sc (.slice none 0 0)),(St []),(N .i64 0)] false p2 0) (fun d=>.ptr d 0) S fun g U=>aA U g vl 5 fun x=>aJ h 1 fun vm=>ak x vm fun vn=>aJ g 3 fun vo=>aA x vo vn 1 fun y=>bY (fun s=>eB vk fun j=>aa j true (fun c=>aJ g 1 fun vp=>c vp y) (fun c=>c .undef y) fun vq p=>aa j true (fun ve=>ak p vq fun vr=>ve vr p) (fun c=>c .undef p) fun vs u=>aa j true (fun X=>p5 [vs] u fun vt I=>X vt I) (fun c=>c .undef u) fun vu l=>aB j vu (Bo false) fun vv=>au vv ( aJ h 1 fun vw=>ak l vw fun vx=>p6 [vx] l fun vy L=>aJ g 3 fun vz=>aA L vz vy 1 fun O=>s [] O) ( s [] l)) (fun wf v=>aI v g 5 fun v0=>p7 [v0,B] v fun D P=>aG D 0 fun v1=>aG D 1 fun v2=>aU (.row [(St []),(St [])] false p1 0) (fun d=>.ptr d 0) P fun q R=>aA R q v1 2 fun m=>aI m g 5 fun v3=>aN C true (fun Y=>Y v2 m none) (fun c=>c .undef m none) fun v4 n d=>aB C v4 (Bo false) fun e=>aN e true (fun Z=>aI n q 2 fun v5=>Z v5 n none) (fun c=>c .undef n none) fun E o wc=>aN e true (fun va=>aI o h 2 fun v7=>va v7 o none) (fun c=>c .undef o none) fun F w wd=>aN e true (fun vb=>lF false [2,2] E F fun v9=>vb v9 w none) (fun c=>c .undef w none) fun wa V we=>aB e wa (Bo false) fun wb=>aA V A v3 5 fun i=>Bn e true (fun vc=>aI i q 2 fun v6=>(v6=E∧vc)) (fun c=>c) (Bn e true (fun vd=>aI i h 2 fun v8=>(v8=F∧vd)) (fun c=>c) (aI i A 5 fun vg=>Q (.tup [vg,B,wb]) i)))
def rY (p1 p2:Nat) (p3 p4 p5 p6:aj) (a0:AV) (M0:RM) (Q:ai) : Prop:=mD p1 a0 fun U I=>aU U I M0 fun i F=>aU (.row [(St []),(St [])] false p2 0) (fun e=>.ptr e 0) F fun h l=>aI l i 5 fun vx=>aJ i 3 fun D=>ak l D fun E=>Og (.row [(St []),(St [])] false p2 0) (fun e=>.ptr e 0) l fun d G e=>p3 [vx] G fun vy n=>ak n D fun vz=>(vz=E∧(MR e n (.row [(St []),(St [])] false p2 0) (fun e=>.ptr e 0) d∧dB [(St []),(St [])] [(0,1,vy),(1,1,E)] fun Y=>aA n d Y 2 fun t=>aJ i 1 fun Z=>ak t Z fun va=>p4 [va] t fun vb j=>eB vb fun vc=>au vc ( aI j d 2 fun vd=>aA j h vd 2 fun w=>aI w h 2 fun V=>Q V w) ( aJ i 3 fun ve=>ak j ve fun vf=>p5 [vf] j fun z x=>aG z 0 fun A=>aG z 1 fun vg=>af .eql vg (N .i64 0) fun g=>aN g true (fun c=>c A x none) (fun c=>c .undef x none) fun vh y v3=>aN g true (fun S=>aJ i 3 fun vk=>S vk y none) (fun c=>c .undef y none) fun B m v0=>aN g true (fun L=>ak m B fun vl=>L vl m none) (fun c=>c .undef m none) fun C q v1=>aa g true (fun O=>p6 [vh] q fun vi H=>O vi H) (fun c=>c .undef q) fun vj o=>Bn g true (fun P=>ak o B fun vm=>(vm=C∧P)) (fun c=>c) (aN g true (fun R=>aY .eql vj C fun vn=>R vn o none) (fun c=>c .undef o none) fun vo p v2=>aB g vo (Bo false) fun vp=>au vp ( aJ d 1 fun vq=>aA p vq A 1 fun r=>aI r d 2 fun vr=>aA r h vr 2 fun s=>aI s h 2 fun W=>Q W s) ( aJ d 0 fun vs=>ak p vs fun vt=>aY .add (St [114,97,119,46]) vt fun vu=>aJ d 0 fun vv=>aA p vv vu 1 fun u=>aI u d 2 fun vw=>aA u h vw 2 fun v=>aI v h 2 fun X=>Q X v)))))
def mY (a0:AV) (M0:RM) (Q:ai) : Prop:=aY .eql a0 (St [98,101,103,105,110]) fun d=>aa d false (fun c=>c a0 M0) (fun c=>c .undef M0) fun s g=>aa d false (fun l=>aY .eql s (St [118,101,114,115,105,111,110]) fun t=>l t g) (fun c=>c .undef g) fun u h=>aB d (Bo true) u fun e=>aa e false (fun m=>m a0 h) (fun c=>c .undef h) fun o i=>aa e false (fun n=>aY .eql o (St [101,110,100]) fun p=>n p i) (fun c=>c .undef i) fun q j=>aB e (Bo true) q fun r=>Q r j
def mZ (p1:aj) (a0 a1:AV) (M0:RM) (Q:ai) : Prop:=af .eql a1 (N .i64 0) fun h=>au h ( Q a0 M0) ( aY .add a0 (St [35]) fun i=>af .add a1 (N .i64 1) fun d=>p1 [d] M0 fun e c=>aY .add i e fun g=>Q g c)
def nZ (p1:Nat) (p2:aj) (a0 a1:AV) (M0:RM) (Q:ai) : Prop:=mD p1 a0 fun H w=>aU H w M0 fun d j=>aJ d 1 fun vs=>ak j vs fun vt=>aY .neq vt a1 fun i=>aa i false (fun c=>aJ d 0 fun I=>c I j) (fun c=>c .undef j) fun L l=>aa i false (fun A=>ak l L fun O=>A O l) (fun c=>c .undef l) fun P t=>aa i false (fun F=>aY .neq P (St []) fun R=>F R t) (fun c=>c .undef t) fun S u=>aB i (Bo true) S fun g=>aa g false (fun G=>aJ d 2 fun U=>G U u) (fun c=>c .undef u) fun V m=>aa g false (fun x=>ak m V fun W=>x W m) (fun c=>c .undef m) fun X o=>aa g false (fun y=>dz X fun Y=>y Y o) (fun c=>c .undef o) fun Z p=>aa g false (fun z=>af .gtr Z (N .i64 0) fun va=>z va p) (fun c=>c .undef p) fun vb e=>aB g (Bo true) vb fun vc=>au vc ( Q (Bo false) e) ( aY .eql a1 (St [118,101,114,115,105,111,110]) fun vd=>au vd ( aJ d 3 fun ve=>ak e ve fun vf=>aY .eql vf (St [52,46,48]) fun vg=>Q vg e) ( aJ d 3 fun vh=>ak e vh fun vi=>p2 [vi,(St [118,99,97,114,100])] e fun h q=>aa h true (fun B=>aJ d 3 fun vj=>B vj q) (fun c=>c .undef q) fun vk n=>aa h true (fun C=>ak n vk fun vl=>C vl n) (fun c=>c .undef n) fun vm r=>aa h true (fun D=>aP vm fun vn=>D vn r) (fun c=>c .undef r) fun vo s=>aa h true (fun E=>af .eql vo (N .i64 5) fun vp=>E vp s) (fun c=>c .undef s) fun vq v=>aB h vq (Bo false) fun vr=>Q vr v))
def oC (p1 p2:Nat) (p3 p4:aj) (a0 a1:AV) (M0:RM) (Q:ai) : Prop:=bY (fun p=>dz a0 fun vu=>bz (fun G o i=>af .lss (ag o 0) vu fun I=>au I ( bg a0 (ag o 0) 5 fun L=>aI i L 5 fun O=>aU (.row [(St []),(St []),(.sc (.slice none 0 0)),(St []),(N .i64 0)] false p1 0) (fun y=>.ptr y 0) i fun d t=>aA t d O 5 fun j=>aJ d 1 fun P=>ak j P fun R=>aY .neq R (St [117,105,100]) fun h=>aa h false (fun c=>aJ d 0 fun S=>c S j) (fun c=>c .undef j) fun U n=>aa h false (fun E=>ak n U fun V=>E V n) (fun c=>c .undef n) fun W s=>aa h false (fun F=>aY .neq W (St []) fun X=>F X s) (fun c=>c .undef s) fun Y g=>aB h (Bo true) Y fun Z=>au Z ( af .add (ag o 0) (N .i64 1) fun vo=>G [vo] g) ( aJ d 3 fun va=>ak g va fun vb=>aP vb fun vc=>af .geq vc (N .i64 1) fun e=>aa e true (fun A=>aJ d 3 fun vd=>A vd g) (fun c=>c .undef g) fun ve l=>aa e true (fun B=>ak l ve fun vf=>B vf l) (fun c=>c .undef l) fun vg q=>aa e true (fun C=>aP vg fun vh=>C vh q) (fun c=>c .undef q) fun vi r=>aa e true (fun D=>af .leq vi (N .i64 64) fun vj=>D vj r) (fun c=>c .undef r) fun vk m=>aB e vk (Bo false) fun vl=>au vl ( aJ d 3 fun vm=>ak m vm fun vn=>Q vn m) ( p [] m))) ( p [] i)) [(N .i64 0)] M0) (fun vv u=>qi p2 a1 fun H z=>aU H z u fun vp v=>p3 [vp] v fun vq w=>p4 [vq] w fun vr x=>bL (aS vr none (some (N .i64 16))) fun vs=>aY .add (St [99,45]) vs fun vt=>Q vt x)
def nQ (p1:Nat) (p2 p3 p4:aj) (p5:Nat) (p6:aj) (p7:Nat) (p8:aj) (a0:AV) (M0:RM) (Q:ai) : Prop:=aU (.row [(St []),(St []),(.sc (.slice none 0 0)),(St []),(N .i64 0)] false p1 0) (fun h=>.ptr h 0) M0 fun c P=>p2 [a0] P fun B R=>aG B 0 fun vy=>aG B 1 fun C=>aJ c 1 fun vz=>aA R vz vy 1 fun S=>bY (fun s=>p3 [C,(St [46])] S fun D m=>aG D 0 fun v0=>aG D 1 fun v1=>au v1 ( aJ c 1 fun v2=>ak m v2 fun v3=>aJ c 0 fun v4=>aA m v4 v3 1 fun ve=>p2 [v0] ve fun E vg=>aG E 0 fun v5=>aG E 1 fun v6=>aJ c 1 fun v7=>aA vg v7 v5 1 fun vi=>s [v6] vi) ( s [C] m)) (fun w9 vj=>bz (fun vq j vk=>p4 [(ag j 0),(St [59])] vk fun v8 g=>au v8 ( aU (.row [(St []),(.sc (.slice none 0 0))] false p5 0) (fun h=>.ptr h 0) g fun i U=>bL (aS (ag j 0) (some (N .i64 1)) none) fun v9=>p2 [v9] U fun F V=>aG F 0 fun wa=>aG F 1 fun G=>aJ i 0 fun wb=>aA V wb wa 1 fun W=>p4 [G,(St [61])] W fun wc t=>eB wc fun wd=>au wd ( dB [(St []),(St []),(.sc (.slice none 0 0)),(St []),(N .i64 0)] [] fun we=>aA t c we 5 fun u=>aI u c 5 fun vu=>Q (.tup [vu,(N .i64 0),(Bo false)]) u) ( bz (fun vr r e=>au (ag r 1) ( bL (aS (ag r 0) (some (N .i64 1)) none) fun wg=>p6 [wg] e fun o l=>aG o 0 fun wh=>aG o 1 fun H=>aG o 2 fun wi=>eB wi fun wj=>au wj ( dB [(St []),(St []),(.sc (.slice none 0 0)),(St []),(N .i64 0)] [] fun wk=>aA l c wk 5 fun v=>aI v c 5 fun vv=>Q (.tup [vv,(N .i64 0),(Bo false)]) v) ( aJ i 1 fun wl=>ak l wl fun wm=>dV p7 1 [(St [])] [(0,1,wh)] fun vs vl=>aU vs vl l fun wn X=>appW p7 1 16 [(St [])] false wm wn X fun wo Y=>aJ i 1 fun wp=>aA Y wp wo 1 fun Z=>p4 [H,(St [44])] Z fun wf va=>vr [H,wf] va)) ( aJ c 2 fun wq=>ak e wq fun wr=>aI e i 2 fun ws=>dV p5 1 [(St []),(.sc (.slice none 0 0))] [(0,2,ws)] fun vt vm=>aU vt vm e fun wt vb=>appW p5 2 40 [(St []),(.sc (.slice none 0 0))] false wr wt vb fun wu vc=>aJ c 2 fun wv=>aA vc wv wu 1 fun vd=>vq [(ag r 0)] vd)) [G,(Bo true)] t)) ( aY .eql (ag j 0) (St []) fun ww=>au ww ( aI g c 5 fun wx=>aA g c wx 5 fun w=>aI w c 5 fun vw=>Q (.tup [vw,(N .i64 0),(Bo true)]) w) ( p3 [(ag j 0),(St [35])] g fun I vf=>aG I 0 fun wy=>aG I 1 fun p=>p8 [wy] vf fun L n=>aG L 0 fun O=>aG L 1 fun wz=>aI n c 5 fun w0=>af .sub O (N .i64 1) fun w1=>aN p true (fun d=>d wz n none) (fun d=>d .undef n none) fun w2 x h=>aN p true (fun vn=>EZ false w2 (.sc .nilIface) fun w3=>vn w3 x none) (fun d=>d .undef x none) fun w4 y xa=>aB p w4 (Bo false) fun q=>aN q true (fun vo=>vo O y none) (fun d=>d .undef y none) fun w5 z xb=>aN q true (fun vp=>af .geq w5 (N .i64 2) fun w6=>vp w6 z none) (fun d=>d .undef z none) fun w7 vh xc=>aB q w7 (Bo false) fun w8=>aA vh c w0 5 fun A=>aI A c 5 fun vx=>Q (.tup [vx,w1,w8]) A))) [(ag w9 0)] vj)
def pg (a0:AV) (M0:RM) (Q:ai) : Prop:=bY (fun o=>bY (fun c=>aY .eql a0 (St [102,110]) fun i=>au i ( c [i] M0) ( aY .eql a0 (St [110,105,99,107,110,97,109,101]) fun j=>au j ( c [j] M0) ( aY .eql a0 (St [116,101,108]) fun l=>au l ( c [l] M0) ( aY .eql a0 (St [101,109,97,105,108]) fun m=>au m ( c [m] M0) ( aY .eql a0 (St [110,111,116,101]) fun n=>au n ( c [n] M0) ( aY .eql a0 (St [111,114,103]) fun e=>au e ( c [e] M0) ( aY .eql a0 (St [116,105,116,108,101]) fun g=>au g ( c [g] M0) ( aY .eql a0 (St [114,111,108,101]) fun h=>au h ( c [h] M0) ( aY .eql a0 (St [99,97,116,101,103,111,114,105,101,115]) fun q=>c [q] M0))))))))) (fun r d=>au (ag r 0) ( Q (Bo true) d) ( o [] d))) (fun s p=>Q (Bo false) p)
def qA (p1 p2:Nat) (p3:aj) (a0:AV) (M0:RM) (Q:ai) : Prop:=mD p1 a0 fun E B=>aU E B M0 fun h d=>aJ h 1 fun vo=>ak d vo fun u=>bY (fun n=>aJ h 0 fun F=>ak d F fun G=>aY .neq G (St []) fun H=>au H ( aJ h 0 fun I=>ak d I fun L=>aY .add L (St [46]) fun O=>aY .add O u fun P=>n [P] d) ( n [u] d)) (fun vp q=>aJ h 2 fun R=>ak q R fun s=>dz s fun S=>bz (fun C e i=>af .lss (ag e 1) S fun U=>au U ( bg s (ag e 1) 2 fun V=>aI i V 2 fun W=>aU (.row [(St []),(.sc (.slice none 0 0))] false p2 0) (fun A=>.ptr A 0) i fun m z=>aA z m W 2 fun j=>aJ m 0 fun X=>ak j X fun Y=>aY .add (St [59]) Y fun Z=>aY .add Z (St [61]) fun va=>aY .add (ag e 0) va fun vb=>aJ m 1 fun vc=>ak j vc fun t=>dz t fun vd=>bz (fun D c g=>af .lss (ag c 1) vd fun ve=>au ve ( bY (fun v=>bg t (ag c 1) 1 fun vf=>ak g vf fun l=>bY (fun p=>af .gtr (ag c 1) (N .i64 0) fun vg=>au vg ( aY .add (ag c 0) (St [44]) fun vh=>p [vh] g) ( p [(ag c 0)] g)) (fun vq w=>bY (fun o=>p3 [l,(St [44,59,58,35])] w fun vi r=>au vi ( aY .add (St [34]) l fun vj=>aY .add vj (St [34]) fun vk=>o [vk] r) ( o [l] r)) (fun vr x=>aY .add (ag vq 0) (ag vr 0) fun vl=>v [vl] x))) (fun vs y=>af .add (ag c 1) (N .i64 1) fun vm=>D [(ag vs 0),vm] y)) ( af .add (ag e 1) (N .i64 1) fun vn=>C [(ag c 0),vn] g)) [vb,(N .i64 0)] j) ( Q (ag e 0) i)) [(ag vp 0),(N .i64 0)] q)
def kS (p1 p2:aj) (a0 a1:AV) (M0:RM) (Q:ai) : Prop:=aP a0 fun wk=>aP a1 fun wl=>FY false wk wl fun wm=>bz (fun vz h i=>af .lss (ag h 0) wm fun wn=>au wn ( bY (fun A=>di a0 (ag h 0) fun j=>di a1 (ag h 0) fun l=>af .or j l fun wp=>af .geq wp (N .u8 128) fun wq=>au wq ( bL (aS a0 (some (ag h 0)) none) fun w8=>bL (aS a1 (some (ag h 0)) none) fun w9=>zZ w8 fun v1 vi=>aU v1 vi i fun xa vd=>bz (fun w p vf=>Ai xa vf fun vb t=>aG vb 0 fun xb=>au xb ( aG vb 2 fun n=>aP (ag p 0) fun xc=>af .eql xc (N .i64 0) fun xd=>au xd ( Q (Bo false) t) ( p1 [(ag p 0)] t fun vc u=>aG vc 0 fun o=>aG vc 1 fun xe=>bL (aS (ag p 0) (some xe) none) fun y=>af .eql o n fun xf=>au xf ( w [y] u) ( bY (fun C=>af .lss o n fun xg=>au xg ( C [o,n] u) ( C [n,o] u)) (fun d v=>af .lss (ag d 1) (N .i32 128) fun xh=>au xh ( af .leq (N .i32 65) (ag d 0) fun z=>aa z true (fun c=>c (ag d 0) v) (fun c=>c .undef v) fun xi va=>aa z true (fun vj=>af .leq xi (N .i32 90) fun xj=>vj xj va) (fun c=>c .undef va) fun xk D=>aB z xk (Bo false) fun g=>aa g true (fun vk=>vk (ag d 1) D) (fun c=>c .undef D) fun xl E=>aa g true (fun vl=>vl (ag d 0) E) (fun c=>c .undef E) fun v2 F=>aa g true (fun vm=>af .add v2 (N .i32 97) fun v3=>vm v3 F) (fun c=>c .undef F) fun v4 G=>aa g true (fun vn=>af .sub v4 (N .i32 65) fun v5=>vn v5 G) (fun c=>c .undef G) fun v6 H=>aa g true (fun vo=>af .eql xl v6 fun v7=>vo v7 H) (fun c=>c .undef H) fun v8 I=>aB g v8 (Bo false) fun v9=>au v9 ( w [y] I) ( Q (Bo false) I)) ( p2 [(ag d 0)] v fun wa ve=>bz (fun v0 q L=>af .neq (ag q 0) (ag d 0) fun m=>aa m true (fun vp=>vp (ag q 0) L) (fun c=>c .undef L) fun wb O=>aa m true (fun vq=>vq (ag d 1) O) (fun c=>c .undef O) fun wc P=>aa m true (fun vr=>af .lss wb wc fun wd=>vr wd P) (fun c=>c .undef P) fun we s=>aB m we (Bo false) fun wf=>au wf ( p2 [(ag q 0)] s fun wg vg=>v0 [wg] vg) ( af .eql (ag q 0) (ag d 1) fun wh=>au wh ( w [y] s) ( Q (Bo false) s))) [wa] ve))))) ( aP (ag p 0) fun wi=>af .eql wi (N .i64 0) fun wj=>Q wj t)) [w9] vd) ( af .eql l j fun wr=>au wr ( A [] i) ( bY (fun B=>af .lss l j fun ws=>au ws ( B [l,j] i) ( B [j,l] i)) (fun r R=>af .leq (N .u8 65) (ag r 0) fun x=>aa x true (fun vs=>vs (ag r 0) R) (fun c=>c .undef R) fun wt S=>aa x true (fun vt=>af .leq wt (N .u8 90) fun wu=>vt wu S) (fun c=>c .undef S) fun wv U=>aB x wv (Bo false) fun e=>aa e true (fun vu=>vu (ag r 1) U) (fun c=>c .undef U) fun ww V=>aa e true (fun vv=>vv (ag r 0) V) (fun c=>c .undef V) fun wx W=>aa e true (fun vw=>af .add wx (N .u8 97) fun wy=>vw wy W) (fun c=>c .undef W) fun wz X=>aa e true (fun vx=>af .sub wz (N .u8 65) fun w0=>vx w0 X) (fun c=>c .undef X) fun w1 Y=>aa e true (fun vy=>af .eql ww w1 fun w2=>vy w2 Y) (fun c=>c .undef Y) fun w3 Z=>aB e w3 (Bo false) fun w4=>au w4 ( A [] Z) ( Q (Bo false) Z))))) (fun xm vh=>af .add (ag h 0) (N .i64 1) fun wo=>vz [wo] vh)) ( aP a0 fun w5=>aP a1 fun w6=>af .eql w5 w6 fun w7=>Q w7 i)) [(N .i64 0)] M0
def rZ (p1:aj) (a0:AV) (M0:RM) (Q:ai) : Prop:=aP a0 fun h=>p1 [a0,(St [97,98,99,100,101,102,103,104,105,106,107,108,109,110,111,112,113,114,115,116,117,118,119,120,121,122,48,49,50,51,52,53,54,55,56,57,45])] M0 fun i d=>aP i fun j=>af .sub h j fun c=>bL (aS a0 none (some c)) fun e=>bL (aS a0 (some c) none) fun g=>Q (.tup [e,g]) d
def qB (p1 p2 p3:aj) (a0:AV) (M0:RM) (Q:ai) : Prop:=p1 [a0,(St [34])] M0 fun h e=>aG h 0 fun n=>aG h 1 fun o=>au o ( p2 [n,(St [34])] e fun c l=>aG c 0 fun p=>aG c 1 fun q=>aG c 2 fun r=>Q (.tup [p,q,r]) l) ( p3 [a0,(St [44,59,58,35])] e fun i g=>bY (fun d=>af .lss i (N .i64 0) fun s=>au s ( aP a0 fun t=>d [t] g) ( d [i] g)) (fun j m=>bL (aS a0 none (some (ag j 0))) fun u=>bL (aS a0 (some (ag j 0)) none) fun v=>Q (.tup [u,v,(Bo true)]) m))
def eH (p1:aj) (p2:Nat) (p3 p4 p5:aj) (a0 a1:AV) (M0:RM) (Q:ai) : Prop:=aP a1 fun e=>af .eql e (N .i64 0) fun q=>aa q false (fun c=>c a1 M0) (fun c=>c .undef M0) fun w2 w=>aa q false (fun vk=>vk a0 w) (fun c=>c .undef w) fun w3 x=>aa q false (fun vn=>aY .eql w2 w3 fun w4=>vn w4 x) (fun c=>c .undef x) fun w5 h=>aB q (Bo true) w5 fun w6=>au w6 ( Q (N .i64 0) h) ( af .eql e (N .i64 1) fun w7=>au w7 ( di a1 (N .i64 0) fun w8=>p1 [a0,w8] h fun w9 vj=>Q w9 vj) ( aP a0 fun xa=>af .geq e xa fun xb=>au xb ( Q (N .i64 (-1)) h) ( ak h (Gq h p2) fun xc=>af .leq e xc fun r=>aa r true (fun v3=>v3 a0 h) (fun c=>c .undef h) fun xd vb=>aa r true (fun v8=>aP xd fun xe=>v8 xe vb) (fun c=>c .undef vb) fun xf y=>aa r true (fun vl=>af .leq xf (N .i64 64) fun xg=>vl xg y) (fun c=>c .undef y) fun xh z=>aB r xh (Bo false) fun xi=>au xi ( p3 [a0,a1] z fun xj vh=>Q xj vh) ( di a1 (N .i64 0) fun vf=>di a1 (N .i64 1) fun xk=>aP a0 fun xl=>af .sub xl e fun xm=>af .add xm (N .i64 1) fun t=>bz (fun v9 j s=>af .lss (ag j 0) t fun xn=>au xn ( bY (fun v=>di a0 (ag j 0) fun xo=>af .neq xo vf fun xp=>au xp ( af .add (ag j 0) (N .i64 1) fun xq=>bL (aS a0 (some xq) (some t)) fun xr=>p1 [xr,vf] s fun vg A=>af .lss vg (N .i64 0) fun xs=>au xs ( Q (N .i64 (-1)) A) ( af .add vg (N .i64 1) fun xt=>af .add (ag j 0) xt fun xu=>v [xu] A)) ( v [(ag j 0)] s)) (fun o B=>af .add (ag o 0) (N .i64 1) fun xv=>di a0 xv fun xw=>af .eql xw xk fun d=>aa d true (fun vm=>vm a0 B) (fun c=>c .undef B) fun xx C=>aa d true (fun vo=>vo (ag o 0) C) (fun c=>c .undef C) fun xy D=>aa d true (fun vp=>vp (ag o 0) D) (fun c=>c .undef D) fun xz E=>aa d true (fun vq=>vq e E) (fun c=>c .undef E) fun x0 F=>aa d true (fun vr=>af .add xz x0 fun x1=>vr x1 F) (fun c=>c .undef F) fun x2 G=>aa d true (fun vs=>bL (aS xx (some xy) (some x2)) fun x3=>vs x3 G) (fun c=>c .undef G) fun x4 H=>aa d true (fun vt=>vt a1 H) (fun c=>c .undef H) fun x5 I=>aa d true (fun vu=>aY .eql x4 x5 fun x6=>vu x6 I) (fun c=>c .undef I) fun x7 l=>aB d x7 (Bo false) fun x8=>au x8 ( Q (ag o 0) l) ( af .add (ag o 0) (N .i64 1) fun g=>af .add (ag j 1) (N .i64 1) fun u=>ak l (Gq l p2) fun wa=>af .leq e wa fun n=>aa n true (fun vv=>vv u l) (fun c=>c .undef l) fun wb L=>aa n true (fun vw=>vw g L) (fun c=>c .undef L) fun wc O=>aa n true (fun vx=>p4 [wc] O fun wd vi=>vx wd vi) (fun c=>c .undef O) fun we P=>aa n true (fun vy=>af .gtr wb we fun wf=>vy wf P) (fun c=>c .undef P) fun wg m=>aB n wg (Bo false) fun wh=>au wh ( bL (aS a0 (some g) none) fun wi=>p3 [wi,a1] m fun vd R=>af .geq vd (N .i64 0) fun wj=>au wj ( af .add vd g fun wk=>Q wk R) ( Q (N .i64 (-1)) R)) ( ak m (Gq m p2) fun wl=>af .gtr e wl fun i=>aa i true (fun vz=>vz u m) (fun c=>c .undef m) fun wm S=>aa i true (fun v0=>v0 g S) (fun c=>c .undef S) fun wn U=>aa i true (fun v1=>oH .shr wn (N .u64 4) fun wo=>v1 wo U) (fun c=>c .undef U) fun wp V=>aa i true (fun v2=>af .add (N .i64 4) wp fun wq=>v2 wq V) (fun c=>c .undef V) fun wr W=>aa i true (fun v4=>af .geq wm wr fun ws=>v4 ws W) (fun c=>c .undef W) fun wt X=>aB i wt (Bo false) fun p=>aa p true (fun v5=>v5 g X) (fun c=>c .undef X) fun wu Y=>aa p true (fun v6=>v6 t Y) (fun c=>c .undef Y) fun wv Z=>aa p true (fun v7=>af .lss wu wv fun ww=>v7 ww Z) (fun c=>c .undef Z) fun wx va=>aB p wx (Bo false) fun wy=>au wy ( bL (aS a0 (some g) none) fun wz=>p5 [wz,a1] va fun ve vc=>af .lss ve (N .i64 0) fun w0=>au w0 ( Q (N .i64 (-1)) vc) ( af .add g ve fun w1=>Q w1 vc)) ( v9 [g,u] va))))) ( Q (N .i64 (-1)) s)) [(N .i64 0),(N .i64 0)] z))))
def iT (p1 p2 p3:aj) (a0 a1:AV) (M0:RM) (Q:ai) : Prop:=af .leq (N .i32 0) a1 fun s=>aa s true (fun c=>c a1 M0) (fun c=>c .undef M0) fun v8 x=>aa s true (fun vi=>af .lss v8 (N .i32 128) fun v9=>vi v9 x) (fun c=>c .undef x) fun wa q=>aB s wa (Bo false) fun wb=>au wb ( oh .u8 a1 fun wc=>p1 [a0,wc] q fun wd vd=>Q wd vd) ( af .eql a1 (N .i32 65533) fun we=>au we ( zZ a0 fun v7 vh=>aU v7 vh q fun wf ve=>bz (fun v4 x2 vf=>Ai wf vf fun t r=>aG t 0 fun wg=>au wg ( aG t 1 fun wh=>aG t 2 fun wi=>af .eql wi (N .i32 65533) fun wj=>au wj ( Q wh r) ( v4 [] r)) ( Q (N .i64 (-1)) r)) [] ve) ( p2 [a1] q fun wk Z=>eB wk fun wl=>au wl ( Q (N .i64 (-1)) Z) ( DU a1 fun g=>aP g fun wm=>af .sub wm (N .i64 1) fun h=>bz (fun v6 e p=>aP a0 fun wn=>af .lss (ag e 0) wn fun wo=>au wo ( bY (fun w=>di a0 (ag e 0) fun wp=>di g h fun wq=>af .neq wp wq fun wr=>au wr ( af .add (ag e 0) (N .i64 1) fun ws=>bL (aS a0 (some ws) none) fun wt=>di g h fun wu=>p1 [wt,wu] p fun va y=>af .lss va (N .i64 0) fun wv=>au wv ( Q (N .i64 (-1)) y) ( af .add va (N .i64 1) fun ww=>af .add (ag e 0) ww fun wx=>w [wx] y)) ( w [(ag e 0)] p)) (fun v vb=>bz (fun v5 o n=>aP g fun wy=>af .lss (ag o 0) wy fun wz=>au wz ( af .sub (ag v 0) (ag o 0) fun w1=>di a0 w1 fun w2=>af .sub h (ag o 0) fun w3=>di g w3 fun w4=>af .neq w2 w4 fun w5=>au w5 ( af .add (ag e 1) (N .i64 1) fun u=>af .add (ag v 0) (N .i64 1) fun i=>aa (Bo true) true (fun vj=>vj u n) (fun c=>c .undef n) fun w7 z=>aa (Bo true) true (fun vk=>vk i z) (fun c=>c .undef z) fun w8 A=>aa (Bo true) true (fun vl=>p3 [w8] A fun w9 vc=>vl w9 vc) (fun c=>c .undef A) fun xa B=>aa (Bo true) true (fun vm=>af .gtr w7 xa fun xb=>vm xb B) (fun c=>c .undef B) fun xc C=>aB (Bo true) xc (Bo false) fun j=>aa j true (fun vn=>vn i C) (fun c=>c .undef C) fun xd D=>aa j true (fun vo=>vo a0 D) (fun c=>c .undef D) fun xe E=>aa j true (fun vp=>aP xe fun xf=>vp xf E) (fun c=>c .undef E) fun xg F=>aa j true (fun vq=>af .lss xd xg fun xh=>vq xh F) (fun c=>c .undef F) fun xi G=>aB j xi (Bo false) fun l=>aa l false (fun vr=>vr (Bo false) G) (fun c=>c .undef G) fun d H=>aa d true (fun vs=>vs u H) (fun c=>c .undef H) fun xj I=>aa d true (fun vt=>vt i I) (fun c=>c .undef I) fun xk L=>aa d true (fun vu=>oH .shr xk (N .u64 4) fun xl=>vu xl L) (fun c=>c .undef L) fun xm O=>aa d true (fun vv=>af .add (N .i64 4) xm fun xn=>vv xn O) (fun c=>c .undef O) fun xo P=>aa d true (fun vw=>af .geq xj xo fun xp=>vw xp P) (fun c=>c .undef P) fun xq R=>aa l false (fun vx=>aB d xq (Bo false) fun xr=>vx xr R) (fun c=>c .undef R) fun xs S=>aa l false (fun vy=>vy xs S) (fun c=>c .undef S) fun m U=>aa m true (fun vz=>vz i U) (fun c=>c .undef U) fun xt V=>aa m true (fun v0=>v0 a0 V) (fun c=>c .undef V) fun xu W=>aa m true (fun v1=>aP xu fun xv=>v1 xv W) (fun c=>c .undef W) fun xw X=>aa m true (fun v2=>af .lss xt xw fun xx=>v2 xx X) (fun c=>c .undef X) fun xy Y=>aa l false (fun v3=>aB m xy (Bo false) fun xz=>v3 xz Y) (fun c=>c .undef Y) fun x0 vg=>aB l (Bo true) x0 fun x1=>au x1 ( False) ( v6 [i,u] vg)) ( af .add (ag o 0) (N .i64 1) fun w0=>v5 [w0] n)) ( af .sub (ag v 0) h fun w6=>Q w6 n)) [(N .i64 1)] vb)) ( Q (N .i64 (-1)) p)) [h,(N .i64 0)] Z)))
end Go.Ab.Vc
set_option maxRecDepth 10000
namespace Go.Ab.Vc
open Go Go.Ab Go.Ab.Vl Go.Ab.Sm
def Iz (c:aj) : Prop:=∀ {M:RM} {s:Str} {Q:ai},Q (Bo (FE s)) M→c [St s] M Q
theorem O1:Iz fun args M Q=>∃ a0,args=[a0]∧mY a0 M Q:=by
 intro M s Q hQ
 refine⟨_,rfl, ?_⟩
 unfold mY
 simp only[dH]
 rw[fB]
 have e1:∀ x:Str,(s == x)=decide (s=x):=fun x=>by by_cases h:s=x <;> simp[h]
 rw[e1]
 unfold FE at hQ
 cases h1:decide (s=sN) with
 | true =>
   simp only[h1,Bool.true_or] at hQ
   simp only[gL,gI]
   exact hQ
 | false =>
   simp only[h1,Bool.false_or] at hQ
   simp only[jW,iV]
   rw[fB,e1]
   cases h2:decide (s=ig) with
   | true=>simp only[h2,Bool.true_or] at hQ; simp only[gL,gI]; exact hQ
   | false =>
     simp only[h2,Bool.false_or] at hQ
     simp only[jW,iV]
     rw[fB,e1]
     exact hQ
def Ic (c:aj) : Prop:=∀ {M:RM} {s:Str} {Q:ai},Q (Bo (yT s)) M→c [St s] M Q
theorem Pt (s:Str) : yT s=Lp.any fun x=>s == x:=by
 unfold yT
 cases h:Lp.any (fun x=>s == x) with
 | true =>
   obtain⟨x,h1,h2⟩:=List.any_eq_true.1 h
   have e:s=x:=by simpa using h2
   subst e
   exact decide_eq_true h1
 | false =>
   refine decide_eq_false fun hm=>?_
   have:=List.any_eq_false.1 h s hm
   simp at this
theorem PS:Ic fun args M Q=>∃ a0,args=[a0]∧pg a0 M Q:=by
 intro M s Q hQ
 refine⟨_,rfl, ?_⟩
 unfold pg
 simp only[dI]
 rw[Pt] at hQ
 refine bN (fun ys M'=>M'=M∧(Lp.any fun x=>s == x)=false) (fun ys M' h=>by obtain⟨rfl,h⟩:=h; rw[h] at hQ; exact hQ) ?_
 intro J hJ
 refine bN (fun ys M'=>M'=M∧ys=[Bo (Lp.any fun x=>s == x)]) (fun ys M' h=>?_) ?_
 ·obtain⟨rfl,rfl⟩:=h
  dsimp only[ag]
  refine bi (fun h=>by rw[h] at hQ; exact hQ) fun h=>hJ _ _ ⟨rfl,h⟩
 intro J2 hJ2
 unfold Lp at hJ2
 simp only[List.any_cons,List.any_nil,Bool.or_false] at hJ2
 repeat' first
  | (rw[fB]; refine bi (fun h=>hJ2 _ _ ⟨rfl,by simp[h]⟩) fun h=>?_)
  | (rw[fB]; refine hJ2 _ _ ⟨rfl,by simp[*]⟩)
def Su (B:Base) (c:aj) : Prop:=∀ {M:RM} {n:Int} {Q:ai},M.base=B→-9223372036854775808≤n→n≤9223372036854775807→(∀ M',ae [] M M'→Q (St (Lib.itoa n)) M')→c [N .i64 n] M Q
def ME (B:Base) (c:aj) : Prop:=∀ {M:RM} {s:Str} {k:Int} {Q:ai},M.base=B→s.length≤1000000000→(∀ M',ae [] M M'→Q (St (kG s k)) M')→c [St s,N .i64 k] M Q
theorem Qm {B:Base} {ci:aj} (hi:Su B ci) : ME B fun args M Q=>∃ a0 a1,args=[a0,a1]∧mZ ci a0 a1 M Q:=by
 intro M s k Q hB hs hQ
 refine⟨_,_,rfl, ?_⟩
 unfold mZ
 rw[bR]
 unfold kG at hQ
 refine bi (fun h=>?_) (fun h=>?_)
 ·have h:k=0:=by simpa using h
  rw[if_pos h] at hQ
  exact hQ M (ae.refl _ _)
 ·have h:¬ k=0:=by simpa using h
  rw[if_neg h] at hQ
  rw[bM]
  refine⟨by simp; omega, ?_⟩
  rw[ed]
  have hw : -9223372036854775808≤IntKind.wrap .i64 (k + 1)∧IntKind.wrap .i64 (k + 1)≤9223372036854775807:=by
   rw[IntKind.wrap_i64]; omega
  refine hi hB hw.1 hw.2 fun M' k'=>?_
  rw[bM]
  have:=Lib.itoa_length_le _ hw.1 hw.2
  refine⟨by simp; omega, ?_⟩
  exact hQ M' k'
def ML (B:Base) (c:aj) : Prop:=∀ {M:RM} {s:Str} {Q:ai},M.base=B→s.length≤1000000000→(∀ M',ae [] M M'→Q (Bo (FM s)) M')→c [St s,St lu] M Q
theorem Gv (s:Str) : (Lib.indexAny s lu=-1∧∀ x∈s,x ∉ lu)∨∃ a c b,s=a++c :: b∧Lib.indexAny s lu=(a.length:Int)∧c∈lu∧∀ x∈a,x ∉ lu:=by
 induction s with
 | nil=>exact .inl ⟨rfl,by simp⟩
 | cons d s ih =>
   by_cases hd:d∈lu
   ·refine .inr ⟨[],d,s,rfl, ?_,hd,by simp⟩
    have:lu.contains d=true:=by simpa using hd
    simp[Lib.indexAny,hd]
   ·have hn:lu.contains d=false:=by simpa using hd
    rcases ih with⟨e,h⟩ | ⟨a,c,b,e1,e2,h1,h2⟩
    ·refine .inl ⟨by simp[Lib.indexAny,hd,e],fun x hx=>?_⟩
     rcases List.mem_cons.1 hx with rfl | hx
     ·exact hd
     ·exact h x hx
    ·refine .inr ⟨d :: a,c,b,by rw[e1]; rfl, ?_,h1,fun x hx=>?_⟩
     ·simp[Lib.indexAny,hd,e2]
     ·rcases List.mem_cons.1 hx with rfl | hx
      ·exact hd
      ·exact h2 x hx
theorem Ph {B:Base} {ci:aj} (hi:lL lu B ci) : ML B fun args M Q=>∃ a0 a1,args=[a0,a1]∧fG ci a0 a1 M Q:=by
 intro M s Q hM hl hQ
 refine⟨_,_,rfl, ?_⟩
 unfold fG
 refine hi hM hl fun M' k=>?_
 have hQ:=hQ M' k
 rw[eY]
 rcases Gv s with⟨e,h⟩ | ⟨a,c,b,e1,e2,h1,h2⟩
 ·have:FM s=false:=by
   unfold FM
   rw[List.any_eq_false]
   intro x hx
   simpa using h x hx
  rw[this] at hQ
  rw[e]; exact hQ
 ·have:FM s=true:=by
   unfold FM
   rw[List.any_eq_true]
   exact⟨c,by rw[e1]; simp,by simpa using h1⟩
  rw[this] at hQ
  rw[e2,show decide ((a.length:Int) ≥ 0)=true from decide_eq_true (by omega)]; exact hQ
def yA (j:Nat) (vs:List Str) : Str:=if j=0 then BZ vs else yS (vs.drop j)
theorem Mx {vs:List Str} {j:Nat} (hj:j<vs.length) : yA j vs=(if 0<j then[44] else[])++(q4 vs[j]++yA (j + 1) vs):=by
 unfold yA
 rw[if_neg (by omega:¬ j + 1=0)]
 by_cases h:j=0
 ·subst h
  rw[if_pos rfl,if_neg (by omega)]
  cases vs with
  | nil=>simp at hj
  | cons v vs=>rfl
 ·rw[if_neg h,if_pos (by omega),List.drop_eq_getElem_cons hj]
  rfl
theorem Qd (vs:List Str) : yA vs.length vs=[]:=by
 unfold yA
 cases vs with
 | nil=>rfl
 | cons v vs=>rw[if_neg (by simp),List.drop_length]; rfl
def JB (B:Base) (c:aj) : Prop:=∀ {M:RM} {cs:List AV} {L:Ln} {k:Int} {S:Nat→Prop} {Q:ai},M.base=B→gP.rel M cs (L,k) S→LB 1000000000 L→(fQ L).length≤140737488355328→(∀ M',ae [] M M'→Q (St (fQ L)) M')→c [.agg cs] M Q
theorem Mt {B:Base} {TL TP:Nat} {ca:aj} (ha:ML B ca) : JB B fun args M Q=>∃ a0,args=[a0]∧qA TL TP ca a0 M Q:=by
 intro M cs L k S Q hBM hrel hB hPl hQ
 obtain⟨v,rfl,hps⟩:=hrel
 simp only at hps
 refine⟨_,rfl, ?_⟩
 unfold qA
 simp only[dI]
 have hall:([St L.g,St L.n,v,St L.v,N .i64 k] : List AV).all oneCell=true:=by simp[eT,hps.one]
 rw[ic hall (by simp),aF]
 have k1:ae [] M (M.push (.row [St L.g,St L.n,v,St L.v,N .i64 k] false TL 0)):=(ae.refl _ _).push _
 have h1:(M.push (.row [St L.g,St L.n,v,St L.v,N .i64 k] false TL 0)).heap M.next=some (.row [St L.g,St L.n,v,St L.v,N .i64 k] false TL 0):=RM.aQ _
 have n1:(M.push (.row [St L.g,St L.n,v,St L.v,N .i64 k] false TL 0)).next=M.next + 1:=bF _
 generalize M.push (.row [St L.g,St L.n,v,St L.v,N .i64 k] false TL 0)=M1 at *
 have Uh:bD iB M1 v L.ps S:=hps.keep k1 (by simp)
 have Xi:=hB.ps
 have hgl:=hB.g
 have hnl:=hB.n
 rw[aX,az h1 rfl]
 have hP:nk L++L.n++L.ps.flatMap C8=fQ L:=by unfold fQ BI; rw[List.append_assoc]
 generalize fQ L=P at *
 refine bN (fun ys M'=>ys=[St (nk L++L.n)]∧M'=M1) ?_ ?_
 rotate_left 1
 ·intro J hJ
  rw[aX,az h1 rfl,ni]
  unfold nk at hJ
  refine bi (fun h=>?_) (fun h=>?_)
  ·have h:¬ L.g=[]:=by simpa using h
   rw[if_neg h] at hJ
   rw[aX,az h1 rfl,bM]
   refine⟨by simp; omega, ?_⟩
   rw[bM]
   exact⟨by simp; omega,hJ _ _ ⟨rfl,rfl⟩⟩
  ·have h:L.g=[]:=by simpa using h
   rw[if_pos h] at hJ
   exact hJ _ _ ⟨rfl,rfl⟩
 rintro _ M' ⟨rfl,e⟩
 rw[e]
 clear e M'
 dsimp only[ag]
 rw[aX,az h1 rfl,Uh.len]
 refine aR (fun m ys M5=>∃ (i:Nat) (xs:List UInt8),m=L.ps.length - i∧ys=[St xs,N .i64 (i:Int)]∧i≤L.ps.length∧ae [] M1 M5∧xs++(L.ps.drop i).flatMap C8=P) L.ps.length
  ⟨0,_,rfl,rfl,Nat.zero_le _,ae.refl _ _,by rw[List.drop_zero]; exact hP⟩ ?_
 rintro next m ys M5 hnext ⟨i,xs,rfl,rfl,hi,k5,hx⟩
 dsimp only[ag]
 have IL:=Uh.keep k5 (by simp)
 rw[kU]
 refine bi (fun hlt=>?_) (fun hge=>?_)
 ·have hlt:i<L.ps.length:=of_decide_eq_true hlt
  have hmem:=List.getElem_mem hlt
  have b1:=hB.pn _ hmem
  have b2:=hB.pl _ hmem
  have b3:=hB.pv _ hmem
  rw[List.drop_eq_getElem_cons hlt,List.flatMap_cons] at hx
  have hpj:C8 L.ps[i]=[59]++L.ps[i].1++[61]++BZ L.ps[i].2:=rfl
  have hxl:=Ee hx
  rw[hpj] at hxl
  simp only[List.length_append,List.length_cons,List.length_nil] at hxl
  generalize hrest:(L.ps.drop (i + 1)).flatMap C8=rest at *
  obtain⟨pv,hpv,hpa⟩:=Fv IL hlt
  rw[hpa,aF,bJ (n:=2) (x:=.agg [St L.ps[i].1,pv]) (l:=[St [],aC]) (RM.aQ _) rfl rfl (by show([St L.ps[i].1,pv] : List AV).all oneCell=true; simp[eT,hpv.one])]
  have k6:ae [] M5 ((M5.push (.row [St [],aC] false TP 0)).put M5.next (.row (AV.agg [St L.ps[i].1,pv]).cells false TP 0)):=((ae.refl _ _).push _).new _ (Nat.le_refl _)
  have h6:((M5.push (.row [St [],aC] false TP 0)).put M5.next (.row (AV.agg [St L.ps[i].1,pv]).cells false TP 0)).heap M5.next=some (.row [St L.ps[i].1,pv] false TP 0):=ay _
  have n6:((M5.push (.row [St [],aC] false TP 0)).put M5.next (.row (AV.agg [St L.ps[i].1,pv]).cells false TP 0)).next=M5.next + 1:=rfl
  generalize (M5.push (.row [St [],aC] false TP 0)).put M5.next (.row (AV.agg [St L.ps[i].1,pv]).cells false TP 0)=M6 at *
  have NF:=hpv.keep k6 (by simp)
  rw[aX,az h6 rfl,bM]
  refine⟨by simp; omega, ?_⟩
  rw[bM]
  refine⟨by simp; omega, ?_⟩
  rw[bM]
  refine⟨by simp; omega, ?_⟩
  rw[aX,az h6 rfl,NF.len]
  refine aR (fun m ys M9=>∃ (j:Nat) (zs:List UInt8),m=L.ps[i].2.length - j∧ys=[St zs,N .i64 (j:Int)]∧j≤L.ps[i].2.length∧ae [] M6 M9∧zs++(yA j L.ps[i].2++rest)=P) L.ps[i].2.length
    ⟨0,_,rfl,rfl,Nat.zero_le _,ae.refl _ _, ?_⟩ ?_
  ·rw[← hx,hpj]
   simp only[List.append_assoc,yA,if_true]
  rintro EP m ys M9 mO ⟨j,zs,rfl,rfl,hj,k9,hz⟩
  dsimp only[ag]
  rw[kU]
  refine bi (fun hlt2=>?_) (fun Qs=>?_)
  ·have hlt2:j<L.ps[i].2.length:=of_decide_eq_true hlt2
   rw[Mx hlt2] at hz
   have b4:=b3 _ (List.getElem_mem hlt2)
   have hzl:=Ee hz
   simp only[List.length_append] at hzl
   have Rc:=NF.keep k9 (by simp)
   refine bN (fun ys M'=>ys=[St (zs++((if 0<j then[44] else[])++q4 L.ps[i].2[j]))]∧ae [] M6 M') ?_ ?_
   ·rintro _ Ma ⟨rfl,ka⟩
    dsimp only[ag]
    rw[add1 (by omega)]
    refine mO _ _ _ (by omega) ⟨j + 1,_,rfl,rfl,by omega,ka, ?_⟩
    rw[← hz]
    simp only[List.append_assoc]
   intro J3 hJ3
   rw[Jm Rc.sl hlt2]
   generalize L.ps[i].2[j]=x at *
   refine bN (fun ys M'=>ys=[St (zs++(if 0<j then[44] else[]))]∧M'=M9) ?_ ?_
   ·rintro _ Ma ⟨rfl,rfl⟩
    dsimp only[ag]
    refine bN (fun ys M'=>ys=[St (q4 x)]∧ae [] Ma M') ?_ ?_
    ·rintro _ Mb ⟨rfl,kb⟩
     dsimp only[ag]
     rw[bM]
     refine⟨by simp only[List.length_append]; omega, ?_⟩
     exact hJ3 _ _ ⟨by rw[List.append_assoc],k9.trans kb⟩
    intro J2 hJ2
    refine ha (((k1.trans k5).trans (k6.trans k9)).base.trans hBM) b4 fun Mb kb=>?_
    refine bi (fun hm=>?_) (fun hm=>?_)
    ·rw[bM]
     refine⟨by simp; omega, ?_⟩
     rw[bM]
     refine⟨by simp; omega, ?_⟩
     exact hJ2 _ _ ⟨by rw[q4,if_pos hm],kb⟩
    ·exact hJ2 _ _ ⟨by rw[q4,if_neg (by rw[hm]; simp)],kb⟩
   intro J2 hJ2
   rw[show(N .i64 (0:Int))=N .i64 ((0:Nat) : Int) from rfl,Gp]
   refine bi (fun hm=>?_) (fun hm=>?_)
   ·have hm:0<j:=of_decide_eq_true hm
    rw[if_pos hm] at hzl hJ2
    simp only[List.length_cons,List.length_nil] at hzl
    rw[bM]
    refine⟨by simp; omega, ?_⟩
    exact hJ2 _ _ ⟨rfl,rfl⟩
   ·have hm:¬ 0<j:=of_decide_eq_false hm
    refine hJ2 _ _ ⟨?_,rfl⟩
    rw[if_neg hm,List.append_nil]
  ·have he:j=L.ps[i].2.length:=by
    have:¬ j<L.ps[i].2.length:=of_decide_eq_false Qs
    omega
   subst he
   rw[Qd,List.nil_append] at hz
   rw[add1 (by omega)]
   exact hnext _ _ _ (by omega) ⟨i + 1,zs,rfl,rfl,by omega,k5.trans (k6.trans k9),by rw[hrest]; exact hz⟩
 ·have he:i=L.ps.length:=by
   have:¬ i<L.ps.length:=of_decide_eq_false hge
   omega
  subst he
  rw[List.drop_length,List.flatMap_nil,List.append_nil] at hx
  subst hx
  exact hQ M5 (k1.trans k5)
theorem Ke {f g:Prop→Prop} {k:Prop} : Bn (Bo false) true f g k=g k:=rfl
theorem OE {f g:Prop→Prop} {k:Prop} : Bn (Bo true) true f g k=f k:=rfl
def dQ (vs:List Str) : Nat:=(vs.map fun v=>v.length + 3).sum
def iH (ps:List jG) : Nat:=(ps.map fun p=>p.1.length + 3 + dQ p.2).sum
theorem BC (a:List Str) (v:Str) : dQ (a++[v])=dQ a + (v.length + 3):=by simp[dQ]
theorem LF (a:List jG) (p:jG) : iH (a++[p])=iH a + (p.1.length + 3 + dQ p.2):=by simp[iH]
theorem LA:∀ {vs:List Str} {v:Str},v∈vs→v.length + 3≤dQ vs
 | w :: vs,v,h=>by
   rw[show dQ (w :: vs)=(w.length + 3) + dQ vs by simp[dQ]]
   rcases List.mem_cons.1 h with rfl | h
   ·omega
   ·have:=LA h; omega
theorem LP:∀ vs:List Str,vs.length≤dQ vs
 | []=>by simp
 | w :: vs=>by
   rw[show dQ (w :: vs)=(w.length + 3) + dQ vs by simp[dQ]]
   have:=LP vs; simp; omega
theorem Cb:∀ {ps:List jG} {p:jG},p∈ps→p.1.length + 3 + dQ p.2≤iH ps
 | w :: vs,v,h=>by
   rw[show iH (w :: vs)=(w.1.length + 3 + dQ w.2) + iH vs by simp[iH]]
   rcases List.mem_cons.1 h with rfl | h
   ·omega
   ·have:=Cb h; omega
theorem LJ:∀ vs:List jG,vs.length≤iH vs
 | []=>by simp
 | w :: vs=>by
   rw[show iH (w :: vs)=(w.1.length + 3 + dQ w.2) + iH vs by simp[iH]]
   have:=LJ vs; simp; omega
theorem PH (v:Str) : (q4 v).length≤v.length + 2:=by unfold q4; split <;> simp
theorem GG:∀ vs:List Str,(yS vs).length≤dQ vs
 | []=>by simp[yS]
 | v :: vs=>by
   rw[show dQ (v :: vs)=(v.length + 3) + dQ vs by simp[dQ],show yS (v :: vs)=(44 :: q4 v)++yS vs from rfl]
   have:=GG vs; have:=PH v
   simp; omega
theorem O6 (vs:List Str) : (BZ vs).length≤dQ vs:=by
 cases vs with
 | nil=>simp[BZ]
 | cons v vs =>
   rw[show dQ (v :: vs)=(v.length + 3) + dQ vs by simp[dQ],show BZ (v :: vs)=q4 v++yS vs from rfl]
   have:=GG vs; have:=PH v
   simp; omega
theorem Hu:∀ ps:List jG,(BI ps).length≤iH ps
 | []=>by simp[BI]
 | p :: ps=>by
   rw[show iH (p :: ps)=(p.1.length + 3 + dQ p.2) + iH ps by simp[iH],show BI (p :: ps)=C8 p++BI ps from rfl]
   have h1:=Hu ps; have h2:=O6 p.2
   unfold C8
   simp only[List.length_append,List.length_cons,List.length_nil]; omega
theorem GV:∀ vs:List Str,(tailV vs).length≤dQ vs
 | []=>by simp[tailV]
 | v :: vs=>by
   rw[show dQ (v :: vs)=(v.length + 3) + dQ vs by simp[dQ],show tailV (v :: vs)=(44 :: qv v)++tailV vs from rfl]
   have:=GV vs; have:=OM v
   simp; omega
theorem MV (vs:List Str) : (oq vs).length≤dQ vs:=by
 cases vs with
 | nil=>simp[oq]
 | cons v vs =>
   rw[show dQ (v :: vs)=(v.length + 3) + dQ vs by simp[dQ],show oq (v :: vs)=qv v++tailV vs from rfl]
   have:=GV vs; have:=OM v
   simp; omega
theorem GK:∀ ps:List jG,(ps.flatMap uY).length≤iH ps
 | []=>by simp
 | p :: ps=>by
   rw[show iH (p :: ps)=(p.1.length + 3 + dQ p.2) + iH ps by simp[iH],List.flatMap_cons]
   have h1:=GK ps; have h2:=MV p.2
   rw[show uY p=[59]++p.1.map pV++[61]++oq p.2 from rfl]
   simp only[List.length_append,List.length_cons,List.length_nil,List.length_map]; omega
structure qc (N:Nat) (L:Ln) : Prop where
 g:L.g.length≤N
 n:L.n.length≤N
 v:L.v.length≤N
 ps:iH L.ps≤N
theorem qc.mono {N K:Nat} {L:Ln} (h:qc N L) (hk:N≤K) : qc K L:=⟨by have:=h.g; omega,by have:=h.n; omega,by have:=h.v; omega,by have:=h.ps; omega⟩
theorem qc.lb {N:Nat} {L:Ln} (h:qc N L) : LB N L where
 g:=h.g
 n:=h.n
 v:=h.v
 ps:=Nat.le_trans (LJ _) h.ps
 pn p hp:=by have:=Cb hp; have:=h.ps; omega
 pl p hp:=by have:=Cb hp; have:=h.ps; have:=LP p.2; omega
 pv p hp v hv:=by have:=Cb hp; have:=h.ps; have:=LA hv; omega
theorem qc.UD {N:Nat} {L:Ln} (h:qc N L) : (fQ L).length≤3 * N + 1:=by
 have:=Hu L.ps
 have h1:=h.g; have h2:=h.n; have h3:=h.ps
 unfold fQ nk
 split <;> simp <;> omega
theorem qc.laid {N:Nat} {L:Ln} (h:qc N L) : (jo L).length≤4 * N + 2:=by
 have:=GK L.ps
 have h1:=h.g; have h2:=h.n; have h3:=h.ps; have h4:=h.v
 unfold jo xU nk
 split <;> simp only[List.length_append,List.length_cons,List.length_nil,List.length_map] at * <;> omega
theorem RH (v:Str) : v.length≤(qv v).length:=by unfold qv; split <;> simp <;> omega
theorem Jk:∀ vs:List Str,dQ vs≤3 * (tailV vs).length
 | []=>by simp[dQ]
 | v :: vs=>by
   rw[show dQ (v :: vs)=(v.length + 3) + dQ vs by simp[dQ],show tailV (v :: vs)=(44 :: qv v)++tailV vs from rfl]
   have:=Jk vs; have:=RH v
   simp; omega
theorem Q9 (vs:List Str) : dQ vs≤3 * (oq vs).length + 3:=by
 cases vs with
 | nil=>simp[dQ]
 | cons v vs =>
   rw[show dQ (v :: vs)=(v.length + 3) + dQ vs by simp[dQ],show oq (v :: vs)=qv v++tailV vs from rfl]
   have:=Jk vs; have:=RH v
   simp; omega
theorem J9:∀ ps:List jG,iH ps≤3 * (ps.flatMap uY).length
 | []=>by simp[iH]
 | p :: ps=>by
   rw[show iH (p :: ps)=(p.1.length + 3 + dQ p.2) + iH ps by simp[iH],List.flatMap_cons]
   have h1:=J9 ps; have h2:=Q9 p.2
   rw[show uY p=[59]++p.1.map pV++[61]++oq p.2 from rfl]
   simp only[List.length_append,List.length_cons,List.length_nil,List.length_map]; omega
theorem Me {N:Nat} {L:Ln} (h:(jo L).length≤N) : qc (3 * N) L:=by
 have h1:=J9 L.ps
 have h2:L.g.length≤(nk L).length:=by unfold nk; split <;> simp[*]
 unfold jo xU at h
 simp only[List.length_append,List.length_map,List.length_cons,List.length_nil] at h
 exact⟨by omega,by omega,by omega,by omega⟩
theorem Cr {L:Ln} (h:(jm mh L).2=0) : Bv mh L=true∧(jo L).length≤912∧(jm mh L).1=fo 0 (jo L)++[13,10]:=by
 unfold jm at h ⊢
 split at h
 ·rename_i hg
  rw[if_pos hg]
  split at h
  ·cases h
  ·rename_i hl; rw[if_neg hl]; exact⟨hg,by omega,rfl⟩
 ·cases h
def mg (p:Fd) : AV:=.agg [St p.1,St p.2]
theorem xZ {M:RM} {cs:List AV} {L:Ln} {k:Int} {S:Nat→Prop} (h:gP.rel M cs (L,k) S) : ∃ v,cs=[St L.g,St L.n,v,St L.v,N .i64 k]∧bD iB M v L.ps S∧cs.all oneCell=true∧cs.length=5:=by
 obtain⟨v,rfl,h⟩:=h
 exact⟨v,rfl,h,by simp[eT,h.one],rfl⟩
theorem jB {M:RM} {v:AV} {L:Ln} {k:Int} {S:Nat→Prop} (h:bD iB M v L.ps S) : gP.rel M [St L.g,St L.n,v,St L.v,N .i64 k] (L,k) S:=⟨v,rfl,h⟩
theorem LG (x:Str) : (lH++[46]++x).length=4 + x.length:=by simp; omega
def Ez (B:Base) (c:aj) : Prop:=∀ {M:RM} {cs:List AV} {L:Ln} {k:Int} {S:Nat→Prop} {Q:ai},M.base=B→gP.rel M cs (L,k) S→LB 1000000 L→(fQ L).length≤140737488355328→(∀ M',ae [] M M'→Q (mg (bA L)) M')→c [.agg cs] M Q
theorem JZ {L:Ln} (h:LB 1000000 L) : LB 1000000000 L:=h.mono (by omega)
theorem PY {B:Base} {TL TP:Nat} {cn ct cu ce:aj} (hn:JB B cn) (ht:Ic ct) (hu:JR (N .i64 14) (N .i64 0) cu) (he:NJ ce) : Ez B fun args M Q=>∃ a0,args=[a0]∧rY TL TP cn ct cu ce a0 M Q:=by
 intro M cs L k S Q hBM hrel hB hPl hQ
 obtain⟨v,rfl,hps,hall,_⟩:=xZ hrel
 refine⟨_,rfl, ?_⟩
 unfold rY
 rw[ic hall (by simp),aF]
 have k1:ae [] M (M.push (.row [St L.g,St L.n,v,St L.v,N .i64 k] false TL 0)):=(ae.refl _ _).push _
 have h1:(M.push (.row [St L.g,St L.n,v,St L.v,N .i64 k] false TL 0)).heap M.next=some (.row [St L.g,St L.n,v,St L.v,N .i64 k] false TL 0):=RM.aQ _
 have n1:(M.push (.row [St L.g,St L.n,v,St L.v,N .i64 k] false TL 0)).next=M.next + 1:=bF _
 generalize M.push (.row [St L.g,St L.n,v,St L.v,N .i64 k] false TL 0)=M1 at *
 rw[aF]
 have k2:ae [] M1 (M1.push (.row [St [],St []] false TP 0)):=(ae.refl _ _).push _
 have h2:(M1.push (.row [St [],St []] false TP 0)).heap M1.next=some (.row [St [],St []] false TP 0):=RM.aQ _
 have n2:(M1.push (.row [St [],St []] false TP 0)).next=M1.next + 1:=bF _
 generalize M1.push (.row [St [],St []] false TP 0)=M2 at *
 have h12:=k2.ax h1 (by omega) (by simp)
 rw[aM (n:=5) h12 rfl,aX,az h12 rfl,LU]
 have k3:ae [] M2 (M2.push (.row [St [],St []] false TP 0)):=(ae.refl _ _).push _
 have h3:(M2.push (.row [St [],St []] false TP 0)).heap M2.next=some (.row [St [],St []] false TP 0):=RM.aQ _
 have n3:(M2.push (.row [St [],St []] false TP 0)).next=M2.next + 1:=bF _
 generalize M2.push (.row [St [],St []] false TP 0)=M3 at *
 have k03:=(k1.trans k2).trans k3
 refine hn (k03.base.trans hBM) (jB (hps.keep k03 (by simp))) (JZ hB) hPl fun M4 k4=>?_
 have h14:=(k3.trans k4).ax h12 (by omega) (by simp)
 have h24:=(k3.trans k4).ax h2 (by omega) (by simp)
 have h34:=k4.ax h3 (by omega) (by simp)
 have n4:=k4.next
 rw[az h14 rfl]
 refine⟨rfl,⟨h34,rfl⟩, ?_⟩
 rw[iG]
 refine⟨[St (fQ L),St L.v],by simp[kZ,known,AV.cells,oneCell], ?_⟩
 have k04:=k03.trans k4
 rw[bJ (n:=2) (x:=.agg [St (fQ L),St L.v]) (l:=[St [],St []]) h34 rfl rfl rfl]
 have k5:ae [] M (M4.put M2.next (.row (AV.agg [St (fQ L),St L.v]).cells false TP 0)):=k04.put _ (.inl (by omega))
 have h15:(M4.put M2.next (.row (AV.agg [St (fQ L),St L.v]).cells false TP 0)).heap M.next=_:=df h14 (by omega)
 have h25:(M4.put M2.next (.row (AV.agg [St (fQ L),St L.v]).cells false TP 0)).heap M1.next=_:=df h24 (by omega)
 have h35:(M4.put M2.next (.row (AV.agg [St (fQ L),St L.v]).cells false TP 0)).heap M2.next=some (.row [St (fQ L),St L.v] false TP 0):=ay _
 have n5:(M4.put M2.next (.row (AV.agg [St (fQ L),St L.v]).cells false TP 0)).next=M4.next:=rfl
 generalize M4.put M2.next (.row (AV.agg [St (fQ L),St L.v]).cells false TP 0)=M5 at *
 rw[aX,az h15 rfl]
 refine ht ?_
 rw[bQ]
 have fin:∀ {M6:RM} {p:Fd} {Q' : AV→RM→Prop},ae [] M M6→M6.heap M1.next=some (.row [St [],St []] false TP 0)→M6.heap M2.next=some (.row [St p.1,St p.2] false TP 0)→(∀ M',ae [] M M'→Q' (mg p) M') →
   aI M6 (.ptr M2.next 0) 2 fun t15=>aA M6 (.ptr M1.next 0) t15 2 fun M_5=>aI M_5 (.ptr M1.next 0) 2 fun res=>Q' res M_5:=by
  intro M6 p Q' k6 g1 g2 hQ'
  rw[aM (n:=2) g2 rfl,bJ (n:=2) (x:=.agg [St p.1,St p.2]) (l:=[St [],St []]) g1 rfl rfl rfl,aM (n:=2) (ay _) rfl]
  exact hQ' _ (k6.put _ (.inl (by omega)))
 unfold bA at hQ
 refine bi (fun h=>?_) (fun h=>?_)
 ·have h:yT L.n=false:=by simpa using h
  rw[h] at hQ
  exact fin (p:=(fQ L,L.v)) k5 h25 h35 hQ
 ·have h:yT L.n=true:=by simpa using h
  rw[if_pos h] at hQ
  rw[aX,az h15 rfl]
  refine hu hB.v fun M6 k6=>?_
  have k06:=k5.trans k6
  have h16:=k6.ax h15 (by omega) (by simp)
  have h26:=k6.ax h25 (by omega) (by simp)
  have h36:=k6.ax h35 (by omega) (by simp)
  have n6:=k6.next
  unfold sj
  cases hx:eG L.v with
  | none =>
    rw[hx] at hQ
    dsimp only at hQ ⊢
    rw[bG,bI,bR,show((14:Int) == 0)=false from rfl]
    simp only[nJ,uK,Ke,iV,dU]
    rw[aX,az h36 rfl,bM]
    refine⟨by simp; omega, ?_⟩
    rw[aX,bK (l':=[St (lH++[46]++fQ L),St L.v]) h36 (by simp) rfl rfl rfl]
    exact fin (p:=(lH++[46]++fQ L,L.v)) (k06.put _ (.inl (by omega))) (df h26 (by omega)) (ay _) hQ
  | some x =>
    rw[hx] at hQ
    dsimp only at hQ ⊢
    have hxl:=qm _ L.v x (Nat.le_refl _) hx
    have hvl:=hB.v
    rw[bG,bI,bR,show((0:Int) == 0)=true from rfl]
    simp only[lT,qh,OE,gI]
    rw[aX,az h16 rfl]
    refine he (by omega) fun M7 k7=>?_
    have k07:=k06.trans k7
    have h17:=k7.ax h16 (by omega) (by simp)
    have h27:=k7.ax h26 (by omega) (by simp)
    have h37:=k7.ax h36 (by omega) (by simp)
    have n7:=k7.next
    rw[az h17 rfl]
    refine⟨rfl, ?_⟩
    rw[fB]
    refine bi (fun h=>?_) (fun h=>?_)
    ·have h:esc x=L.v:=by simpa using h
     rw[if_pos h] at hQ
     rw[aX,bK (l':=[St (fQ L),St x]) h37 (by simp) rfl rfl rfl]
     exact fin (p:=(fQ L,x)) (k07.put _ (.inl (by omega))) (df h27 (by omega)) (ay _) hQ
    ·have h:¬ esc x=L.v:=by simpa using h
     rw[if_neg h] at hQ
     rw[aX,az h37 rfl,bM]
     refine⟨by simp; omega, ?_⟩
     rw[aX,bK (l':=[St (lH++[46]++fQ L),St L.v]) h37 (by simp) rfl rfl rfl]
     exact fin (p:=(lH++[46]++fQ L,L.v)) (k07.put _ (.inl (by omega))) (df h27 (by omega)) (ay _) hQ
theorem JJ {L:Ln} (h:LB 1000000 L) : (bA L).1.length≤4 + (fQ L).length∧(bA L).2.length≤1000000:=by
 have hv:=h.v
 unfold bA
 split
 ·split
  ·rename_i x hx
   have:=qm _ L.v x (Nat.le_refl _) hx
   split
   ·exact⟨by dsimp only; omega,by dsimp only; omega⟩
   ·exact⟨by dsimp only; rw[LG]; omega,hv⟩
  ·exact⟨by dsimp only; rw[LG]; omega,hv⟩
 ·exact⟨by dsimp only; omega,hv⟩
def Ec (B:Base) (c:aj) : Prop:=∀ {M:RM} {cs:List AV} {L:Ln} {k j:Int} {S:Nat→Prop} {Q:ai},M.base=B→gP.rel M cs (L,k) S→LB 1000000000 L→(jo L).length≤140737488355328→(∀ M',ae [] M M'→Q (.tup [mg (iP L j).1,Bo (iP L j).2]) M')→c [.agg cs,N .i64 j] M Q
theorem Nv {B:Base} {TL TP:Nat} {cp cr ca cn:aj} (hp:DW B (jm mh) cp) (hr:Iz cr) (ha:Ez B ca) (hn:ME B cn) : Ec B fun args M Q=>∃ a0 a1,args=[a0,a1]∧qL TL TP cp cr ca cn a0 a1 M Q:=by
 intro M cs L k j S Q hBM hrel hB9 hLl hQ
 obtain⟨v,rfl,hps,hall,_⟩:=xZ hrel
 refine⟨_,_,rfl, ?_⟩
 unfold qL
 simp only[dH]
 rw[ic hall (by simp),aF]
 have k1:ae [] M (M.push (.row [St L.g,St L.n,v,St L.v,N .i64 k] false TL 0)):=(ae.refl _ _).push _
 have h1:(M.push (.row [St L.g,St L.n,v,St L.v,N .i64 k] false TL 0)).heap M.next=some (.row [St L.g,St L.n,v,St L.v,N .i64 k] false TL 0):=RM.aQ _
 have n1:(M.push (.row [St L.g,St L.n,v,St L.v,N .i64 k] false TL 0)).next=M.next + 1:=bF _
 generalize M.push (.row [St L.g,St L.n,v,St L.v,N .i64 k] false TL 0)=M1 at *
 rw[aF]
 have k2:ae [] M1 (M1.push (.row [St [],St []] false TP 0)):=(ae.refl _ _).push _
 have h2:(M1.push (.row [St [],St []] false TP 0)).heap M1.next=some (.row [St [],St []] false TP 0):=RM.aQ _
 have n2:(M1.push (.row [St [],St []] false TP 0)).next=M1.next + 1:=bF _
 generalize M1.push (.row [St [],St []] false TP 0)=M2 at *
 have h12:=k2.ax h1 (by omega) (by simp)
 have k02:=k1.trans k2
 rw[aM (n:=5) h12 rfl]
 refine hp (k02.base.trans hBM) (jB (hps.keep k02 (by simp))) hB9 hLl fun M3 k3=>?_
 have h13:=k3.ax h12 (by omega) (by simp)
 have h23:=k3.ax h2 (by omega) (by simp)
 have n3:=k3.next
 have k03:=k02.trans k3
 rw[bG,bI,fP]
 have hno:∀ {c:Bool},(iP L j=(([],[]),false))→c=true→∀ {M6:RM},ae [] M M6→M6.heap M1.next=some (.row [St [],St []] false TP 0) →
   dB [(St []),(St [])] [] fun t30=>aA M6 (.ptr M1.next 0) t30 2 fun U6=>aI U6 (.ptr M1.next 0) 2 fun res=>Q (.tup [res,(Bo false)]) U6:=by
  intro c hf _ M6 k6 g1
  rw[iG]
  refine⟨[St [],St []],rfl, ?_⟩
  rw[bJ (n:=2) (x:=.agg [St [],St []]) (l:=[St [],St []]) g1 rfl rfl rfl,aM (n:=2) (ay _) rfl]
  rw[hf] at hQ
  exact hQ _ (k6.put _ (.inl (by omega)))
 refine qN (p:=L.g == lH) (fun hc kk hk=>?_) ?_
 ·rw[aX,az h13 rfl,fB]; exact hk
 refine qN (p:=FE L.n) (fun hc kk hk=>?_) ?_
 ·rw[aX,az h13 rfl]; exact hr hk
 refine qN (p:=decide (j<0)) (fun hc kk hk=>?_) ?_
 ·rw[lM]; exact hk
 refine bi (fun h=>?_) (fun h=>?_)
 ·refine hno (c:=true) ?_ rfl k03 h23
  unfold iP
  rw[if_neg]
  rintro⟨a1,a2,a3,a4⟩
  have e1:((jm mh L).2 != 0)=false:=by simp[a1]
  have e2:(L.g == lH)=false:=by simpa using a2
  have e4:decide (j<0)=false:=decide_eq_false (by omega)
  rw[e1,e2,a3,e4] at h
  cases h
 ·simp only[Bool.or_eq_false_iff] at h
  obtain⟨⟨⟨a1,a2⟩,a3⟩,a4⟩:=h
  have e1:(jm mh L).2=0:=by simpa using a1
  have e2:L.g≠lH:=by simpa using a2
  have hsz:=Me (Cr e1).2.1
  have hB:LB 1000000 L:=(hsz.mono (by omega)).lb
  have hPl:=hsz.UD
  have e4:0≤j:=by have:=of_decide_eq_false a4; omega
  have ef:iP L j=((kG (bA L).1 j,(bA L).2),true):=by unfold iP; rw[if_pos ⟨e1,e2,a3,e4⟩]
  rw[ef] at hQ
  rw[aM (n:=5) h13 rfl]
  refine ha (k03.base.trans hBM) (jB (hps.keep k03 (by simp))) hB (by omega) fun M4 k4=>?_
  have h24:=k4.ax h23 (by omega) (by simp)
  have n4:=k4.next
  have k04:=k03.trans k4
  unfold mg
  rw[aF,bJ (n:=2) (x:=.agg [St (bA L).1,St (bA L).2]) (l:=[St [],St []]) (RM.aQ _) rfl rfl rfl]
  have k5:ae [] M4 ((M4.push (.row [St [],St []] false TP 0)).put M4.next (.row (AV.agg [St (bA L).1,St (bA L).2]).cells false TP 0)):=((ae.refl _ _).push _).new _ (Nat.le_refl _)
  have h5:((M4.push (.row [St [],St []] false TP 0)).put M4.next (.row (AV.agg [St (bA L).1,St (bA L).2]).cells false TP 0)).heap M4.next=some (.row [St (bA L).1,St (bA L).2] false TP 0):=ay _
  have n5:((M4.push (.row [St [],St []] false TP 0)).put M4.next (.row (AV.agg [St (bA L).1,St (bA L).2]).cells false TP 0)).next=M4.next + 1:=rfl
  generalize (M4.push (.row [St [],St []] false TP 0)).put M4.next (.row (AV.agg [St (bA L).1,St (bA L).2]).cells false TP 0)=M5 at *
  have h25:=k5.ax h24 (by omega) (by simp)
  rw[aX,az h5 rfl]
  have hpl:=JJ hB
  refine hn ((k04.trans k5).base.trans hBM) (by omega) fun M6 k6=>?_
  have h26:=k6.ax h25 (by omega) (by simp)
  have h56:=k6.ax h5 (by omega) (by simp)
  have n6:=k6.next
  have k06:=(k04.trans k5).trans k6
  rw[aX,bK (l':=[St (kG (bA L).1 j),St (bA L).2]) h56 (by simp) rfl rfl rfl,aM (n:=2) (ay _) rfl,
   bJ (n:=2) (x:=.agg [St (kG (bA L).1 j),St (bA L).2]) (l:=[St [],St []]) (df h26 (by omega)) rfl rfl rfl,aM (n:=2) (ay _) rfl]
  exact hQ _ ((k06.put _ (.inl (by omega))).put _ (.inl (by omega)))
def Gh (B:Base) (c:aj) : Prop:=∀ {M:RM} {s:Str} {Q:ai},M.base=B→s.length≤1000000000→(∀ M' b,ae [] M M'→(b && decide (s.length=5))=decide (s.map dF=bV)→Q (Bo b) M')→c [St s,St bV] M Q
def Jv (B:Base) (c:aj) : Prop:=∀ {M:RM} {cs:List AV} {L:Ln} {k:Int} {S:Nat→Prop} {n:Str} {Q:ai},M.base=B→gP.rel M cs (L,k) S→LB 1000000000 L→(∀ M',ae [] M M'→Q (Bo (fE L n)) M')→c [.agg cs,St n] M Q
theorem Nc {B:Base} {TL:Nat} {ce:aj} (he:Gh B ce) : Jv B fun args M Q=>∃ a0 a1,args=[a0,a1]∧nZ TL ce a0 a1 M Q:=by
 intro M cs L k S n Q hBM hrel hB hQ
 obtain⟨v,rfl,hps,hall,_⟩:=xZ hrel
 refine⟨_,_,rfl, ?_⟩
 unfold nZ
 simp only[dH]
 rw[ic hall (by simp),aF]
 have k1:ae [] M (M.push (.row [St L.g,St L.n,v,St L.v,N .i64 k] false TL 0)):=(ae.refl _ _).push _
 have h1:(M.push (.row [St L.g,St L.n,v,St L.v,N .i64 k] false TL 0)).heap M.next=some (.row [St L.g,St L.n,v,St L.v,N .i64 k] false TL 0):=RM.aQ _
 have n1:(M.push (.row [St L.g,St L.n,v,St L.v,N .i64 k] false TL 0)).next=M.next + 1:=bF _
 generalize M.push (.row [St L.g,St L.n,v,St L.v,N .i64 k] false TL 0)=M1 at *
 rw[aX,az h1 rfl,ni]
 refine qN (p:=L.g != []) (fun hc kk hk=>?_) ?_
 ·rw[aX,az h1 rfl,ni]; exact hk
 refine qN (p:=decide (L.ps.length > 0)) (fun hc kk hk=>?_) ?_
 ·rw[aX,az h1 rfl,(hps.keep k1 (by simp)).len,show(N .i64 (0:Int))=N .i64 ((0:Nat) : Int) from rfl,Gp]; exact hk
 refine bi (fun h=>?_) (fun h=>?_)
 ·have:fE L n=false:=by
   unfold fE
   simp only[Bool.or_eq_true] at h
   rcases h with(h | h) | h
   ·have:¬ L.n=n:=by simpa using h
    rw[decide_eq_false this]; simp
   ·have:¬ L.g=[]:=by simpa using h
    rw[decide_eq_false this]; simp
   ·have:=of_decide_eq_true h
    rw[decide_eq_false (show ¬ L.ps.length=0 by omega)]; simp
  rw[this] at hQ
  exact hQ _ k1
 ·simp only[Bool.or_eq_false_iff] at h
  obtain⟨⟨a1,a2⟩,a3⟩:=h
  have e1:L.n=n:=by simpa using a1
  have e2:L.g=[]:=by simpa using a2
  have e3:L.ps.length=0:=by have:=of_decide_eq_false a3; omega
  have:fE L n=(if n=ig then decide (L.v=Sw) else decide (L.v.map dF=bV)):=by
   unfold fE
   rw[decide_eq_true e1,decide_eq_true e2,decide_eq_true e3]; rfl
  rw[this] at hQ
  rw[fB]
  refine bi (fun h=>?_) (fun h=>?_)
  ·have h:n=ig:=by simpa using h
   rw[if_pos h] at hQ
   rw[aX,az h1 rfl,fB]
   have:(L.v == [52,46,48])=decide (L.v=Sw):=by by_cases h:L.v=Sw <;> simp[h]
   rw[this]
   exact hQ _ k1
  ·have h:¬ n=ig:=by simpa using h
   rw[if_neg h] at hQ
   rw[aX,az h1 rfl]
   refine he (k1.base.trans hBM) hB.v fun M2 b k2 hb=>?_
   have h12:=k2.ax h1 (by omega) (by simp)
   refine jH (p:=decide (L.v.length=5)) (fun hc kk hk=>?_) ?_
   ·rw[aX,az h12 rfl,bC,bR]
    have:((L.v.length:Int) == 5)=decide (L.v.length=5):=by by_cases h:L.v.length=5 <;> simp[h]; omega
    rw[this]; exact hk
   rw[hb]
   exact hQ _ (k1.trans k2)
theorem zF {α:Type} (p:α→Bool) (s:List α) : s.length - (s.dropWhile p).length=(s.takeWhile p).length:=by
 have:=congrArg List.length (List.takeWhile_append_dropWhile (p:=p) (l:=s))
 rw[List.length_append] at this; omega
def JE (B:Base) (c:aj) : Prop:=∀ {M:RM} {s:Str} {Q:ai},M.base=B→s.length≤1000000000→(∀ M',ae [] M M'→Q (.tup [St (dP s).1,St (dP s).2]) M')→c [St s] M Q
theorem Oo {B:Base} {ct:aj} (ht:Ka B ct) : JE B fun args M Q=>∃ a0,args=[a0]∧rZ ct a0 M Q:=by
 intro M s Q hBM hl hQ
 refine⟨_,rfl, ?_⟩
 unfold rZ
 rw[bC]
 refine ht hBM hl fun M1 k1=>?_
 have hd:=qz (iw.contains ·) s
 rw[bC,UQ hd (by omega),zF]
 have ht:=uC (iw.contains ·) s
 have hle:(s.takeWhile (iw.contains ·)).length≤s.length:=by rw[← zF]; omega
 rw[gm hle,dG,bB hle,dG,ht.1,ht.2]
 exact hQ M1 k1
def Od (B:Base) (c:aj) : Prop:=∀ {M:RM} {s:Str} {Q:ai},M.base=B→s.length≤1000000000→(∀ M',ae [] M M'→Q (.tup [St (qI s).1,St (qI s).2.1,Bo (qI s).2.2]) M')→c [St s] M Q
theorem PZ {B:Base} {cp cc ci:aj} (hp:jq cp) (hc:xE 34 cc) (hi:lL lu B ci) : Od B fun args M Q=>∃ a0,args=[a0]∧qB cp cc ci a0 M Q:=by
 intro M s Q hBM hl hQ
 refine⟨_,rfl, ?_⟩
 unfold qB
 simp only[dI]
 refine hp hl ?_
 unfold Bi
 unfold qI at hQ
 cases hh:bH 34 s with
 | true =>
   rw[if_pos rfl,bG,bI,eQ]
   rw[if_pos hh] at hQ
   refine hc (by simp; omega) ?_
   unfold ED
   cases hb:brk 34 (s.drop 1) with
   | none =>
     rw[hb] at hQ
     dsimp only at hQ ⊢
     rw[bG,bI,iq]
     exact hQ _ (ae.refl _ _)
   | some x =>
     rw[hb] at hQ
     dsimp only at hQ ⊢
     rw[bG,bI,iq]
     exact hQ _ (ae.refl _ _)
 | false =>
   rw[if_neg (by simp),bG,bI,dU]
   rw[if_neg (by rw[hh]; simp)] at hQ
   refine hi hBM hl fun M1 k1=>?_
   have hlt:=vE s lu
   have hge : -1≤Lib.indexAny s lu:=by
    rcases Gv s with⟨e,_⟩ | ⟨a,c,b,_,e,_⟩ <;> omega
   refine bN (fun ys M'=>M'=M1∧ys=[N .i64 (if Lib.indexAny s lu<0 then(s.length:Int) else Lib.indexAny s lu)]) ?_ ?_
   ·rintro _ _ ⟨rfl,rfl⟩
    dsimp only[ag]
    by_cases h:Lib.indexAny s lu<0
    ·rw[if_pos h,gm (Nat.le_refl _),dG,bB (Nat.le_refl _),dG,List.take_length,List.drop_length]
     rw[if_pos h] at hQ
     exact hQ _ k1
    ·rw[if_neg h] at hQ ⊢
     obtain⟨i,hi⟩ : ∃ i:Nat,Lib.indexAny s lu=(i:Int):=⟨(Lib.indexAny s lu).toNat,by omega⟩
     rw[hi] at hQ hlt ⊢
     have hil:i≤s.length:=by omega
     rw[gm hil,dG,bB hil,dG]
     rw[Int.toNat_natCast] at hQ
     exact hQ _ k1
   intro J hJ
   rw[lM]
   refine bi (fun h=>?_) (fun h=>?_)
   ·have h:=of_decide_eq_true h
    rw[if_pos h] at hJ
    rw[bC]; exact hJ _ _ ⟨rfl,rfl⟩
   ·have h:=of_decide_eq_false h
    rw[if_neg h] at hJ
    exact hJ _ _ ⟨rfl,rfl⟩
theorem rQ (s:Str) : (dP s).1.length + (dP s).2.length=s.length:=by
 have:=congrArg List.length (List.takeWhile_append_dropWhile (p:=(iw.contains ·)) (l:=s))
 rw[List.length_append] at this; exact this
theorem LX {x:UInt8} {s a b:Str} (h:brk x s=some (a,b)) : a.length + b.length + 1=s.length:=by
 rcases vN x s with⟨h1,_⟩ | ⟨a',b',h1,_,h3,_⟩
 ·rw[h1] at h; cases h
 ·rw[h1] at h; cases h
  have:=congrArg List.length h3; simp at this; omega
theorem xW (s:Str) : (qI s).1.length + (qI s).2.1.length≤s.length:=by
 unfold qI
 cases hh:bH 34 s with
 | true =>
   have:=aZ hh
   rw[if_pos rfl]
   cases hb:brk 34 (s.drop 1) with
   | none=>simp
   | some x =>
     have:=LX (a:=x.1) (b:=x.2) (by rw[hb])
     simp at this ⊢; omega
 | false =>
   rw[if_neg (by simp)]
   split
   ·simp
   ·simp; omega
theorem wT:∀ (k:Nat) (s:Str) (acc vs:List Str) (r:Str),1≤s.length→il k s acc=some (vs,r)→dQ vs + 3 * r.length≤dQ acc + 3 * s.length
 | 0,_,_,_,_,_,h=>by cases h
 | k + 1,s,acc,vs,r,h1,h=>by
   rw[il] at h
   have hl:=xW (s.drop 1)
   rw[List.length_drop] at hl
   generalize qI (s.drop 1)=x at *
   obtain⟨v,q,ok⟩:=x
   cases ok with
   | false=>cases h
   | true =>
     dsimp only at h hl
     split at h
     ·rename_i hh
      have:=wT k q _ vs r (aZ hh) h
      rw[BC] at this
      omega
     ·cases h
      rw[BC]; omega
theorem vL:∀ (k:Nat) (s:Str) (acc vs:List Str) (r:Str),1≤s.length→il k s acc=some (vs,r)→r.length + 1≤s.length
 | 0,_,_,_,_,_,h=>by cases h
 | k + 1,s,acc,vs,r,h1,h=>by
   rw[il] at h
   have hl:=xW (s.drop 1)
   rw[List.length_drop] at hl
   generalize qI (s.drop 1)=x at *
   obtain⟨v,q,ok⟩:=x
   cases ok with
   | false=>cases h
   | true =>
     dsimp only at h hl
     split at h
     ·rename_i hh
      have:=vL k q _ vs r (aZ hh) h
      omega
     ·cases h
      omega
theorem vC:∀ (n:Nat) (s:Str) (acc:List Str) (k:Nat),s.length≤n→1≤s.length→s.length≤k→il k s acc=il s.length s acc
 | 0,s,acc,k,h1,h2,h3=>by omega
 | n + 1,s,acc,k,h1,h2,h3=>by
   obtain⟨i,rfl⟩ : ∃ i,k=i + 1:=⟨k - 1,by omega⟩
   obtain⟨j,hj⟩ : ∃ j,s.length=j + 1:=⟨s.length - 1,by omega⟩
   rw[hj,il,il]
   have hl:=xW (s.drop 1)
   rw[List.length_drop] at hl
   generalize qI (s.drop 1)=x at *
   obtain⟨v,q,ok⟩:=x
   cases ok with
   | false=>rfl
   | true =>
     dsimp only at hl ⊢
     split
     ·rename_i hh
      have h4:=aZ hh
      rw[vC n q _ i (by omega) h4 (by omega),vC n q _ j (by omega) h4 (by omega)]
     ·rfl
theorem DT:∀ (k:Nat) (s:Str) (acc ps:List jG) (r:Str),jN k s acc=some (ps,r)→iH ps + 3 * r.length≤iH acc + 3 * s.length
 | 0,_,_,_,_,h=>by cases h
 | k + 1,s,acc,ps,r,h=>by
   rw[jN] at h
   split at h
   ·rename_i h59
    have hp:=aZ h59
    have hw:=rQ (s.drop 1)
    rw[List.length_drop] at hw
    split at h
    ·rename_i h61
     have hq:=aZ h61
     cases hv:il (dP (s.drop 1)).2.length (dP (s.drop 1)).2 [] with
     | none=>rw[hv] at h; cases h
     | some x =>
       obtain⟨vs,q⟩:=x
       rw[hv] at h
       dsimp only at h
       have h1:=wT _ _ _ _ _ hq hv
       have h2:=DT k q _ ps r h
       rw[LF] at h2
       dsimp only at h2
       simp only[show dQ []=0 from rfl] at h1
       omega
    ·cases h
   ·cases h; omega
theorem uO:∀ (n:Nat) (s:Str) (acc:List jG) (k:Nat),s.length≤n→s.length + 1≤k→jN k s acc=jN (s.length + 1) s acc
 | n,s,acc,k,h1,h3=>by
   obtain⟨i,rfl⟩ : ∃ i,k=i + 1:=⟨k - 1,by omega⟩
   rw[jN,jN]
   split
   ·rename_i h59
    have hp:=aZ h59
    have hw:=rQ (s.drop 1)
    rw[List.length_drop] at hw
    split
    ·rename_i h61
     have hq:=aZ h61
     cases hv:il (dP (s.drop 1)).2.length (dP (s.drop 1)).2 [] with
     | none=>rfl
     | some x =>
       obtain⟨vs,q⟩:=x
       have h1:=wT _ _ _ _ _ hq hv
       have h4:q.length<s.length:=by
        have:=vL _ _ _ _ _ hq hv
        omega
       dsimp only
       cases n with
       | zero=>omega
       | succ n=>rw[uO n q _ i (by omega) (by omega),uO n q _ s.length (by omega) (by omega)]
    ·rfl
   ·rfl
def RX (B:Base) (c:aj) : Prop:=∀ {M:RM} {s:Str} {Q:ai},M.base=B→s.length≤1000000000 →
 (∀ M' e,ae [] M M'→(∀ K:AV→Prop,K (Bo (yC s).2)→EZ false e (.sc .nilIface) K)→Q (.tup [N .i64 (yC s).1,e]) M')→c [St s] M Q
theorem WU (a b:Int) {K:AV→Prop} : af .sub (N .i64 a) (N .i64 b) K=K (N .i64 (IntKind.wrap .i64 (a - b))):=lN ..
def Uq (B:Base) (c:aj) : Prop:=∀ {M:RM} {s:Str} {Q:ai},M.base=B→s.length≤10000000 →
 (∀ M' v,ae [] M M'→bD iB M' v (CE s).1.ps (fun b=>M.next≤b)→Q (.tup [.agg [St (CE s).1.g,St (CE s).1.n,v,St [],N .i64 0],N .i64 (CE s).2.1,Bo (CE s).2.2]) M')→c [St s] M Q
def hd4 (s:Str) : Str × Str × Str:=if bH 46 (dP s).2 then((dP s).1,(dP ((dP s).2.drop 1)).1,(dP ((dP s).2.drop 1)).2) else([],(dP s).1,(dP s).2)
theorem O4 (s:Str) : CE s=match jN ((hd4 s).2.2.length + 1) (hd4 s).2.2 [] with
 | none=>(LC,0,false)
 | some (ps,r)=>if r=[] then(⟨(hd4 s).1,(hd4 s).2.1,ps,[]⟩,0,true) else(⟨(hd4 s).1,(hd4 s).2.1,ps,[]⟩,mo r):=rfl
theorem Mi (s:Str) : (hd4 s).1.length + (hd4 s).2.1.length + (hd4 s).2.2.length≤s.length:=by
 have h1:=rQ s
 unfold hd4
 split
 ·rename_i h
  have:=aZ h
  have h2:=rQ ((dP s).2.drop 1)
  rw[List.length_drop] at h2
  dsimp only; omega
 ·dsimp only[List.length_nil]; simp; omega
theorem SF (s:Str) : qc (3 * s.length) { (CE s).1 with v:=[] } := by
 have h1:=Mi s
 rw[O4]
 cases hp:jN ((hd4 s).2.2.length + 1) (hd4 s).2.2 [] with
 | none=>exact⟨by simp[LC],by simp[LC],by simp,by simp[LC,iH]⟩
 | some x =>
   obtain⟨ps,r⟩:=x
   have h2:=DT _ _ _ _ _ hp
   simp only[show iH []=0 from rfl] at h2
   dsimp only
   split
   ·exact⟨by dsimp only; omega,by dsimp only; omega,by simp,by dsimp only; omega⟩
   ·exact⟨by dsimp only; omega,by dsimp only; omega,by simp,by dsimp only; omega⟩
theorem Xc {M:RM} {b T:Nat} {l:List AV} {Q:ai} (h:M.heap b=some (.row l false T 0)) (hl:l.length=5) (hQ:∀ M',ae [b] M M'→Q (.tup [.agg [St [],St [],aC,St [],N .i64 0],N .i64 0,Bo false]) M') :
  dB [(St []),(St []),(.sc (.slice none 0 0)),(St []),(N .i64 0)] [] fun t48=>aA M (.ptr b 0) t48 5 fun JV=>aI JV (.ptr b 0) 5 fun res=>Q (.tup [res,(N .i64 0),(Bo false)]) JV:=by
 rw[iG]
 refine⟨_,rfl, ?_⟩
 rw[bJ (n:=5) (x:=.agg [St [],St [],aC,St [],N .i64 0]) h rfl hl rfl,aM (n:=5) (ay _) rfl]
 exact hQ _ ((ae.refl _ _).put _ (.inr (by simp)))
theorem SY {B:Base} {TL TP TS:Nat} {cw cc ch cv ca:aj} (hw:JE B cw) (hc:jq cc) (hh:lV ch) (hv:Od B cv) (ha:RX B ca) :
  Uq B fun args M Q=>∃ a0,args=[a0]∧nQ TL cw cc ch TP cv TS ca a0 M Q:=by
 intro M s Q hM hl hQ
 refine⟨_,rfl, ?_⟩
 unfold nQ
 simp only[dH,Rz,dI]
 rw[aF]
 have k1:ae [] M (M.push (.row [St [],St [],aC,St [],N .i64 0] false TL 0)):=(ae.refl _ _).push _
 have h1:(M.push (.row [St [],St [],aC,St [],N .i64 0] false TL 0)).heap M.next=some (.row [St [],St [],aC,St [],N .i64 0] false TL 0):=RM.aQ _
 have n1:(M.push (.row [St [],St [],aC,St [],N .i64 0] false TL 0)).next=M.next + 1:=bF _
 generalize M.push (.row [St [],St [],aC,St [],N .i64 0] false TL 0)=M1 at *
 have hw1:=rQ s
 refine hw (k1.base.trans hM) (by omega) fun M2 k2=>?_
 have h2:=k2.ax h1 (by omega) (by simp)
 have n2:=k2.next
 have k02:=k1.trans k2
 rw[bG,bI,aX,bK (l':=[St [],St (dP s).1,aC,St [],N .i64 0]) h2 (by simp) rfl rfl rfl]
 have k3:ae [] M (M2.put M.next (.row [St [],St (dP s).1,aC,St [],N .i64 0] false TL 0)):=k02.put _ (.inl (by omega))
 have h3:(M2.put M.next (.row [St [],St (dP s).1,aC,St [],N .i64 0] false TL 0)).heap M.next=some (.row [St [],St (dP s).1,aC,St [],N .i64 0] false TL 0):=ay _
 have n3:(M2.put M.next (.row [St [],St (dP s).1,aC,St [],N .i64 0] false TL 0)).next=M2.next:=rfl
 generalize M2.put M.next (.row [St [],St (dP s).1,aC,St [],N .i64 0] false TL 0)=M3 at *
 have hdl:=Mi s
 refine bN (fun ys M'=>ys=[St (hd4 s).2.2]∧ae [] M M'∧M.next + 1≤M'.next∧M'.heap M.next=some (.row [St (hd4 s).1,St (hd4 s).2.1,aC,St [],N .i64 0] false TL 0)) ?_ ?_
 rotate_left 1
 ·intro J hJ
  refine hc (by omega) ?_
  unfold Bi
  unfold hd4 at hJ
  cases hd:bH 46 (dP s).2 with
  | false =>
    rw[if_neg (by simp),bG,bI,dU]
    rw[if_neg (by rw[hd]; simp)] at hJ
    exact hJ _ _ ⟨rfl,k3,by omega,h3⟩
  | true =>
    rw[if_pos rfl,bG,bI,eQ]
    rw[if_pos hd] at hJ
    have hpos:=aZ hd
    rw[aX,az h3 rfl,aX,bK (l':=[St (dP s).1,St (dP s).1,aC,St [],N .i64 0]) h3 (by simp) rfl rfl rfl]
    have k4:ae [] M (M3.put M.next (.row [St (dP s).1,St (dP s).1,aC,St [],N .i64 0] false TL 0)):=k3.put _ (.inl (by omega))
    have h4:(M3.put M.next (.row [St (dP s).1,St (dP s).1,aC,St [],N .i64 0] false TL 0)).heap M.next=some (.row [St (dP s).1,St (dP s).1,aC,St [],N .i64 0] false TL 0):=ay _
    have n4:(M3.put M.next (.row [St (dP s).1,St (dP s).1,aC,St [],N .i64 0] false TL 0)).next=M3.next:=rfl
    generalize M3.put M.next (.row [St (dP s).1,St (dP s).1,aC,St [],N .i64 0] false TL 0)=M4 at *
    refine hw (k4.base.trans hM) (by simp; omega) fun M5 k5=>?_
    have h5:=k5.ax h4 (by omega) (by simp)
    have n5:=k5.next
    rw[bG,bI,aX,bK (l':=[St (dP s).1,St (dP ((dP s).2.drop 1)).1,aC,St [],N .i64 0]) h5 (by simp) rfl rfl rfl]
    exact hJ _ _ ⟨rfl,(k4.trans k5).put _ (.inl (by omega)),by rw[jA]; omega,ay _⟩
 rintro _ M4 ⟨rfl,k4,n4,h4⟩
 dsimp only[ag]
 rw[O4] at hQ
 generalize hd4 s=hd at *
 obtain⟨g,n,s0⟩:=hd
 dsimp only at hQ hdl h4 ⊢
 generalize hP:jN (s0.length + 1) s0 []=P at *
 refine aR (fun m ys M5=>∃ (t:Str) (v:AV) (acc:List jG),m=t.length∧ys=[St t]∧acc.length + t.length≤s0.length∧ae [] M M5∧M.next + 1≤M5.next∧M5.heap M.next=some (.row [St g,St n,v,St [],N .i64 0] false TL 0) ∧
   eu iB M5 (M.next + 1) TP v acc (fun b=>M.next + 1≤b∧b<M5.next∧b ∉ aD v)∧jN (t.length + 1) t acc=P) _
  ⟨s0,aC,[],rfl,rfl,by simp,k4,n4,h4,.nil,hP⟩ ?_
 rintro next m ys M5 hnext ⟨t,v,acc,rfl,rfl,hal,k5,n5,h5,ho,hp⟩
 have hM5:M5.base=B:=k5.base.trans hM
 rw[jN] at hp
 dsimp only[ag]
 refine hh (by omega) ?_
 have hvl:=ho.blk
 cases h59:bH 59 t with
 | false =>
   simp only[h59,Bool.false_eq_true,if_false] at hp
   rw[dU]
   rw[← hp] at hQ
   dsimp only at hQ
   have hsl:bD iB M5 v acc (fun b=>M.next + 1≤b):=(ho.mono (fun b h=>h.1)).Cj (fun b hb _=>hb)
   have hall:([St g,St n,v,St [],N .i64 0] : List AV).all oneCell=true:=by simp[eT,ho.one]
   have fin:∀ {M6:RM} {Q' : AV→RM→Prop},ae [] M5 M6→(∀ M',ae [] M M'→bD iB M' v acc (fun b=>M.next≤b)→Q' (.agg [St g,St n,v,St [],N .i64 0]) M') →
     aA M6 (.ptr M.next 0) (.agg [St g,St n,v,St [],N .i64 0]) 5 fun UG=>aI UG (.ptr M.next 0) 5 fun res=>Q' res UG:=by
    intro M6 Q' k6 hq
    have h6:=k6.ax h5 (by omega) (by simp)
    rw[bJ (n:=5) (x:=.agg [St g,St n,v,St [],N .i64 0]) h6 rfl rfl hall,aM (n:=5) (ay _) rfl]
    refine hq _ ((k5.trans k6).put _ (.inl (Nat.le_refl _))) ?_
    exact(((hsl.keep k6 (by simp)).keep (bs:=[M.next]) ((ae.refl _ _).put _ (.inr (by simp))) (fun b hb h=>by simp at hb; omega)).mono fun b hb=>by omega)
   rw[fB]
   refine bi (fun he=>?_) (fun he=>?_)
   ·have he:t=[]:=by simpa using he
    rw[if_pos he] at hQ
    rw[aM (n:=5) h5 rfl]
    exact fin (Q':=fun res M'=>Q (.tup [res,(N .i64 0),(Bo true)]) M') (ae.refl _ _) fun M' k' h'=>hQ M' v k' h'
   ·have he:¬ t=[]:=by simpa using he
    rw[if_neg he] at hQ
    refine hc (by omega) ?_
    have hcut:Bi 35 t=.tup [St (if bH 35 t then t.drop 1 else t),Bo (bH 35 t)]:=by
     unfold Bi
     cases bH 35 t with
     | true=>rfl
     | false=>rfl
    rw[hcut,bG,bI]
    unfold mo at hQ
    dsimp only at hQ
    generalize hd:(if bH 35 t then t.drop 1 else t)=d at *
    have hdl' : d.length≤t.length:=by
     rw[← hd]; split
     ·simp
     ·exact Nat.le_refl _
    refine ha hM5 (by omega) fun M6 e k6 hE=>?_
    rw[bG,bI,aM (n:=5) (k6.ax h5 (by omega) (by simp)) rfl,WU]
    have done:∀ r:Bool,r=(bH 35 t && (yC d).2 && decide ((yC d).1 ≥ 2)) →
      aA M6 (.ptr M.next 0) (.agg [St g,St n,v,St [],N .i64 0]) 5 fun Uc=>aI Uc (.ptr M.next 0) 5 fun Ue=>Q (.tup [Ue,N .i64 (IntKind.wrap .i64 ((yC d).1 - 1)),Bo r]) Uc:=by
     intro r hr
     refine fin (Q':=fun res M'=>Q (.tup [res,N .i64 (IntKind.wrap .i64 ((yC d).1 - 1)),Bo r]) M') k6 fun M' k' h'=>?_
     rw[hr]; exact hQ M' v k' h'
    cases hb:bH 35 t with
    | false =>
      simp only[nJ,iV]
      exact done false (by rw[hb]; rfl)
    | true =>
      simp only[lT]
      refine hE _ ?_
      rw[gI]
      cases hb2:(yC d).2 with
      | false =>
        simp only[nJ,iV]
        exact done false (by rw[hb,hb2]; rfl)
      | true =>
        simp only[lT]
        rw[eY,gI]
        exact done _ (by rw[hb,hb2]; rfl)
 | true =>
   simp only[h59,if_true] at hp
   have htl:=aZ h59
   rw[eQ,aF,show aS (St t) (some (N .i64 1)) none=some (St (t.drop 1)) from bB (l:=1) (by omega) .i64,dG]
   have h6:(M5.push (.row [St [],aC] false TP 0)).heap M5.next=some (.row [St [],aC] false TP 0):=RM.aQ _
   have k6:ae [] M5 (M5.push (.row [St [],aC] false TP 0)):=(ae.refl _ _).push _
   have n6:(M5.push (.row [St [],aC] false TP 0)).next=M5.next + 1:=rfl
   generalize M5.push (.row [St [],aC] false TP 0)=M6 at *
   refine hw (k6.base.trans hM5) (by simp; omega) fun M7 k7=>?_
   have h7:=k7.ax h6 (by omega) (by simp)
   have n7:=k7.next
   have hw4:=rQ (t.drop 1)
   rw[List.length_drop] at hw4
   generalize dP (t.drop 1)=w4 at *
   obtain⟨nm,t2⟩:=w4
   dsimp only at hp hw4 ⊢
   rw[bG,bI,aX,bK (l':=[St nm,aC]) h7 (by simp) rfl rfl rfl]
   have k8:ae [] M5 (M7.put M5.next (.row [St nm,aC] false TP 0)):=(k6.trans k7).put _ (.inl (Nat.le_refl _))
   have h8:(M7.put M5.next (.row [St nm,aC] false TP 0)).heap M5.next=some (.row [St nm,aC] false TP 0):=ay _
   have n8:(M7.put M5.next (.row [St nm,aC] false TP 0)).next=M7.next:=rfl
   generalize M7.put M5.next (.row [St nm,aC] false TP 0)=M8 at *
   refine hh (by omega) ?_
   rw[bQ]
   have Sc:P=none→∀ {M9:RM},ae [] M5 M9→dB [(St []),(St []),(.sc (.slice none 0 0)),(St []),(N .i64 0)] [] fun t48=>aA M9 (.ptr M.next 0) t48 5 fun JV=>aI JV (.ptr M.next 0) 5 fun res=>Q (.tup [res,(N .i64 0),(Bo false)]) JV:=by
    intro hn M9 k9
    rw[hn] at hQ
    refine Xc (k9.ax h5 (by omega) (by simp)) rfl fun M' k'=>?_
    exact hQ M' aC ((k5.trans k9).eU k' (fun c hc=>.inl (by simp at hc; omega))) bD.nil
   cases h61:bH 61 t2 with
   | false =>
     simp only[h61,Bool.false_eq_true,if_false] at hp
     rw[Bool.not_false,eQ]
     exact Sc hp.symm k8
   | true =>
   simp only[h61,if_true] at hp
   rw[Bool.not_true,dU]
   refine aR (fun m zs M9=>∃ (u:Str) (vs:List Str) (w:AV) (more:Bool),m=2 * u.length + (if more then 1 else 0)∧zs=[St u,Bo more]∧u.length + vs.length≤t2.length∧ae [] M5 M9∧M8.next≤M9.next ∧
     M9.heap M5.next=some (.row [St nm,w] false TP 0)∧eu iW.iY M9 M8.next TS w vs (fun _=>False) ∧
     (more=true→1≤u.length∧il u.length u vs=il t2.length t2 [])∧(more=false→il t2.length t2 []=some (vs,u))) _
    ⟨t2,[],aC,true,rfl,rfl,by simp,k8,Nat.le_refl _,h8,.nil,fun _=>⟨aZ h61,rfl⟩,fun h=>by cases h⟩ ?_
   rintro EP m zs M9 mO ⟨u,vs,w,more,rfl,rfl,hul,k9,n9,h9,how,hm1,hm2⟩
   dsimp only[ag]
   have hM9:M9.base=B:=k9.base.trans hM5
   cases more with
   | true =>
     obtain⟨hu1,hvf⟩:=hm1 rfl
     obtain⟨j,hj⟩ : ∃ j,u.length=j + 1:=⟨u.length - 1,by omega⟩
     rw[hj,il] at hvf
     rw[eQ,show aS (St u) (some (N .i64 1)) none=some (St (u.drop 1)) from bB (l:=1) (by omega) .i64,dG]
     have XW:=xW (u.drop 1)
     refine hv hM9 (by simp; omega) fun Ma ka=>?_
     generalize qI (u.drop 1)=x at *
     obtain⟨a,after,ok⟩:=x
     simp only[List.length_drop] at XW hvf
     rw[bG,bI,iq,bQ]
     dsimp only
     cases ok with
     | false =>
       rw[Bool.not_false,eQ]
       refine Sc ?_ (k9.trans ka)
       dsimp only at hvf
       rw[← hvf] at hp
       exact hp.symm
     | true =>
     dsimp only at hvf
     have ha:=ka.ax h9 (by omega) (by simp)
     rw[Bool.not_true,dU,aX,az ha rfl,iR (x:=St a) (size:=1) rfl rfl rfl,aF]
     have WK:=how.keep ka (by simp) (by simp)
     have na:=ka.next
     refine eu.app (R:=iW.iY) (a:=a) (cs:=[St a]) WK rfl (by omega) (Nat.le_refl _) (by simp) (by simp) (by omega) (by omega) ?_
     intro w' Mb ob kb nb hwb _
     have Ul:∀ b∈aD w,M8.next≤b:=fun b hb=>(how.blk b hb).1
     have hb:=kb.ax ha (by omega) (fun h=>by have:=Ul _ h; omega)
     have Ra:∀ b∈aD w',M8.next≤b:=fun b hb=>(ob.blk b hb).1
     rw[aX,bK (l':=[St nm,w']) hb (by simp) ob.cells ob.one rfl]
     refine hh (by omega) ?_
     have kc:ae [] M5 (Mb.put M5.next (.row [St nm,w'] false TP 0)):=ae.new ((k9.trans ka).eU kb fun c hc=>.inl (by have:=Ul c hc; omega)) _ (Nat.le_refl _)
     refine mO _ _ _ ?_ ⟨after,vs++[a],w',bH 44 after,rfl,rfl,by simp; omega,kc,by rw[jA]; omega,ay _, ?_, ?_, ?_⟩
     ·split <;> simp <;> omega
     ·refine ob.keep (bs:=[M5.next]) ((ae.refl _ _).put _ (.inr (by simp))) (by simp) fun b hb=>?_
      have:=Ra b hb
      simp; omega
     ·intro hmo
      rw[if_pos hmo] at hvf
      refine⟨aZ hmo, ?_⟩
      rw[← hvf,vC after.length after _ j (Nat.le_refl _) (aZ hmo) (by omega)]
     ·intro hmo
      rw[hmo] at hvf
      simp only[Bool.false_eq_true,if_false] at hvf
      exact hvf.symm
   | false =>
     have hv4:=hm2 rfl
     rw[hv4] at hp
     simp only at hp
     rw[dU,aX,az (k9.ax h5 (by omega) (by simp)) rfl,aM (n:=2) h9 rfl,iR (x:=.agg [St nm,w]) (size:=2) rfl (by show([St nm,w] : List AV).all oneCell=true; simp[eT,how.one]) rfl,aF]
     let S' : Nat→Prop:=fun b=>M.next + 1≤b∧b<M9.next∧b ∉ aD v
     have n9':=k9.next
     have ho9:eu iB M9 (M.next + 1) TP v acc S':=(ho.keep k9 (by simp) (by simp)).mono fun b h=>⟨h.1,by omega,h.2.2⟩
     have hel:iB.rel M9 [St nm,w] (nm,vs) S':=JI ((how.mono (S':=S') (fun _ h=>h.elim)).Cj (fun b h1 h2=>⟨by omega,h2,fun hb=>by have:=(hvl b hb).2; omega⟩))
     refine eu.app (R:=iB) ho9 hel (by omega) (by decide) (fun b hb h=>h.2.2 hb) (fun b h=>h.2.1) (by omega) (by omega) ?_
     intro v' Mb ob kb nb hvb hdb
     have hvs:=vL _ _ _ _ _ (aZ h61) hv4
     have hb5:=kb.ax (k9.ax h5 (by omega) (by simp)) (by omega) (fun h=>by have:=(hvl _ h).1; omega)
     have hob:=ob.blk
     rw[aX,bK (l':=[St g,St n,v',St [],N .i64 0]) hb5 (by simp) ob.cells ob.one rfl]
     refine hnext _ _ _ (by omega) ⟨u,v',acc++[(nm,vs)],rfl,rfl,by simp; omega, ?_,by rw[jA]; omega,ay _, ?_, ?_⟩
     ·exact ae.new ((k5.trans k9).eU kb fun c hc=>.inl (by have:=(hvl c hc).1; omega)) _ (Nat.le_refl _)
     ·refine(ob.keep (bs:=[M.next]) ((ae.refl _ _).put _ (.inr (by simp))) (fun b hb h=>by simp at hb; have:=h.1; omega) fun b hb=>?_).mono fun b h=>⟨h.1,by rw[jA]; omega,fun hb=>hdb b hb h⟩
      have:=(hob b hb).1
      simp; omega
     ·rw[← hp,uO u.length u _ t.length (Nat.le_refl _) (by omega)]
def zT (p s:Str) : Bool:=decide (p.length≤s.length) && (s.take p.length == p)
def Rv (c:aj) : Prop:=∀ {M:RM} {s p:Str} {Q:ai},Q (Bo (zT p s)) M→c [St s,St p] M Q
theorem HZ:Rv fun args M Q=>∃ a0 a1,args=[a0,a1]∧Vl.cO a0 a1 M Q:=by
 intro M s p Q hQ
 refine⟨_,_,rfl, ?_⟩
 unfold Go.Ab.Vl.cO
 simp only[dH,bC,eY]
 unfold zT at hQ
 by_cases h:p.length≤s.length
 ·have e:decide ((s.length:Int) ≥ (p.length:Int))=true:=by simp[h]
  rw[e]
  simp only[go_sem,if_true]
  rw[gm h]
  simpa only[go_sem,h,decide_true,Bool.true_and,if_true] using hQ
 ·have e:decide ((s.length:Int) ≥ (p.length:Int))=false:=by simp; omega
  rw[e]
  simpa [go_sem,h] using hQ
def AR (p s:Str) : AV:=if zT p s then .tup [St (s.drop p.length),Bo true] else .tup [St s,Bo false]
def rP (c:aj) : Prop:=∀ {M:RM} {s p:Str} {Q:ai},Q (AR p s) M→c [St s,St p] M Q
theorem Dz {ch:aj} (hh:Rv ch) : rP fun args M Q=>∃ a0 a1,args=[a0,a1]∧Vl.cK ch a0 a1 M Q:=by
 intro M s p Q hQ
 refine⟨_,_,rfl, ?_⟩
 unfold Go.Ab.Vl.cK
 refine hh ?_
 unfold AR at hQ
 cases h:zT p s
 ·rw[h] at hQ; simpa [go_sem] using hQ
 ·rw[h] at hQ
  have hl:p.length≤s.length:=by unfold zT at h; simp at h; exact h.1
  simp only[bQ,Bool.not_true,dU,bC]
  rw[bB hl]
  simpa [go_sem] using hQ
theorem KJ {ch:aj} (hh:rP ch) : rP fun args M Q=>∃ a0 a1,args=[a0,a1]∧Vl.gy ch a0 a1 M Q:=by
 intro M s p Q hQ
 refine⟨_,_,rfl, ?_⟩
 unfold Go.Ab.Vl.gy
 refine hh ?_
 unfold AR at hQ ⊢
 cases h:zT p s <;> rw[h] at hQ <;> simpa [go_sem] using hQ
theorem TN (s:Str) : zT fT s=decide (s.take 4=fT):=by
 unfold zT
 rw[show fT.length=4 from rfl]
 by_cases h:s.take 4=fT
 ·have:=congrArg List.length h
  simp[fT] at this
  rw[decide_eq_true h,decide_eq_true (show 4≤s.length by omega),h]; rfl
 ·rw[decide_eq_false h,Bool.and_eq_false_iff]
  right; simpa using h
theorem Tm {b:Bool} {x y:Str} {N:Nat} (hx:x.length≤N) (hy:y.length≤N) : (if b then x else y).length≤N:=by cases b <;> simpa
theorem SE {p:Fd} {N:Nat} (h1:3 * p.1.length≤N) (h2:2 * p.2.length≤N) : qc N (dM p).1:=by
 have hs:=SF (if decide (p.1.take 4=fT) then p.1.drop 4 else p.1)
 have hl:(if decide (p.1.take 4=fT) then p.1.drop 4 else p.1).length≤p.1.length:=by
  split
  ·simp
  ·exact Nat.le_refl _
 have he:=LY p.2
 unfold dM
 refine⟨?_, ?_, ?_, ?_⟩
 ·have:=hs.g; dsimp only at this ⊢; omega
 ·have:=hs.n; dsimp only at this ⊢; omega
 ·dsimp only; exact Tm (by omega) (by omega)
 ·have:=hs.ps; dsimp only at this ⊢; omega
def Ip (B:Base) (c:aj) : Prop:=∀ {M:RM} {p:Fd} {Q:ai},M.base=B→p.1.length≤10000000→p.2.length≤10000000 →
 (∀ M' cs,ae [] M M'→gP.rel M' cs ((dM p).1,0) (fun b=>M.next≤b)→Q (.tup [.agg cs,N .i64 (dM p).2.1,Bo (dM p).2.2]) M')→c [mg p] M Q
theorem D9 (p q:Fd) : bW [2,2] [St p.1,St p.2] [St q.1,St q.2]=some (decide (p=q)):=by
 rw[yN,yN,Eb]
 by_cases h1:p.1=q.1
 ·by_cases h2:p.2=q.2
  ·rw[if_pos h1,if_pos h2,decide_eq_true (Prod.ext h1 h2)]
  ·rw[if_pos h1,if_neg h2,decide_eq_false (fun e=>h2 (by rw[e]))]
 ·rw[if_neg h1,decide_eq_false (fun e=>h1 (by rw[e]))]
theorem PP {B:Base} {TP TL:Nat} {cc cu ct ce cf:aj} (hc:rP cc) (hu:Uq B cu) (ht:Ic ct) (he:NJ ce) (hf:Ec B cf) : Ip B fun args M Q=>∃ a0,args=[a0]∧sV TP TL cc cu ct ce cf a0 M Q:=by
 intro M p Q hM hp1 hp2 hQ
 refine⟨_,rfl, ?_⟩
 unfold sV mg
 simp only[dH,dI]
 rw[ic (cs:=[St p.1,St p.2]) rfl (by simp),aF]
 have k1:ae [] M (M.push (.row [St p.1,St p.2] false TP 0)):=(ae.refl _ _).push _
 have h1:(M.push (.row [St p.1,St p.2] false TP 0)).heap M.next=some (.row [St p.1,St p.2] false TP 0):=RM.aQ _
 have n1:(M.push (.row [St p.1,St p.2] false TP 0)).next=M.next + 1:=bF _
 generalize M.push (.row [St p.1,St p.2] false TP 0)=M1 at *
 rw[aF]
 have k2:ae [] M1 (M1.push (.row [St [],St [],aC,St [],N .i64 0] false TL 0)):=(ae.refl _ _).push _
 have h2:(M1.push (.row [St [],St [],aC,St [],N .i64 0] false TL 0)).heap M1.next=some (.row [St [],St [],aC,St [],N .i64 0] false TL 0):=RM.aQ _
 have n2:(M1.push (.row [St [],St [],aC,St [],N .i64 0] false TL 0)).next=M1.next + 1:=bF _
 generalize M1.push (.row [St [],St [],aC,St [],N .i64 0] false TL 0)=M2 at *
 have h12:=k2.ax h1 (by omega) (by simp)
 have k02:=k1.trans k2
 rw[aX,az h12 rfl]
 refine hc ?_
 have hcut:AR fT p.1=.tup [St (if decide (p.1.take 4=fT) then p.1.drop 4 else p.1),Bo (decide (p.1.take 4=fT))]:=by
  unfold AR
  rw[TN]
  cases decide (p.1.take 4=fT) with
  | true=>rfl
  | false=>rfl
 rw[show([114,97,119,46] : Str)=fT from rfl,hcut,bG,bI]
 have hlen:(if decide (p.1.take 4=fT) then p.1.drop 4 else p.1).length≤p.1.length:=by
  split
  ·simp
  ·exact Nat.le_refl _
 have hsz:=SE (p:=p) (N:=30000000) (by omega) (by omega)
 unfold dM at hQ hsz
 dsimp only at hQ hsz
 generalize hraw:decide (p.1.take 4=fT)=raw at *
 generalize (if raw then p.1.drop 4 else p.1)=s at *
 refine hu (k02.base.trans hM) (by omega) fun M3 v k3 hv=>?_
 generalize CE s=u at *
 obtain⟨u,j,uok⟩:=u
 dsimp only at hQ hsz hv ⊢
 rw[bG,bI,iq]
 have k03:=k02.trans k3
 have h13:=k3.ax h12 (by omega) (by simp)
 have h23:=k3.ax h2 (by omega) (by simp)
 have n3:=k3.next
 have hall:∀ x:Str,([St u.g,St u.n,v,St x,N .i64 0] : List AV).all oneCell=true:=fun x=>by simp[eT,hv.one]
 rw[aF,bJ (n:=5) (x:=.agg [St u.g,St u.n,v,St [],N .i64 0]) (l:=[St [],St [],aC,St [],N .i64 0]) (RM.aQ _) rfl rfl (hall [])]
 have k4:ae [] M3 ((M3.push (.row [St [],St [],aC,St [],N .i64 0] false TL 0)).put M3.next (.row (AV.agg [St u.g,St u.n,v,St [],N .i64 0]).cells false TL 0)):=((ae.refl _ _).push _).new _ (Nat.le_refl _)
 have h4:((M3.push (.row [St [],St [],aC,St [],N .i64 0] false TL 0)).put M3.next (.row (AV.agg [St u.g,St u.n,v,St [],N .i64 0]).cells false TL 0)).heap M3.next=some (.row [St u.g,St u.n,v,St [],N .i64 0] false TL 0):=ay _
 have n4:((M3.push (.row [St [],St [],aC,St [],N .i64 0] false TL 0)).put M3.next (.row (AV.agg [St u.g,St u.n,v,St [],N .i64 0]).cells false TL 0)).next=M3.next + 1:=rfl
 generalize (M3.push (.row [St [],St [],aC,St [],N .i64 0] false TL 0)).put M3.next (.row (AV.agg [St u.g,St u.n,v,St [],N .i64 0]).cells false TL 0)=M4 at *
 have h14:=k4.ax h13 (by omega) (by simp)
 have h24:=k4.ax h23 (by omega) (by simp)
 rw[aX,az h14 rfl,aX,bK (l':=[St u.g,St u.n,v,St p.2,N .i64 0]) h4 (by simp) rfl rfl rfl]
 have k5:ae [] M3 (M4.put M3.next (.row [St u.g,St u.n,v,St p.2,N .i64 0] false TL 0)):=k4.put _ (.inl (Nat.le_refl _))
 have h5:(M4.put M3.next (.row [St u.g,St u.n,v,St p.2,N .i64 0] false TL 0)).heap M3.next=some (.row [St u.g,St u.n,v,St p.2,N .i64 0] false TL 0):=ay _
 have n5:(M4.put M3.next (.row [St u.g,St u.n,v,St p.2,N .i64 0] false TL 0)).next=M4.next:=rfl
 generalize M4.put M3.next (.row [St u.g,St u.n,v,St p.2,N .i64 0] false TL 0)=M5 at *
 have h15:=k5.ax h13 (by omega) (by simp)
 have h25:=k5.ax h23 (by omega) (by simp)
 generalize hx:(if !raw && yT u.n then esc p.2 else p.2)=x at *
 refine bN (fun ys M'=>ae [] M3 M'∧M3.next<M'.next∧M'.heap M3.next=some (.row [St u.g,St u.n,v,St x,N .i64 0] false TL 0)) ?_ ?_
 rotate_left 1
 ·intro J hJ
  rw[bQ]
  refine jH (p:=yT u.n) (fun hc' kk hk=>?_) ?_
  ·rw[aX,az h5 rfl]; exact ht hk
  refine bi (fun hb=>?_) (fun hb=>?_)
  ·rw[hb] at hx
   rw[if_pos rfl] at hx
   rw[aX,az h15 rfl]
   refine he (by omega) fun M6 k6=>?_
   have h6:=k6.ax h5 (by omega) (by simp)
   have n6:=k6.next
   rw[aX,bK (l':=[St u.g,St u.n,v,St x,N .i64 0]) h6 (by simp) rfl rfl (by rw[← hx]; rfl)]
   exact hJ _ _ ⟨(k5.trans k6).put _ (.inl (Nat.le_refl _)),by rw[jA]; omega,ay _⟩
  ·rw[hb] at hx
   rw[if_neg (by simp)] at hx
   rw[← hx] at hJ
   exact hJ _ _ ⟨k5,by omega,h5⟩
 rintro _ M6 ⟨k6,n6,h6⟩
 have h16:=k6.ax h13 (by omega) (by simp)
 have h26:=k6.ax h23 (by omega) (by simp)
 have k06:=k03.trans k6
 rw[aM (n:=5) h6 rfl]
 have hv6:=hv.keep k6 (by simp)
 have hrel:gP.rel M6 [St u.g,St u.n,v,St x,N .i64 0] ({ u with v:=x },0) (fun b=>M2.next≤b):=⟨v,rfl,hv6⟩
 have hla:=hsz.laid
 refine hf (k06.base.trans hM) hrel (hsz.mono (by omega)).lb (by omega) fun M7 k7=>?_
 have h17:=k7.ax h16 (by omega) (by simp)
 have h27:=k7.ax h26 (by omega) (by simp)
 have h67:=k7.ax h6 (by omega) (by simp)
 have n7:=k7.next
 generalize iP { u with v:=x } j=f at *
 obtain⟨f,fok⟩:=f
 dsimp only at hQ ⊢
 unfold mg
 rw[bG,bI,aF,bJ (n:=2) (x:=.agg [St f.1,St f.2]) (l:=[St [],St []]) (RM.aQ _) rfl rfl rfl]
 have k8:ae [] M7 ((M7.push (.row [St [],St []] false TP 0)).put M7.next (.row (AV.agg [St f.1,St f.2]).cells false TP 0)):=((ae.refl _ _).push _).new _ (Nat.le_refl _)
 have h8:((M7.push (.row [St [],St []] false TP 0)).put M7.next (.row (AV.agg [St f.1,St f.2]).cells false TP 0)).heap M7.next=some (.row [St f.1,St f.2] false TP 0):=ay _
 have n8:((M7.push (.row [St [],St []] false TP 0)).put M7.next (.row (AV.agg [St f.1,St f.2]).cells false TP 0)).next=M7.next + 1:=rfl
 generalize (M7.push (.row [St [],St []] false TP 0)).put M7.next (.row (AV.agg [St f.1,St f.2]).cells false TP 0)=M8 at *
 have h18:=k8.ax h17 (by omega) (by simp)
 have h28:=k8.ax h27 (by omega) (by simp)
 have h68:=k8.ax h67 (by omega) (by simp)
 have k08:=(k06.trans k7).trans k8
 rw[aM (n:=5) h68 rfl]
 have fin:∀ r:Bool,r=(uok && fok && decide (f=p)) →
   ∀ {M9:RM},M9=M8.put M1.next (.row (AV.agg [St u.g,St u.n,v,St x,N .i64 0]).cells false TL 0)→aI M9 (.ptr M1.next 0) 5 fun res=>Q (.tup [res,N .i64 j,Bo r]) M9:=by
  intro r hr M9 e
  have k9:ae [M1.next] M8 M9:=by rw[e]; exact(ae.refl _ _).put _ (.inr (by simp))
  rw[aM (n:=5) (l:=[St u.g,St u.n,v,St x,N .i64 0]) (by rw[e]; exact ay _) rfl,hr]
  refine hQ _ _ (k08.eU k9 (fun c hc=>.inl (by simp at hc; omega))) ⟨v,rfl, ?_⟩
  refine((hv6.keep (k7.trans k8) (by simp)).keep k9 fun b hb h=>?_).mono fun b hb=>by omega
  simp at hb; omega
 have hst:∀ {K:RM→Prop},aA M8 (.ptr M1.next 0) (.agg [St u.g,St u.n,v,St x,N .i64 0]) 5 K=K (M8.put M1.next (.row (AV.agg [St u.g,St u.n,v,St x,N .i64 0]).cells false TL 0)):=fun {K} => bJ (n:=5) (x:=.agg [St u.g,St u.n,v,St x,N .i64 0]) h28 rfl rfl (hall x)
 cases uok with
 | false =>
   simp only[nJ,Ke,iV]
   rw[hst]
   exact fin false rfl rfl
 | true =>
   simp only[lT,gI]
   cases fok with
   | false =>
     simp only[nJ,Ke,iV]
     rw[hst]
     exact fin false rfl rfl
   | true =>
     simp only[lT,OE,gI]
     rw[aM (n:=2) h8 rfl,aM (n:=2) h18 rfl,pW (r:=decide (f=p)) rfl rfl (D9 f p),hst]
     have h9a:(M8.put M1.next (.row (AV.agg [St u.g,St u.n,v,St x,N .i64 0]).cells false TL 0)).heap M7.next=some (.row [St f.1,St f.2] false TP 0):=df h8 (by omega)
     have h9b:(M8.put M1.next (.row (AV.agg [St u.g,St u.n,v,St x,N .i64 0]).cells false TL 0)).heap M.next=some (.row [St p.1,St p.2] false TP 0):=df h18 (by omega)
     rw[aM (n:=2) h9a rfl]
     refine⟨rfl, ?_⟩
     rw[aM (n:=2) h9b rfl]
     refine⟨rfl, ?_⟩
     refine fin _ ?_ rfl
     cases decide (f=p) <;> rfl
def om:Enc Fd where
 size:=2
 cells p:=[St p.1,St p.2]
 len _:=rfl
 one _:=rfl
theorem EH {M:RM} {v:AV} {xs:List Fd} (h:Sl om M v xs) {i:Nat} (hi:i<xs.length) {K:AV→Prop} : (bg v (N .i64 (i:Int)) 2 fun p=>aI M p 2 K)=K (mg xs[i]):=by
 obtain⟨b,o,hb,_,hidx,hld⟩:=Sl.elem h hi
 rw[show(2:Nat)=om.size from rfl,hidx,qf,hld]
 simp[om,mg]
theorem zv {M:RM} {b T:Nat} {x:AV} {cs:List AV} (n:Nat) (h:x=.agg cs) (hl:cs.length=n) (zs:List AV) (hz:zs.length=n) (h1:cs.all oneCell=true) {K:RM→Prop} (hc:x.cells.length=n)
  (hK:∀ M',ae [] M M'→M'.next=M.next + 1→M'.heap M.next=some (.row cs false T 0)→K M') : aA (M.push (.row zs false T 0)) (.ptr M.next 0) x n K:=by
 subst h
 rw[bJ (n:=n) (x:=.agg cs) (l:=zs) (RM.aQ _) hc hz h1]
 exact hK _ (((ae.refl _ _).push _).new _ (Nat.le_refl _)) rfl (ay _)
def EA (B:Base) (c:aj) : Prop:=∀ {M:RM} {p:Fd} {Q:ai},M.base=B→p.1.length≤10000000→p.2.length≤10000000 →
 (∀ M' cs,ae [] M M'→gP.rel M' cs (if (dM p).2.2 then(dM p).1 else LC,0) (fun b=>M.next≤b)→Q (.tup [.agg cs,N .i64 (if (dM p).2.2 then 0 else 1)]) M')→c [mg p] M Q
theorem MS {B:Base} {TP TL:Nat} {cl:aj} (hl:Ip B cl) : EA B fun args M Q=>∃ a0,args=[a0]∧sW TP TL cl a0 M Q:=by
 intro M p Q hM hp1 hp2 hQ
 refine⟨_,rfl, ?_⟩
 unfold sW mg
 rw[ic (cs:=[St p.1,St p.2]) rfl (by simp),aF]
 have k1:ae [] M (M.push (.row [St p.1,St p.2] false TP 0)):=(ae.refl _ _).push _
 have h1:(M.push (.row [St p.1,St p.2] false TP 0)).heap M.next=some (.row [St p.1,St p.2] false TP 0):=RM.aQ _
 have n1:(M.push (.row [St p.1,St p.2] false TP 0)).next=M.next + 1:=bF _
 generalize M.push (.row [St p.1,St p.2] false TP 0)=M1 at *
 rw[aF]
 have k2:ae [] M1 (M1.push (.row [St [],St [],aC,St [],N .i64 0] false TL 0)):=(ae.refl _ _).push _
 have h2:(M1.push (.row [St [],St [],aC,St [],N .i64 0] false TL 0)).heap M1.next=some (.row [St [],St [],aC,St [],N .i64 0] false TL 0):=RM.aQ _
 have n2:(M1.push (.row [St [],St [],aC,St [],N .i64 0] false TL 0)).next=M1.next + 1:=bF _
 generalize M1.push (.row [St [],St [],aC,St [],N .i64 0] false TL 0)=M2 at *
 have k02:=k1.trans k2
 rw[aM (n:=2) (k2.ax h1 (by omega) (by simp)) rfl]
 refine hl (p:=p) (k02.base.trans hM) hp1 hp2 fun M3 cs k3 hrel=>?_
 have h23:=k3.ax h2 (by omega) (by simp)
 have n3:=k3.next
 rw[bG,bI,iq,aF]
 obtain⟨v,rfl,hv,hall,_⟩:=xZ hrel
 refine zv (b:=0) 5 rfl rfl _ rfl hall rfl fun M4 k4 n4 h4=>?_
 have h24:=k4.ax h23 (by omega) (by simp)
 have k04:=(k02.trans k3).trans k4
 rw[bQ]
 cases hok:(dM p).2.2 with
 | false =>
   rw[hok] at hQ
   rw[Bool.not_false,eQ,iG]
   refine⟨_,rfl, ?_⟩
   rw[bJ (n:=5) (x:=.agg [St [],St [],aC,St [],N .i64 0]) h24 rfl rfl rfl,aM (n:=5) (ay _) rfl]
   exact hQ _ _ (k04.put _ (.inl (by omega))) ⟨aC,rfl,bD.nil⟩
 | true =>
   rw[hok] at hQ
   rw[Bool.not_true,dU,aM (n:=5) h4 rfl,bJ (n:=5) (x:=.agg [St (dM p).1.g,St (dM p).1.n,v,St (dM p).1.v,N .i64 0]) h24 rfl rfl hall,aM (n:=5) (ay _) rfl]
   refine hQ _ _ (k04.put _ (.inl (by omega))) ⟨v,rfl, ?_⟩
   refine((hv.keep k4 (by simp)).keep (bs:=[M1.next]) ((ae.refl _ _).put _ (.inr (by simp))) fun b hb h=>?_).mono fun b hb=>by omega
   simp at hb; omega
def DX (B:Base) (c:aj) : Prop:=∀ {M:RM} {p:Fd} {Q:ai},M.base=B→p.1.length≤10000000→p.2.length≤10000000→(∀ M',ae [] M M'→Q (Bo (yB p)) M')→c [mg p] M Q
theorem MZ {i j:Nat} {K:AV→Prop} : af .leq (N .i64 (i:Int)) (N .i64 (j:Int)) K=K (Bo (decide (i≤j))):=by rw[mX,show decide ((i:Int)≤(j:Int))=decide (i≤j) by simp]
theorem Aj {B:Base} {TP TL:Nat} {cl:aj} (hl:EA B cl) : DX B fun args M Q=>∃ a0,args=[a0]∧tq TP cl TL a0 M Q:=by
 intro M p Q hM hp1 hp2 hQ
 refine⟨_,rfl, ?_⟩
 unfold tq mg
 simp only[dH]
 rw[ic (cs:=[St p.1,St p.2]) rfl (by simp),aF]
 have k1:ae [] M (M.push (.row [St p.1,St p.2] false TP 0)):=(ae.refl _ _).push _
 have h1:(M.push (.row [St p.1,St p.2] false TP 0)).heap M.next=some (.row [St p.1,St p.2] false TP 0):=RM.aQ _
 have n1:(M.push (.row [St p.1,St p.2] false TP 0)).next=M.next + 1:=bF _
 generalize M.push (.row [St p.1,St p.2] false TP 0)=M1 at *
 rw[aM (n:=2) h1 rfl]
 refine hl (p:=p) (k1.base.trans hM) hp1 hp2 fun M3 cs k3 hrel=>?_
 rw[bG,bI,aF]
 obtain⟨v,rfl,hv,hall,_⟩:=xZ hrel
 refine zv (b:=0) 5 rfl rfl _ rfl hall rfl fun M4 k4 n4 h4=>?_
 have h14:=(k3.trans k4).ax h1 (by omega) (by simp)
 have k04:=(k1.trans k3).trans k4
 rw[bR]
 have e:(((if (dM p).2.2=true then(0:Int) else 1)) == 0)=(dM p).2.2:=by cases(dM p).2.2 <;> rfl
 rw[e]
 refine jH (p:=decide (p.1.length≤64)) (fun hc kk hk=>?_) ?_
 ·rw[aX,az h14 rfl,bC,show(N .i64 (64:Int))=N .i64 ((64:Nat) : Int) from rfl,MZ]; exact hk
 refine jH (p:=decide (p.2.length≤512)) (fun hc kk hk=>?_) ?_
 ·rw[aX,az h14 rfl,bC,show(N .i64 (512:Int))=N .i64 ((512:Nat) : Int) from rfl,MZ]; exact hk
 exact hQ _ k04
theorem GR (ns:List Str) (n x:Str) : eO (ns++[n]) x=if x=n then eO ns n + 1 else eO ns x:=by
 unfold eO
 rw[List.countP_append,List.countP_singleton]
 by_cases h:x=n
 ·subst h; simp
 ·have h' : ¬ n=x:=fun e=>h e.symm
  rw[if_neg h,if_neg (by simpa using h')]; rfl
theorem Mm (ns:List Str) (n:Str) : eO ns n≤ns.length:=List.countP_le_length
def Nj (B:Base) (c:aj) : Prop:=∀ {M:RM} {v:AV} {xs:List Fd} {ct:Str} {k:Int} {Q:ai},M.base=B→Sl om M v xs→xs.length≤1000000→(∀ p∈xs,p.1.length≤10000000∧p.2.length≤10000000) →
 (∀ M',ae [] M M'→Q (match Ku xs with | some s=>.tup [St s,N .i64 0] | none=>.tup [St [],N .i64 1]) M')→c [.agg [St ct,v,N .i64 k]] M Q
theorem Tc {p:Fd} (h:(dM p).2.2=true) : iP (dM p).1 (dM p).2.1=(p,true):=by
 have e:(dM p).2.2=((CE (if decide (p.1.take 4=fT) then p.1.drop 4 else p.1)).2.2 && (iP (dM p).1 (dM p).2.1).2 && decide ((iP (dM p).1 (dM p).2.1).1=p)):=rfl
 rw[e] at h
 obtain⟨h1,h2⟩:=(Bool.and_eq_true ..).mp h
 obtain⟨_,h3⟩:=(Bool.and_eq_true ..).mp h1
 exact Prod.ext (of_decide_eq_true h2) h3
theorem Ry {L:Ln} {k:Int} {p:Fd} (h:iP L k=(p,true)) : (jm mh L).2=0∧L.g≠lH∧FE L.n=false∧0≤k∧p=(kG (bA L).1 k,(bA L).2):=by
 unfold iP at h
 split at h
 ·rename_i hc
  injection h with h1 h2
  exact⟨hc.1,hc.2.1,hc.2.2.1,hc.2.2.2,h1.symm⟩
 ·injection h with h1 h2
  cases h2
theorem Ru {B:Base} {TC TP TL:Nat} {cl cg cp cr:aj} (hl:Ip B cl) (hg:DX B cg) (hp:Ez B cp) (hr:DW B (jm mh) cr) : Nj B fun args M Q=>∃ a0,args=[a0]∧pJ TC TP cl TL cg cp cr a0 M Q:=by
 intro M v xs ct k Q hM hv hlen hps hQ
 refine⟨_,rfl, ?_⟩
 unfold pJ
 simp only[dH]
 have hall:([St ct,v,N .i64 k] : List AV).all oneCell=true:=by simp[eT,dK.one hv]
 rw[ic hall (by simp),aF]
 have k1:ae [] M (M.push (.row [St ct,v,N .i64 k] false TC 0)):=(ae.refl _ _).push _
 have h1:(M.push (.row [St ct,v,N .i64 k] false TC 0)).heap M.next=some (.row [St ct,v,N .i64 k] false TC 0):=RM.aQ _
 have n1:(M.push (.row [St ct,v,N .i64 k] false TC 0)).next=M.next + 1:=bF _
 generalize M.push (.row [St ct,v,N .i64 k] false TC 0)=M1 at *
 rw[aF]
 have k2:ae [] M1 (M1.push (.map [] 0)):=(ae.refl _ _).push _
 have c2:=jO.new M1
 have n2:(M1.push (.map [] 0)).next=M1.next + 1:=bF _
 generalize M1.push (.map [] 0)=M2 at *
 have k02:=k1.trans k2
 have hv2:=dK.keep hv k02 (by simp)
 rw[aX,az (k2.ax h1 (by omega) (by simp)) rfl,dK.len hv2]
 refine aR (fun m ys M3=>∃ (i:Nat) (acc:Str) (ns:List Str),m=xs.length - i∧ys=[St acc,N .i64 (i:Int)]∧i≤xs.length∧ae [] M M3∧M1.next<M3.next∧jO M3 M1.next (eO ns)∧ns.length=i∧acc.length≤26 + 4000 * i∧DL (xs.drop i) ns acc=Ku xs) _
  ⟨0,Sj,[],rfl,rfl,Nat.zero_le _,k02,by omega,c2,rfl,by simp,rfl⟩ ?_
 rintro next m ys M3 hnext ⟨i,acc,ns,rfl,rfl,hi,k3,n3,c3,hns,hacc,he⟩
 dsimp only[ag]
 have hv3:=dK.keep hv k3 (by simp)
 have hM3:M3.base=B:=k3.base.trans hM
 rw[kU]
 refine bi (fun h=>?_) (fun h=>?_)
 ·have h:i<xs.length:=of_decide_eq_true h
  have hm:=hps _ (List.getElem_mem h)
  rw[EH hv3 h,aF]
  rw[List.drop_eq_getElem_cons h,DL] at he
  generalize xs[i]=p at *
  refine zv (b:=0) 2 rfl rfl _ rfl rfl rfl fun M4 k4 n4 h4=>?_
  rw[aM (n:=2) h4 rfl]
  refine hl (p:=p) (k4.base.trans hM3) hm.1 hm.2 fun M5 cs k5 hrel=>?_
  rw[bG,bI,iq,aF]
  obtain⟨w,rfl,hw,Vz,_⟩:=xZ hrel
  refine zv (b:=0) 5 rfl rfl _ rfl Vz rfl fun M6 k6 n6 h6=>?_
  have n5:=k5.next
  have k46:=k5.trans k6
  have h46:=k46.ax h4 (by omega) (by simp)
  have k36:ae [] M3 M6:=k4.trans k46
  have c6:jO M6 M1.next (eO ns):=c3.keep k36 (by simp)
  have hw6:=hw.keep k6 (by simp)
  rw[bQ]
  refine Oe (P:=fun M'=>ae [] M6 M') (p:=!yB p) (ae.refl _ _) (fun hc kk hk=>?_) fun M7 k7=>?_
  ·rw[aM (n:=2) h46 rfl]
   refine hg (p:=p) (k36.base.trans hM3) hm.1 hm.2 fun M7 k7=>?_
   rw[bQ]
   exact hk _ k7
  refine bi (fun hb=>?_) (fun hb=>?_)
  ·have hb:yB p=false:=by
    simp only[Bool.or_eq_true,Bool.not_eq_true'] at hb
    rcases hb with hb | hb
    ·unfold yB; rw[hb]; rfl
    ·exact hb
   rw[if_pos hb] at he
   rw[← he] at hQ
   exact hQ _ ((k3.trans k36).trans k7)
  ·simp only[Bool.or_eq_false_iff,Bool.not_eq_false'] at hb
   have hgd:=hb.2
   rw[if_neg (by rw[hgd]; simp)] at he
   have hfo:=Ry (Tc hb.1)
   have hpr:=Cr hfo.1
   have hsz:=Me hpr.2.1
   have hLB:LB 1000000 (dM p).1:=(hsz.mono (by omega)).lb
   have WX:=hsz.UD
   generalize dM p=lf at *
   obtain⟨L,j,ok⟩:=lf
   dsimp only at *
   have h67:=k7.ax h6 (by omega) (by simp)
   have k37:=k36.trans k7
   have n7:=k7.next
   rw[aM (n:=5) h67 rfl]
   refine hp (k37.base.trans hM3) (jB (hw6.keep k7 (by simp))) hLB (by omega) fun M8 k8=>?_
   have c8:=(c6.keep k7 (by simp)).keep k8 (by simp)
   have n8:=k8.next
   rw[mg,Ox]
   refine⟨St (bA L).1,rfl, ?_⟩
   refine c8.look ?_
   rw[fP]
   refine bi (fun hb=>?_) (fun hb=>?_)
   ·have hb:(eO ns (bA L).1:Int)≠j:=by simpa using hb
    rw[if_pos hb] at he
    rw[← he] at hQ
    exact hQ _ ((k3.trans k37).trans k8)
   ·have hb:(eO ns (bA L).1:Int)=j:=by simpa using hb
    rw[if_neg (fun h=>h hb)] at he
    refine c8.look ?_
    have hcl:=Mm ns (bA L).1
    rw[add1 (by omega)]
    refine c8.upd fun M9 c9 k9 n9=>?_
    have k09:ae [] M M9:=((k3.trans k37).trans k8).eU k9 fun c hc=>.inl (by simp at hc; have:=k1.next; omega)
    have c9' : jO M9 M1.next (eO (ns++[(bA L).1])):=by
     have:eO (ns++[(bA L).1])=fun x=>if x=(bA L).1 then eO ns (bA L).1 + 1 else eO ns x:=funext fun x=>GR ns _ x
     rw[this]; exact c9
    have h69:=k9.ax (k8.ax h67 (by omega) (by simp)) (by omega) (by simp; omega)
    rw[aM (n:=5) h69 rfl]
    have hw9:bD iB M9 w L.ps (fun b=>M4.next≤b):=((hw6.keep k7 (by simp)).keep k8 (by simp)).keep k9 fun b hb h=>by simp at hb; omega
    refine hr (k09.base.trans hM) (jB hw9) (JZ hLB) (by omega) fun Ma ka=>?_
    have na:=ka.next
    rw[bG,bI,hfo.1,Xz,dU,bM]
    have hfl:=Sk (jo L)
    have hpl:(jm mh L).1.length≤4000:=by rw[hpr.2.2]; simp; omega
    refine⟨by omega, ?_⟩
    rw[add1 (by omega)]
    exact hnext _ _ _ (by omega) ⟨i + 1,_,ns++[(bA L).1],rfl,rfl,by omega,k09.trans ka,by omega,c9'.keep ka (by simp),by simp[hns],by simp; omega,he⟩
 ·have h:¬ i<xs.length:=of_decide_eq_false h
  rw[List.drop_eq_nil_of_le (by omega),DL] at he
  rw[← he] at hQ
  rw[bM]
  refine⟨by simp; omega, ?_⟩
  exact hQ _ k3
abbrev Li:=Ln × Int
theorem uD {M:RM} {v:AV} {ls:List Li} {S:Nat→Prop} (h:bD gP M v ls S) {i:Nat} (hi:i<ls.length) :
  ∃ w,bD iB M w ls[i].1.ps S∧(∀ K:AV→Prop,(bg v (N .i64 (i:Int)) 5 fun p=>aI M p 5 K)=K (.agg [St ls[i].1.g,St ls[i].1.n,w,St ls[i].1.v,N .i64 ls[i].2])) ∧
    (∀ K:AV→Prop,(bg v (N .i64 (i:Int)) 5 fun p=>aJ p 0 fun q=>ak M q K)=K (St ls[i].1.g)) ∧
    (∀ K:AV→Prop,(bg v (N .i64 (i:Int)) 5 fun p=>aJ p 1 fun q=>ak M q K)=K (St ls[i].1.n)) ∧
    (∀ K:AV→Prop,(bg v (N .i64 (i:Int)) 5 fun p=>aJ p 3 fun q=>ak M q K)=K (St ls[i].1.v)) ∧
    (∀ K:AV→Prop,(bg v (N .i64 (i:Int)) 5 fun p=>aJ p 4 fun q=>ak M q K)=K (N .i64 ls[i].2)):=by
 obtain⟨b,o,cs,hb,hbm,hidx,hld,w,rfl,hw⟩:=bD.at h 5 (i:Int) hi
 have c0:M.cell b (o + 0)=some (St ls[i].1.g):=fU hld (j:=0) rfl
 have c1:M.cell b (o + 1)=some (St ls[i].1.n):=fU hld (j:=1) rfl
 have c3:M.cell b (o + 3)=some (St ls[i].1.v):=fU hld (j:=3) rfl
 have c4:M.cell b (o + 4)=some (N .i64 ls[i].2):=fU hld (j:=4) rfl
 refine⟨w,hw,fun K=>?_,fun K=>?_,fun K=>?_,fun K=>?_,fun K=>?_⟩
 ·rw[hidx,qf,hld]; simp
 ·rw[hidx,gY,dZ,c0]; simp
 ·rw[hidx,gY,dZ,c1]; simp
 ·rw[hidx,gY,dZ,c3]; simp
 ·rw[hidx,gY,dZ,c4]; simp
theorem wO {b:Int} : ∀ (l acc c r:List Li),iA b l acc=.ok (c,r)→r.length + 1≤l.length
 | [],_,_,_,h=>by cases h
 | x :: l,acc,c,r,h=>by
   rw[iA] at h
   split at h
   ·cases h; simp
   ·split at h
    ·cases h
    ·have:=wO l _ c r h; simp; omega
theorem lK (k:Nat) (x:Li) (r:List Li) (acc:List (List Li)) : qE (k + 1) (x :: r) acc=if fE x.1 sN=false then .error x.2 else match r with
  | []=>.error x.2
  | y :: r=>if fE y.1 ig=false then .error y.2 else match iA x.2 r [x] with
    | .error e=>.error e
    | .ok (c,r')=>qE k r' (acc++[c]):=by cases r <;> rfl
theorem Hg:∀ (n:Nat) (l:List Li) (acc:List (List Li)) (k k' : Nat),l.length≤n→l.length<k→l.length<k'→qE k l acc=qE k' l acc
 | n,l,acc,k,k',hn,h1,h2=>by
   obtain⟨i,rfl⟩ : ∃ i,k=i + 1:=⟨k - 1,by omega⟩
   obtain⟨j,rfl⟩ : ∃ j,k'=j + 1:=⟨k' - 1,by omega⟩
   cases l with
   | nil=>rfl
   | cons x r =>
     rw[lK,lK]
     split
     ·rfl
     ·cases r with
      | nil=>rfl
      | cons y r =>
        dsimp only
        split
        ·rfl
        ·cases hb:iA x.2 r [x] with
         | error e=>rfl
         | ok p =>
           obtain⟨c,r'⟩:=p
           have:=wO _ _ _ _ hb
           simp only[List.length_cons] at hn h1 h2
           dsimp only
           cases n with
           | zero=>omega
           | succ n=>exact Hg n r' _ i j (by omega) (by omega) (by omega)
def nH {α:Type} (R:jk α) (M:RM) (base T:Nat) (v:AV) (xs:List α) (S:Nat→Prop) : Prop :=
 eu R M base T v xs S∨∃ b cs,v=.slc b 0 xs.length (.ex xs.length)∧base≤b∧b<M.next∧M.heap b=some (.row cs false T 0)∧dw R M S cs xs
section
variable {α:Type} {R:jk α} {M M' : RM} {base T:Nat} {v:AV} {xs:List α} {S S' : Nat→Prop} {a:α} {cs:List AV}
theorem nH.blk (h:nH R M base T v xs S) : ∀ b∈aD v,base≤b∧b<M.next:=by
 rcases h with h | ⟨b,cs,rfl,h1,h2,_⟩
 ·exact h.blk
 ·intro c hc; simp[aD] at hc; subst hc; exact⟨h1,h2⟩
theorem nH.keep {bs:List Nat} (h:nH R M base T v xs S) (hk:ae bs M M') (hb:∀ b∈bs,¬ S b) (hv:∀ b∈aD v,b ∉ bs) : nH R M' base T v xs S:=by
 rcases h with h | ⟨b,cs,rfl,h1,h2,h3,h4⟩
 ·exact .inl (h.keep hk hb hv)
 ·exact .inr ⟨b,cs,rfl,h1,Nat.lt_of_lt_of_le h2 hk.next,hk.ax h3 h2 (hv b (by simp[aD])),h4.keep hk hb⟩
theorem nH.mono (h:nH R M base T v xs S) (hs:∀ b,S b→S' b) : nH R M base T v xs S':=by
 rcases h with h | ⟨b,cs,rfl,h1,h2,h3,h4⟩
 ·exact .inl (h.mono hs)
 ·exact .inr ⟨b,cs,rfl,h1,h2,h3,h4.mono hs⟩
theorem nH.Cj (h:nH R M base T v xs S) (hs:∀ b,base≤b→b<M.next→S b) : bD R M v xs S:=by
 rcases h with h | ⟨b,cs,rfl,h1,h2,h3,h4⟩
 ·exact h.Cj hs
 ·refine⟨cs,.slc _ _ _ _ _ h2 ?_,fun c hc=>by simp[aD] at hc; subst hc; exact hs _ h1 h2,h4⟩
  rw[RM.jT h3 (by rw[h4.len]; omega),List.drop_zero,← h4.len,List.take_length]
theorem nH.one (h:nH R M base T v xs S) : oneCell v=true:=by
 rcases h with h | ⟨b,cs,rfl,_⟩
 ·exact h.one
 ·rfl
theorem nH.app {bytes:Nat} {zs:List AV} {K:ai} (ho:nH R M base T v xs S) (ha:R.rel M cs a S) (hb:base≤M.next) (hs:1≤R.size)
  (hd:∀ b∈aD v,¬ S b) (hS:∀ b,S b→b<M.next) (hn:(xs.length + 1) * bytes≤140737488355328) (hn2:xs.length + 1≤140737488355328)
  (hK:∀ v' M',nH R M' base T v' (xs++[a]) S→ae (aD v) M M'→M.next≤M'.next→(∀ b∈aD v',¬ S b)→K v' M') :
  appW T R.size bytes zs false v (.slc M.next 0 1 (.ex 1)) (M.push (.row cs false T 0)) K:=by
 rcases ho with ho | ⟨b,ds,rfl,h1,h2,h3,h4⟩
 ·exact ho.app ha hb hs hd hS hn hn2 fun v' M' h1 h2 h3 _ h5=>hK v' M' (.inl h1) h2 h3 h5
 ·have hk:ae [] M (M.push (.row cs false T 0)):=(ae.refl _ _).push _
  have hl:=R.len ha
  have hl4:=h4.len
  have hnl:mq (M.push (.row cs false T 0)) R.size zs false (.slc M.next 0 1 (.ex 1))=some (1,cs):=by
   simp only[mq,Nat.one_mul]
   rw[RM.jT (RM.aQ _) (by omega),List.drop_zero,← hl,List.take_length]
  have hld:(M.push (.row cs false T 0)).loads b 0 (xs.length * R.size)=some ds:=by
   rw[RM.jT (rU h3 h2) (by omega),List.drop_zero,← hl4,List.take_length]
  have hone:(ds++cs).all oneCell=true:=by rw[List.all_append,h4.one,R.one ha]; rfl
  have hb1:1 * bytes≤140737488355328:=Nat.le_trans (Nat.mul_le_mul_right _ (by omega)) hn
  refine⟨1,cs,hnl,hb1,by omega, ?_⟩
  refine⟨.slc (M.next + 1) 0 (xs.length + 1) (.op R.size),(M.push (.row cs false T 0)).push (.row (ds++cs) true T 0), ?_,hK _ _ (.inl ⟨ds++cs, ?_, ?_⟩) ((hk.mono (by simp)).trans ((ae.refl _ _).push _)) (by simp[RM.push]; omega) ?_⟩
  ·simp only[qF,if_neg (show ¬ (1=0) by decide),if_neg (show ¬ xs.length + 1≤xs.length by omega),hld]
   rw[if_pos ⟨by omega,by omega,hone⟩]; rfl
  ·rw[List.length_append,List.length_singleton]
   exact .op _ _ _ (by show base≤M.next + 1; omega) (by simp[RM.push]) (RM.aQ _) (by rw[List.length_append,hl4,hl,Nat.add_mul,Nat.one_mul])
  ·exact((h4.keep hk (by simp)).keep (bs:=[]) ((ae.refl _ _).push _) (by simp)).append (dw.single ((R.keep ha hk (by simp)) |> fun h=>R.keep h (bs:=[]) ((ae.refl _ _).push _) (by simp)))
  ·intro c hc h
   simp[aD] at hc
   have:=hS c h; omega
end
def Kw (size:Nat) : AV→Prop
 | .slc _ _ n (.ex c)=>n≤c
 | .slc _ _ _ (.op e)=>e=size
 | _=>True
theorem eu.Qy {α:Type} {R:jk α} {M:RM} {base T:Nat} {v:AV} {xs:List α} {S:Nat→Prop} (h:eu R M base T v xs S) : Kw R.size v:=by
 obtain⟨cs,h,_⟩:=h
 generalize xs.length=n at h
 cases h with
 | nil=>trivial
 | ex0=>exact Nat.le_refl 0
 | op=>rfl
theorem nH.Qy {α:Type} {R:jk α} {M:RM} {base T:Nat} {v:AV} {xs:List α} {S:Nat→Prop} (h:nH R M base T v xs S) : Kw R.size v:=by
 rcases h with h | ⟨b,cs,rfl,_⟩
 ·exact eu.Qy h
 ·exact Nat.le_refl _
def Ig:jk (List Li) where
 size:=1
 rel M cs xs S:=∃ v,cs=[v]∧bD gP M v xs S∧Kw 5 v
 len h:=by obtain⟨v,rfl,_⟩:=h; rfl
 one h:=by obtain⟨v,rfl,h,_⟩:=h; simp[h.one]
 mono h hs:=by obtain⟨v,rfl,h,hc⟩:=h; exact⟨v,rfl,h.mono hs,hc⟩
 lt h:=by obtain⟨v,rfl,h,hc⟩:=h; exact⟨v,rfl,h.lt,hc⟩
 keep h hk hb:=by obtain⟨v,rfl,h,hc⟩:=h; exact⟨v,rfl,h.keep hk hb,hc⟩
def Bp (ls:List Li) : Except Int (List (List Li)):=qE (ls.length + 1) ls []
theorem OU (x:Li) (r:List Li) (acc:List (List Li)) (he:fE x.1 sN=true) (hv:∀ y r',r=y :: r'→fE y.1 ig=true) :
  qE ((x :: r).length + 1) (x :: r) acc=match iA x.2 (r.drop 1) [x] with | .error e=>.error e | .ok (c,r')=>qE (r'.length + 1) r' (acc++[c]):=by
 rw[lK,if_neg (by rw[he]; simp)]
 cases r with
 | nil=>rfl
 | cons y r =>
   dsimp only
   rw[if_neg (by rw[hv y r rfl]; simp),List.drop_one,List.tail_cons]
   cases hb:iA x.2 r [x] with
   | error e=>rfl
   | ok p =>
     obtain⟨c,r'⟩:=p
     have:=wO _ _ _ _ hb
     exact Hg r'.length r' _ _ _ (Nat.le_refl _) (by simp; omega) (by omega)
def vG (B:Base) (c:aj) : Prop:=∀ {M:RM} {v:AV} {ls:List Li} {S:Nat→Prop} {Q:ai},M.base=B→bD gP M v ls S→ls.length≤200000→(∀ x∈ls,LB 1000000 x.1) →
 (∀ M' w css,ae [] M M'→Bp ls=.ok css→bD Ig M' w css (fun b=>M.next≤b∨S b)→css.length≤ls.length→Q (.tup [w,N .i64 0]) M') →
 (∀ M' k,ae [] M M'→Bp ls=.error k→Q (.tup [aC,N .i64 k]) M')→c [v] M Q
theorem DC {B:Base} {TL TS:Nat} {ce cr:aj} (he:Jv B ce) (hr:Iz cr) : vG B fun args M Q=>∃ a0,args=[a0]∧uT TL ce cr TS a0 M Q:=by
 intro M v ls S Q hM hv0 hlen hLB hO hE
 refine⟨_,rfl, ?_⟩
 unfold uT
 simp only[dH]
 have hv:=hv0.lt
 refine aR (fun m ys M1=>∃ (i:Nat) (w:AV) (acc:List (List Li)),m=ls.length - i∧ys=[w,N .i64 (i:Int)]∧i≤ls.length∧acc.length≤i∧ae [] M M1 ∧
   eu Ig M1 M.next TS w acc (fun b=>((M.next≤b∧b ∉ aD w)∨(S b∧b<M.next))∧b<M1.next)∧qE ((ls.drop i).length + 1) (ls.drop i) acc=Bp ls) _
  ⟨0,aC,[],rfl,rfl,Nat.zero_le _,Nat.le_refl _,ae.refl _ _,.nil,rfl⟩ ?_
 rintro next m ys M1 hnext ⟨i,w,acc,rfl,rfl,hi,hacc,k1,ho,hp⟩
 dsimp only[ag]
 have hM1:M1.base=B:=k1.base.trans hM
 have hv1:=hv.keep k1 (by simp)
 have hwb:=ho.blk
 rw[hv1.len,kU]
 refine bi (fun h=>?_) (fun h=>?_)
 rotate_left 1
 ·have h:¬ i<ls.length:=of_decide_eq_false h
  rw[List.drop_eq_nil_of_le (by omega)] at hp
  refine hO M1 w acc k1 hp.symm ?_ (by omega)
  exact(ho.mono (fun b h=>(h.1.imp And.left And.left:M.next≤b∨S b))).Cj fun b hb _=>.inl hb
 have h:i<ls.length:=of_decide_eq_true h
 obtain⟨pw,hpw,hq,_,_,_,hq4⟩:=uD hv1 h
 have hL:=hLB _ (List.getElem_mem h)
 rw[hq,aF]
 rw[List.drop_eq_getElem_cons h] at hp
 generalize hx:ls[i]=x at *
 have hall:([St x.1.g,St x.1.n,pw,St x.1.v,N .i64 x.2] : List AV).all oneCell=true:=by simp[eT,hpw.one]
 refine zv (b:=0) 5 rfl rfl _ rfl hall rfl fun M2 k2 n2 h2=>?_
 rw[aM (n:=5) h2 rfl]
 have n1:=k1.next
 refine he (k2.base.trans hM1) (jB (k:=x.2) (hpw.keep k2 (by simp))) (JZ hL) fun M3 k3=>?_
 have h3:=k3.ax h2 (by omega) (by simp)
 have n3:=k3.next
 rw[bQ]
 refine bi (fun hb=>?_) (fun hb=>?_)
 ·have hb:fE x.1 sN=false:=by simpa using hb
  rw[lK,if_pos hb] at hp
  rw[aX,az h3 rfl]
  exact hE _ _ ((k1.trans k2).trans k3) hp.symm
 have hb:fE x.1 sN=true:=by simpa using hb
 have k13:=k2.trans k3
 rw[aM (n:=5) h3 rfl,iR (x:=.agg [St x.1.g,St x.1.n,pw,St x.1.v,N .i64 x.2]) (size:=5) rfl hall rfl,aF]
 -- the row of the card begun
 have k4:ae [] M3 (M3.push (.row (AV.agg [St x.1.g,St x.1.n,pw,St x.1.v,N .i64 x.2]).cells false TL 0)):=(ae.refl _ _).push _
 have o4:nH gP (M3.push (.row (AV.agg [St x.1.g,St x.1.n,pw,St x.1.v,N .i64 x.2]).cells false TL 0)) M3.next TL (.slc M3.next 0 1 (.ex 1)) [x] (fun b=>S b∧b<M.next) :=
  .inr ⟨M3.next,_,rfl,Nat.le_refl _,Nat.lt_succ_self _,RM.aQ _,dw.single (R:=gP) ⟨pw,rfl,(hpw.keep k13 (by simp)).keep k4 (by simp)⟩⟩
 have n4:(M3.push (.row (AV.agg [St x.1.g,St x.1.n,pw,St x.1.v,N .i64 x.2]).cells false TL 0)).next=M3.next + 1:=rfl
 generalize M3.push (.row (AV.agg [St x.1.g,St x.1.n,pw,St x.1.v,N .i64 x.2]).cells false TL 0)=M4 at *
 have k14:ae [] M1 M4:=k13.trans k4
 have h4:=k4.ax h3 (by omega) (by simp)
 have hv4:=hv1.keep k14 (by simp)
 rw[add1 (by omega),hv4.len,kU]
 refine IG (P:=fun M'=>ae [] M4 M') (p:=!(ls[i+1]?.map fun y=>fE y.1 ig).getD true) (ae.refl _ _) (fun hc kk hk=>?_) fun M5 k5=>?_
 ·have hc:i + 1<ls.length:=of_decide_eq_true hc
  obtain⟨pw2,F7,hq2,_⟩:=uD hv4 hc
  rw[hq2]
  refine he (k14.base.trans hM1) (jB (k:=ls[i+1].2) F7) (JZ (hLB _ (List.getElem_mem hc))) fun M5 k5=>?_
  rw[bQ]
  refine hk M5 k5 |> fun h=>?_
  rw[List.getElem?_eq_getElem hc] at h
  exact h
 have n5:=k5.next
 have k15:=k14.trans k5
 have hv5:=hv1.keep k15 (by simp)
 refine bi (fun hc=>?_) (fun hc=>?_)
 ·simp only[Bool.and_eq_true] at hc
  obtain⟨hc1,hc2⟩:=hc
  have hc1:i + 1<ls.length:=of_decide_eq_true hc1
  rw[List.getElem?_eq_getElem hc1] at hc2
  have hc2:fE ls[i+1].1 ig=false:=by simpa using hc2
  obtain⟨_,_,_,_,_,_,Qi⟩:=uD hv5 hc1
  rw[Qi]
  rw[List.drop_eq_getElem_cons hc1,lK,if_neg (by rw[hb]; simp)] at hp
  dsimp only at hp
  rw[if_pos hc2] at hp
  exact hE _ _ (k1.trans k15) hp.symm
 have XP:∀ y r',ls.drop (i + 1)=y :: r'→fE y.1 ig=true:=by
  intro y r' hy
  have hlt:i + 1<ls.length:=by
   rcases Nat.lt_or_ge (i + 1) ls.length with h | h
   ·exact h
   ·rw[List.drop_eq_nil_of_le h] at hy; cases hy
  rw[List.drop_eq_getElem_cons hlt] at hy
  cases hy
  rw[List.getElem?_eq_getElem hlt,decide_eq_true hlt,Bool.true_and] at hc
  simpa using hc
 rw[OU x _ acc hb XP,List.drop_drop] at hp
 rw[show i + 1 + 1=i + 2 by omega] at hp
 rw[add1 (by omega)]
 -- the lines of the card
 generalize hR:iA x.2 (ls.drop (i + 2)) [x]=R at *
 have o5:=o4.keep k5 (by simp) (by simp)
 have h5:=k5.ax h4 (by omega) (by simp)
 have ho5:=ho.keep k15 (by simp) (by simp)
 refine aR (fun m zs M6=>∃ (j:Nat) (c:AV) (Bh:List Li),m=ls.length + 1 - j∧zs=[w,N .i64 (j:Int),c]∧i + 2≤j∧j≤ls.length + 1∧Bh.length≤j∧ae [] M1 M6∧M4.next≤M6.next ∧
   M6.heap M1.next=some (.row [St x.1.g,St x.1.n,pw,St x.1.v,N .i64 x.2] false TL 0)∧nH gP M6 M3.next TL c Bh (fun b=>S b∧b<M.next)∧iA x.2 (ls.drop j) Bh=R) _
  ⟨i + 2,_,[x],rfl,rfl,Nat.le_refl _,by omega,by simp,k15,by omega,h5,o5,hR⟩ ?_
 rintro EP m zs M6 mO ⟨j,c,Bh,rfl,rfl,hj1,hj2,hcl,k6,n6,h6,oc,hp2⟩
 dsimp only[ag]
 have hv6:=hv1.keep k6 (by simp)
 have hM6:M6.base=B:=k6.base.trans hM1
 rw[hv6.len,kU]
 refine IG (P:=fun M'=>ae [] M6 M') (p:=!(ls[j]?.map fun y=>fE y.1 Jr).getD true) (ae.refl _ _) (fun hc kk hk=>?_) fun M7 k7=>?_
 ·have hc:j<ls.length:=of_decide_eq_true hc
  obtain⟨pw2,F7,hq2,_⟩:=uD hv6 hc
  rw[hq2]
  refine he hM6 (jB (k:=ls[j].2) F7) (JZ (hLB _ (List.getElem_mem hc))) fun M7 k7=>?_
  rw[bQ]
  refine hk M7 k7 |> fun h=>?_
  rw[List.getElem?_eq_getElem hc] at h
  exact h
 have n7:=k7.next
 have k17:=k6.trans k7
 have hv7:=hv1.keep k17 (by simp)
 have oc7:=oc.keep k7 (by simp) (by simp)
 have hcb:=oc7.blk
 have h7:=k7.ax h6 (by omega) (by simp)
 refine bi (fun hc=>?_) (fun hc=>?_)
 ·simp only[Bool.and_eq_true] at hc
  obtain⟨hc1,hc2⟩:=hc
  have hc1:j<ls.length:=of_decide_eq_true hc1
  rw[List.getElem?_eq_getElem hc1] at hc2
  have hc2:fE ls[j].1 Jr=false:=by simpa using hc2
  obtain⟨pw2,F7,hq2,XG,XH,_,Qi⟩:=uD hv7 hc1
  rw[List.drop_eq_getElem_cons hc1,iA,if_neg (by rw[hc2]; simp)] at hp2
  have hLj:=hLB _ (List.getElem_mem hc1)
  rw[XH]
  generalize hy:ls[j]=y at *
  refine hr ?_
  refine qN (p:=y.1.g == lH) (fun hc kk hk=>?_) ?_
  ·rw[XG,fB]; exact hk
  have eg:(y.1.g == lH)=decide (y.1.g=lH):=by by_cases h:y.1.g=lH <;> simp[h]
  rw[eg]
  refine bi (fun hd=>?_) (fun hd=>?_)
  ·rw[if_pos hd] at hp2
   rw[Qi]
   rw[← hp2] at hp
   exact hE _ _ (k1.trans k17) hp.symm
  ·rw[if_neg (by rw[hd]; simp)] at hp2
   rw[hq2,iR (x:=.agg [St y.1.g,St y.1.n,pw2,St y.1.v,N .i64 y.2]) (size:=5) rfl (by show([St y.1.g,St y.1.n,pw2,St y.1.v,N .i64 y.2] : List AV).all oneCell=true; simp[eT,F7.one]) rfl,aF]
   refine nH.app (R:=gP) (a:=y) oc7 ⟨pw2,rfl,F7⟩ (by omega) (by decide) (fun b hb h=>by have:=(hcb b hb).1; omega) (fun b h=>by omega) (by omega) (by omega) ?_
   intro c' M8 o8 k8 n8 _
   rw[add1 (by omega)]
   have k18:ae [] M1 M8:=k17.eU k8 fun d hd=>.inl (by have:=(hcb d hd).1; omega)
   exact mO _ _ _ (by omega) ⟨j + 1,c',Bh++[y],rfl,rfl,by omega,by omega,by simp; omega,k18,by omega,k8.ax h7 (by omega) (fun h=>by have:=(hcb _ h).1; omega),o8,hp2⟩
 ·rw[hv7.len,eY]
  refine bi (fun hd=>?_) (fun hd=>?_)
  ·have hd:ls.length≤j:=by have:=of_decide_eq_true hd; omega
   rw[List.drop_eq_nil_of_le hd,iA] at hp2
   rw[← hp2] at hp
   rw[aX,az h7 rfl]
   exact hE _ _ (k1.trans k17) hp.symm
  ·have hd:j<ls.length:=by have:=of_decide_eq_false hd; omega
   rw[List.getElem?_eq_getElem hd,decide_eq_true hd,Bool.true_and] at hc
   have hc:fE ls[j].1 Jr=true:=by simpa using hc
   rw[List.drop_eq_getElem_cons hd,iA,if_pos hc] at hp2
   rw[← hp2] at hp
   dsimp only at hp
   let S' : Nat→Prop:=fun b=>((M.next≤b∧b ∉ aD w)∨(S b∧b<M.next))∧b<M7.next
   have ho7:eu Ig M7 M.next TS w acc S':=(ho.keep k17 (by simp) (by simp)).mono fun b hb=>⟨hb.1,by omega⟩
   have hcs:bD gP M7 c Bh S':=(oc7.mono (S':=S') fun b hb=>⟨.inr hb,by omega⟩).Cj fun b h1 h2=>⟨.inl ⟨by omega,fun hb=>by have:=(hwb b hb).2; omega⟩,h2⟩
   rw[iR (x:=c) (size:=1) (by rw[hcs.cells]; rfl) (by rw[hcs.cells]; simp[hcs.one]) rfl,aF,hcs.cells]
   refine eu.app (R:=Ig) (a:=Bh) ho7 ⟨c,rfl,hcs,oc7.Qy⟩ (by omega) (by decide) (fun b hb h=>?_) (fun b h=>h.2) (by omega) (by omega) ?_
   ·rcases h.1 with h | h
    ·exact h.2 hb
    ·have:=(hwb b hb).1; omega
   intro w' M8 o8 k8 n8 _ hd8
   rw[add1 (by omega)]
   refine hnext _ _ _ (by omega) ⟨j + 1,w',acc++[Bh],rfl,rfl,by omega,by simp; omega,(k1.trans k17).eU k8 fun d hd=>.inl (hwb d hd).1, ?_,hp⟩
   refine o8.mono fun b hb=>⟨?_,by have:=hb.2; omega⟩
   rcases hb.1 with h | h
   ·exact .inl ⟨h.1,fun hbw=>hd8 b hbw hb⟩
   ·exact .inr h
end Go.Ab.Vc
