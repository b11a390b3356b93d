/- Part 4 of the ground of the proofs of this seat (texts VlG8 to N8). By an AI agent. -/
import Derived.Test.YtoikjkmmdpdkbaaGreatDoorVcr3
import Derived.Lib.IndexAny
import Derived.Lib.SlTrimSet
import Derived.Lib.ItoaLen
import Derived.Lib.AtoiAll
import Derived.RangeFuncRecord
import Derived.RangeFuncSeq
import Derived.OrdersIn
import Derived.LoopNIn
set_option maxRecDepth 10000
set_option linter.unusedVariables false
set_option linter.unusedSimpArgs false
namespace Go.Ab.Vl
open Go Go.Ab
def J4 (B:Base) (f:List UInt8→List UInt8) (c:aj) : Prop:=∀ {M:RM} {s:List UInt8} {Q:ai},M.base=B→s.length≤1000000000→(∀ M',ae [] M M'→Q (St (f s)) M')→c [St s,St gN] M Q
def jO (f:List UInt8→List UInt8) (s:List UInt8) : Bool:=decide (1≤s.length) && decide (s.length≤20) && (f s == [])
def qH (B:Base) (f:List UInt8→List UInt8) (c:aj) : Prop:=∀ {M:RM} {s:List UInt8} {Q:ai},M.base=B→s.length≤1000000000→(∀ M',ae [] M M'→Q (Bo (jO f s)) M')→c [St s] M Q
theorem Ir {B:Base} {f:List UInt8→List UInt8} {ct:aj} (ht:J4 B f ct) : qH B f fun args M Q=>∃ a0,args=[a0]∧nH ct a0 M Q:=by
 intro M s Q hM hl hQ
 refine⟨_,rfl, ?_⟩
 unfold nH
 simp only[dJ]
 rw[bu,fq]
 unfold jO at hQ
 by_cases h1:1≤s.length
 ·have e1:decide ((s.length:Int) ≥ 1)=true:=by simp; omega
  rw[e1]
  by_cases h2:s.length≤20
  ·have e2:decide ((s.length:Int)≤20)=true:=by simp; omega
   simp only[go_sem,e2]
   refine ht hM hl fun M1 k1=>?_
   simp only[go_sem]
   have:=hQ M1 k1
   simpa [h1,h2] using this
  ·have e2:decide ((s.length:Int)≤20)=false:=by simp; omega
   simp only[go_sem,e2]
   simpa [h1,h2] using hQ M (ae.refl _ _)
 ·have e1:decide ((s.length:Int) ≥ 1)=false:=by simp; omega
  rw[e1]
  simp only[go_sem]
  simpa [h1] using hQ M (ae.refl _ _)
def brk (x:UInt8) : List UInt8→Option (List UInt8 × List UInt8)
 | []=>none
 | c :: t=>if c=x then some ([],t) else(brk x t).map fun p=>(c :: p.1,p.2)
theorem sw (x:UInt8) : ∀ s:List UInt8,(brk x s=none∧Lib.indexByte s x=-1∧x ∉ s)∨∃ a b,brk x s=some (a,b)∧Lib.indexByte s x=(a.length:Int)∧s=a++x :: b∧x ∉ a
 | []=>.inl ⟨rfl,rfl,by simp⟩
 | c :: t=>by
   by_cases h:c=x
   ·subst h
    exact .inr ⟨[],t,by simp[brk],by simp[Lib.indexByte],rfl,by simp⟩
   ·have hc:(c == x)=false:=by simpa using h
    rcases sw x t with⟨h1,h2,h4⟩ | ⟨a,b,h1,h2,h3,h4⟩
    ·exact .inl ⟨by simp[brk,h,h1],by simp[Lib.indexByte,hc,h2],by simp[h4,Ne.symm h]⟩
    ·refine .inr ⟨c :: a,b,by simp[brk,h,h1], ?_,by rw[h3]; rfl,by simp[h4,Ne.symm h]⟩
     have:((a.length:Int) == -1)=false:=by simp
     simp[Lib.indexByte,hc,h2,this]
def FW (x:UInt8) (c:aj) : Prop:=∀ {M:RM} {s:List UInt8} {Q:ai},Q (N .i64 (Lib.indexByte s x)) M→c [St s,St [x]] M Q
def ER (x:UInt8) (s:List UInt8) : AV:=match brk x s with
 | some (a,b)=>.tup [St a,St b,Bo true]
 | none=>.tup [St s,St [],Bo false]
def zG (x:UInt8) (c:aj) : Prop:=∀ {M:RM} {s:List UInt8} {Q:ai},s.length≤1000000000→Q (ER x s) M→c [St s,St [x]] M Q
theorem Gi {x:UInt8} {ci:aj} (hi:FW x ci) : zG x fun args M Q=>∃ a0 a1,args=[a0,a1]∧dY ci a0 a1 M Q:=by
 intro M s Q hl hQ
 refine⟨_,_,rfl, ?_⟩
 unfold dY
 refine hi ?_
 unfold ER at hQ
 rcases sw x s with⟨h1,h2,_⟩ | ⟨a,b,h1,h2,h3,_⟩
 ·rw[h1] at hQ
  simp only[go_sem,h2]
  exact⟨fun h=>absurd h (by decide),fun _=>hQ⟩
 ·rw[h1] at hQ
  have hsl:=congrArg List.length h3
  simp at hsl
  rw[h2,fq,show decide ((a.length:Int) ≥ 0)=true by simp]
  refine⟨fun _=>?_,fun h=>by cases h⟩
  rw[gq (by omega)]
  simp only[go_sem]
  rw[show IntKind.wrap .i64 ((a.length:Int) + ((1:Nat) : Int))=((a.length + 1:Nat) : Int) by rw[xR (by omega) (by omega)]; omega]
  rw[bD (by omega)]
  simp only[go_sem]
  rw[h3]
  rw[show(a++x :: b).take a.length=a by simp,show(a++x :: b).drop (a.length + 1)=b by rw[← List.drop_drop]; simp]
  exact hQ
theorem QT {x:UInt8} {ci:aj} (hi:zG x ci) : zG x fun args M Q=>∃ a0 a1,args=[a0,a1]∧kY ci a0 a1 M Q:=by
 intro M s Q hl hQ
 refine⟨_,_,rfl, ?_⟩
 unfold kY
 refine hi hl ?_
 unfold ER at hQ ⊢
 cases h:brk x s with
 | none=>rw[h] at hQ; simpa only[go_sem] using hQ
 | some p=>rw[h] at hQ; simpa only[go_sem] using hQ
theorem get_bt (s:List UInt8) (i:Nat) : ((⟨⟨s⟩⟩ : ByteArray).get! i).toNat=bt s i:=by
 unfold bt
 show((⟨s⟩ : Array UInt8)[i]!).toNat=_
 simp only[getElem!_def]
 rw[List.getElem?_toArray]
 cases h:s[i]? with
 | none=>simp only[List.getD_eq_getElem?_getD,h]; rfl
 | some x=>simp[List.getD_eq_getElem?_getD,h]
theorem ul {s:List UInt8} {i:Nat} (hi:i<s.length) :
  (bt s i<128∧Utf8.decode ⟨⟨s⟩⟩ i=(bt s i,1))∨(128≤bt s i∧128≤(Utf8.decode ⟨⟨s⟩⟩ i).1∧(Utf8.decode ⟨⟨s⟩⟩ i).1<2147483648∧1≤(Utf8.decode ⟨⟨s⟩⟩ i).2∧i + (Utf8.decode ⟨⟨s⟩⟩ i).2≤s.length∧∀ k,i≤k→k<i + (Utf8.decode ⟨⟨s⟩⟩ i).2→128≤bt s k):=by
 have hs:(⟨⟨s⟩⟩ : ByteArray).size=s.length:=rfl
 unfold Utf8.decode
 simp only[get_bt,hs,Nat.add_zero,Utf8.runeError]
 by_cases h0:bt s i<128
 ·exact .inl ⟨h0,by rw[if_pos h0]⟩
 right
 have h8:bt s i<256:=by unfold bt; exact(s.getD i 0).toNat_lt
 refine⟨by omega, ?_⟩
 rw[if_neg h0]
 have one:∀ k,i≤k→k<i + 1→128≤bt s k:=fun k h1 h2=>by
  have:k=i:=by omega
  subst this; omega
 split
 ·rename_i h2
  simp only[Bool.and_eq_true,beq_iff_eq,decide_eq_true_eq] at h2
  split
  ·refine⟨by simpa using ‹_›,by simp; omega,by simp,by simp; omega,fun k h3 h4=>?_⟩
   simp at h4
   rcases Nat.lt_or_ge k (i + 1) with h5 | h5
   ·exact one k h3 h5
   ·have:k=i + 1:=by omega
    subst this; omega
  ·exact⟨by simp,by simp,by simp,by simp; omega,fun k h3 h4=>one k h3 (by simpa using h4)⟩
 ·split
  ·rename_i h3
   simp only[Bool.and_eq_true,beq_iff_eq,decide_eq_true_eq] at h3
   split
   ·rename_i h4
    simp only[Bool.and_eq_true,decide_eq_true_eq,ge_iff_le] at h4
    refine⟨by simp; omega,by simp; omega,by simp,by simp; omega,fun k h5 h6=>?_⟩
    simp at h6
    rcases Nat.lt_or_ge k (i + 1) with h7 | h7
    ·exact one k h5 h7
    ·rcases Nat.lt_or_ge k (i + 2) with h7 | h7
     ·have:k=i + 1:=by omega
      subst this; omega
     ·have:k=i + 2:=by omega
      subst this; omega
   ·exact⟨by simp,by simp,by simp,by simp; omega,fun k h3 h4=>one k h3 (by simpa using h4)⟩
  ·split
   ·rename_i h3
    simp only[Bool.and_eq_true,beq_iff_eq,decide_eq_true_eq] at h3
    split
    ·rename_i h4
     simp only[Bool.and_eq_true,decide_eq_true_eq,ge_iff_le] at h4
     refine⟨by simp; omega,by simp; omega,by simp,by simp; omega,fun k h5 h6=>?_⟩
     simp at h6
     rcases Nat.lt_or_ge k (i + 1) with h7 | h7
     ·exact one k h5 h7
     ·rcases Nat.lt_or_ge k (i + 2) with h7 | h7
      ·have:k=i + 1:=by omega
       subst this; omega
      ·rcases Nat.lt_or_ge k (i + 3) with h7 | h7
       ·have:k=i + 2:=by omega
        subst this; omega
       ·have:k=i + 3:=by omega
        subst this; omega
    ·exact⟨by simp,by simp,by simp,by simp; omega,fun k h3 h4=>one k h3 (by simpa using h4)⟩
   ·exact⟨by simp,by simp,by simp,by simp; omega,fun k h3 h4=>one k h3 (by simpa using h4)⟩
theorem LX {r:Nat} (h:128≤r) : ∃ a x,(Utf8.encode (r:Int)).data.toList=a++[x]∧128≤x.toNat∧1≤a.length∧a.length≤3:=by
 have key:∀ c:Nat,128≤c→∃ a x,(if c<0x80 then(⟨#[UInt8.ofNat c]⟩ : ByteArray) else if c<0x800 then⟨#[UInt8.ofNat (0xC0 + c / 64),UInt8.ofNat (0x80 + c % 64)]⟩
   else if c<0x10000 then⟨#[UInt8.ofNat (0xE0 + c / 4096),UInt8.ofNat (0x80 + c / 64 % 64),UInt8.ofNat (0x80 + c % 64)]⟩
   else⟨#[UInt8.ofNat (0xF0 + c / 262144),UInt8.ofNat (0x80 + c / 4096 % 64),UInt8.ofNat (0x80 + c / 64 % 64),UInt8.ofNat (0x80 + c % 64)]⟩).data.toList=a++[x]∧128≤x.toNat∧1≤a.length∧a.length≤3:=by
  intro c hc
  rw[if_neg (by omega)]
  have hx:128≤(UInt8.ofNat (0x80 + c % 64)).toNat:=by simp; omega
  split
  ·exact⟨[_],_,rfl,hx,by simp,by simp⟩
  ·split
   ·exact⟨[_,_],_,rfl,hx,by simp,by simp⟩
   ·exact⟨[_,_,_],_,rfl,hx,by simp,by simp⟩
 have h2:128≤(if Utf8.valid (r:Int)=true then(r:Int).toNat else Utf8.runeError):=by
  split
  ·simpa using h
  ·decide
 simp only[Utf8.encode]
 generalize (if Utf8.valid (r:Int)=true then(r:Int).toNat else Utf8.runeError)=c at h2 ⊢
 exact key c h2
theorem Iq {s:List UInt8} {x:UInt8} (h:x ∉ s) : Lib.indexByte s x=-1:=by
 rcases sw x s with⟨_,h2,_⟩ | ⟨a,b,_,_,h3,_⟩
 ·exact h2
 ·exact absurd (by rw[h3]; simp) h
def Asc (cs:List UInt8) : Prop:=∀ x∈cs,x.toNat<128
theorem Asc.bt {cs:List UInt8} (h:Asc cs) {i:Nat} (hi:i<cs.length) : bt cs i<128:=by
 rw[← II hi]; exact h _ (List.getElem_mem hi)
def zJ (c:aj) : Prop:=∀ {M:RM} {r:Nat} {Q:ai},(∀ b,Q (Bo b) M)→c [N .i32 (r:Int)] M Q
theorem F6:zJ fun args M Q=>∃ a0,args=[a0]∧iR a0 M Q:=by
 intro M r Q hQ
 refine⟨_,rfl, ?_⟩
 unfold iR
 simp only[dJ,nL]
 simp only[go_sem,decide_true]
 refine⟨fun _=>hQ _,fun _=>?_⟩
 cases decide ((57343:Int)<(r:Int)) with
 | true=>simp only[go_sem]; exact⟨fun _=>hQ _,fun _=>hQ _⟩
 | false=>simp only[go_sem]; exact hQ _
def BZ (cs:List UInt8) (r:Nat) : Int:=if r<128 then Lib.indexByte cs (UInt8.ofNat r) else -1
def xL (cs:List UInt8) (c:aj) : Prop:=∀ {M:RM} {r:Nat} {Q:ai},r<2147483648→(∀ M',ae [] M M'→Q (N .i64 (BZ cs r)) M')→c [St cs,N .i32 (r:Int)] M Q
def lW (cs:List UInt8) (B:Base) (c:aj) : Prop:=∀ {M:RM} {s:List UInt8} {Q:ai},M.base=B→s.length≤1000000000→(∀ M',ae [] M M'→Q (N .i64 (Lib.indexAny s cs)) M')→c [St s,St cs] M Q
theorem GN {cs:List UInt8} {T:Nat} {cr cu cm ct:aj} {M:RM} {s:List UInt8} {Q:ai} (hcs:Asc cs) (h2:2≤cs.length) (hl:cs.length≤1000) (hs:s.length≤8) (hr:xL cs cr)
  (hu:∀ {M:RM} {n:Nat} {Q:ai},Q (Bo (decide (8<n))) M→cu [N .i64 (n:Int)] M Q) (hQ:∀ M',ae [] M M'→Q (N .i64 (Lib.indexAny s cs)) M') : ma cr cu cm T ct (St s) (St cs) M Q:=by
 unfold ma
 have e0:(cs == ([] : List UInt8))=false:=by
  cases cs with
  | nil=>simp at h2
  | cons=>rfl
 have e1:((cs.length:Int) == 1)=false:=by simp; omega
 simp only[dB,go_sem,e0,e1]
 refine yD ?_
 refine hu ?_
 rw[show decide (8<s.length)=false by simp; omega]
 simp only[go_sem]
 refine⟨s,rfl, ?_⟩
 simp only[go_sem]
 refine aP (fun m ys M3=>∃ pos:Nat,m=s.length - pos∧ys=[]∧M3.heap M.next=some (.fQ s pos)∧ae [] M M3∧M.next<M3.next∧pos≤s.length∧Lib.NoAny s cs pos) _
  ⟨0,rfl,rfl,RM.aR _,(ae.refl _ _).push _,by simp[RM.push],Nat.zero_le _,Lib.NoAny.zero _ _⟩ ?_
 rintro next m ys M3 hnext ⟨pos,rfl,rfl,hh,hk,hlt,hple,hno⟩
 refine⟨_,_,_,rfl,hh, ?_⟩
 have Sc:∀ y,ae [] M (M3.put M.next y):=fun y=>hk.put y (.inl (Nat.le_refl _))
 split
 ·rename_i hp
  rcases ul hp with⟨d1,d2⟩ | ⟨d1,d2,d3,d4,d5,d6⟩
  ·rw[d2]
   simp only[go_sem]
   refine hr (by omega) fun M4 k4=>?_
   rw[BZ,if_pos d1]
   have hx:UInt8.ofNat (bt s pos)=s[pos]:=by rw[← II hp]; simp
   rw[hx]
   have hc:=Lib.contains_iff_indexByte cs s[pos]
   simp only[go_sem]
   refine⟨fun h=>?_,fun h=>?_⟩
   ·have h:(0:Int)≤Lib.indexByte cs s[pos]:=by simpa using h
    rw[decide_eq_true h] at hc
    have:=hQ M4 ((Sc _).trans k4)
    rw[Lib.indexAny_hit hno (List.getElem?_eq_getElem hp) hc] at this
    exact this
   ·have h:¬ (0:Int)≤Lib.indexByte cs s[pos]:=by simpa using h
    rw[decide_eq_false h] at hc
    refine hnext _ _ _ (by omega) ⟨pos + 1,rfl,rfl,k4.ax (RM.jJ _ _) (by simpa [RM.nu] using hlt) (by simp),(Sc _).trans k4, ?_,by omega,hno.succ (List.getElem?_eq_getElem hp) hc⟩
    have:=k4.next
    simp[RM.nu] at this; omega
  ·generalize Utf8.decode ⟨⟨s⟩⟩ pos=d at *
   obtain⟨r,n⟩:=d
   simp only at d2 d3 d4 d5 d6
   simp only[go_sem]
   refine hr d3 fun M4 k4=>?_
   rw[BZ,if_neg (by omega)]
   simp only[go_sem,show decide ((-1:Int) ≥ 0)=false from rfl]
   refine hnext _ _ _ (by omega) ⟨pos + n,rfl,rfl,k4.ax (RM.jJ _ _) (by simpa [RM.nu] using hlt) (by simp),(Sc _).trans k4, ?_,by omega,fun j b hj hb=>?_⟩
   ·have:=k4.next
    simp[RM.nu] at this; omega
   ·rcases Nat.lt_or_ge j pos with h | h
    ·exact hno j b h hb
    ·have hjl:j<s.length:=(List.getElem?_eq_some_iff.1 hb).1
     have h7:=d6 j h hj
     rw[← II hjl] at h7
     have h8:s[j]=b:=(List.getElem?_eq_some_iff.1 hb).2
     rw[h8] at h7
     cases hcb:cs.contains b with
     | false=>rfl
     | true =>
       have:=hcs b (by simpa using hcb)
       omega
 ·simp only[go_sem]
  have:pos=s.length:=by omega
  subst this
  rw[Lib.indexAny_none hno] at hQ
  exact hQ M3 hk
def og:List UInt8:=[44,59,58]
def kS (s:List UInt8) : List UInt8 × List UInt8 × Bool :=
 if bE 34 s then match brk 34 (s.drop 1) with
  | some (a,b)=>(a,b,lG [] a)
  | none=>(s.drop 1,[],false)
 else if Lib.indexAny s og<0 then([],[],false)
 else(s.take (Lib.indexAny s og).toNat,s.drop (Lib.indexAny s og).toNat,lG [34] (s.take (Lib.indexAny s og).toNat))
theorem wE:∀ (s cs:List UInt8),Lib.indexAny s cs<(s.length:Int)∨Lib.indexAny s cs=-1
 | [],cs=>.inr rfl
 | b :: s,cs=>by
   have:=wE s cs
   rw[Lib.indexAny]
   split
   ·left; simp only[List.length_cons]; omega
   ·split
    ·right; rfl
    ·rename_i h1 h2
     left
     rcases this with h | h
     ·simp only[List.length_cons]; omega
     ·rw[h] at h2; simp at h2
theorem yA (s:List UInt8) : (kS s).1.length≤s.length∧(kS s).2.1.length≤s.length:=by
 unfold kS
 split
 ·rcases sw 34 (s.drop 1) with⟨h1,_⟩ | ⟨a,b,h1,_,h3,_⟩
  ·rw[h1]; simp
  ·rw[h1]
   have:=congrArg List.length h3
   simp at this ⊢; omega
 ·split
  ·simp
  ·simp; omega
def Kt (B:Base) (c:aj) : Prop:=∀ {M:RM} {s:List UInt8} {Q:ai},M.base=B→s.length≤1000000→(∀ M',ae [] M M'→Q (.tup [St (kS s).1,St (kS s).2.1,Bo (kS s).2.2]) M')→c [St s] M Q
theorem OH {B:Base} {cp cc cg ci:aj} (hp:jo cp) (hc:zG 34 cc) (hg:mJ B cg) (hi:lW og B ci) : Kt B fun args M Q=>∃ a0,args=[a0]∧qM cp cc cg ci a0 M Q:=by
 intro M s Q hM hl hQ
 refine⟨_,rfl, ?_⟩
 unfold qM
 refine hp (by omega) ?_
 unfold AY
 unfold kS at hQ
 cases hh:bE 34 s with
 | true =>
   simp only[hh,if_true] at hQ
   simp only[go_sem,dJ]
   refine hc (by simp; omega) ?_
   unfold ER
   cases hb:brk 34 (s.drop 1) with
   | none =>
     simp only[hb] at hQ
     simp only[go_sem]
     exact hQ M (ae.refl _ _)
   | some p =>
     obtain⟨a,b⟩:=p
     simp only[hb] at hQ
     have:=yA s
     unfold kS at this
     simp only[hh,if_true,hb] at this
     simp only[go_sem]
     refine hg hM (by omega) fun M1 k1=>?_
     exact hQ M1 k1
 | false =>
   simp only[hh,Bool.false_eq_true,if_false] at hQ
   simp only[go_sem,Bool.false_eq_true,if_false]
   refine hi hM (by omega) fun M1 k1=>?_
   have hlt:=wE s og
   generalize Lib.indexAny s og=n at *
   simp only[go_sem]
   refine⟨fun h=>?_,fun h=>?_⟩
   ·have h:n<0:=by simpa using h
    simp only[h,if_true] at hQ
    exact hQ M1 k1
   ·have h:¬ n<0:=by simpa using h
    simp only[h,if_false] at hQ
    obtain⟨k,rfl⟩ : ∃ k:Nat,n=(k:Int):=⟨n.toNat,by omega⟩
    simp only[Int.toNat_natCast] at hQ
    have hk:k≤s.length:=by omega
    rw[gq hk,bD hk]
    simp only[go_sem]
    refine hg (by rw[k1.base,hM]) (by simp; omega) fun M2 k2=>?_
    exact hQ M2 (k1.trans k2)
abbrev jA:=List UInt8 × List (List UInt8)
def iI:jr jA:=jr.pre jd jd.iU.slice
theorem JR {M:RM} {n:List UInt8} {v:AV} {vs:List (List UInt8)} {S:Nat→Prop} (h:bB jd.iU M v vs S) : iI.rel M [St n,v] (n,vs) S:=⟨[v],rfl,v,rfl,h⟩
def ic:Nat→List UInt8→List (List UInt8)→Option (List (List UInt8) × List UInt8)
 | 0,_,_=>none
 | k + 1,s,acc=>match kS (s.drop 1) with
   | (v,after,ok)=>if ok then(if bE 44 after then ic k after (acc++[v]) else some (acc++[v],after)) else none
def mO (f:List UInt8→List UInt8) : Nat→List UInt8→List jA→Option (List jA × List UInt8)
 | 0,_,_=>none
 | k + 1,s,acc=>if bE 59 s then
     (if jO f (((s.drop 1).take (wk (s.drop 1))).map dw) && bE 61 ((s.drop 1).drop (wk (s.drop 1))) then
      match ic ((s.drop 1).drop (wk (s.drop 1))).length ((s.drop 1).drop (wk (s.drop 1))) [] with
      | some (vs,s3)=>mO f k s3 (acc++[(((s.drop 1).take (wk (s.drop 1))).map dw,vs)])
      | none=>none
     else none)
   else some (acc,s)
theorem bg {x:UInt8} {s:List UInt8} (h:bE x s=true) : 1≤s.length:=by
 cases s with
 | nil=>cases h
 | cons=>simp
theorem u6:∀ (k:Nat) (s:List UInt8) (acc vs:List (List UInt8)) (r:List UInt8),1≤s.length→ic k s acc=some (vs,r)→r.length + vs.length≤s.length + acc.length
 | 0,_,_,_,_,_,h=>by cases h
 | k + 1,s,acc,vs,r,h1,h=>by
   rw[ic] at h
   have hl:=yA (s.drop 1)
   generalize kS (s.drop 1)=x at *
   obtain⟨v,after,ok⟩:=x
   simp only[List.length_drop] at hl h
   split at h
   ·split at h
    ·rename_i hh
     have:=u6 k after _ vs r (bg hh) h
     simp at this; omega
    ·cases h; simp; omega
   ·cases h
theorem xH:∀ (n:Nat) (s:List UInt8) (acc:List (List UInt8)) (k:Nat),s.length≤n→1≤s.length→s.length≤k→ic k s acc=ic s.length s acc
 | 0,s,acc,k,h1,h2,h3=>by omega
 | n + 1,s,acc,k,h1,h2,h3=>by
   obtain⟨j,hj⟩ : ∃ j,s.length=j + 1:=⟨s.length - 1,by omega⟩
   obtain⟨i,rfl⟩ : ∃ i,k=i + 1:=⟨k - 1,by omega⟩
   rw[hj,ic,ic]
   have hl:=yA (s.drop 1)
   generalize kS (s.drop 1)=x at *
   obtain⟨v,after,ok⟩:=x
   simp only[List.length_drop] at hl ⊢
   split
   ·split
    ·rename_i hh
     have h4:=bg hh
     rw[xH n after _ i (by omega) h4 (by omega),xH n after _ j (by omega) h4 (by omega)]
    ·rfl
   ·rfl
theorem A8 (f:List UInt8→List UInt8) : ∀ (n:Nat) (s:List UInt8) (acc:List jA) (k:Nat),s.length≤n→s.length + 1≤k→mO f k s acc=mO f (s.length + 1) s acc
 | n,s,acc,k,h1,h3=>by
   obtain⟨i,rfl⟩ : ∃ i,k=i + 1:=⟨k - 1,by omega⟩
   rw[mO,mO]
   split
   ·rename_i h59
    have hpos:=bg h59
    split
    ·rename_i hc
     simp only[Bool.and_eq_true] at hc
     have h61:=bg hc.2
     cases hv:ic ((s.drop 1).drop (wk (s.drop 1))).length ((s.drop 1).drop (wk (s.drop 1))) [] with
     | none=>rfl
     | some p =>
       obtain⟨vs,s3⟩:=p
       have:=u6 _ _ _ _ _ h61 hv
       simp at this
       simp only
       cases n with
       | zero=>omega
       | succ n =>
         rw[A8 f n s3 _ i (by omega) (by omega),A8 f n s3 _ s.length (by omega) (by omega)]
    ·rfl
   ·rfl
def nY (f:List UInt8→List UInt8) (s:List UInt8) : Option (List jA × List UInt8):=mO f (s.length + 1) s []
def F5 (B:Base) (f:List UInt8→List UInt8) (TP:Nat) (c:aj) : Prop:=∀ {M:RM} {s:List UInt8} {Q:ai},M.base=B→s.length≤100000 →
 (∀ M',ae [] M M'→nY f s=none→Q (.tup [aB,St [],Bo false]) M') →
 (∀ v M' ps r,ae [] M M'→nY f s=some (ps,r)→bB iI M' v ps (fun b=>M.next≤b)→ps.length + r.length≤s.length→Q (.tup [v,St r,Bo true]) M')→c [St s] M Q
theorem LW {B:Base} {f:List UInt8→List UInt8} {TP TS:Nat} {ch cw cg cv:aj} (hh:mH ch) (hw:Jc B cw) (hg:qH B f cg) (hv:Kt B cv) :
  F5 B f TP fun args M Q=>∃ a0,args=[a0]∧pz ch TP cw cg cv TS a0 M Q:=by
 intro M s Q hM hl hN hS
 refine⟨_,rfl, ?_⟩
 unfold pz
 simp only[dJ,dB]
 refine aP (fun m ys M3=>∃ (t:List UInt8) (v:AV) (acc:List jA),m=t.length∧ys=[St t,v]∧acc.length + t.length≤s.length∧ae [] M M3 ∧
   eG iI M3 M.next TP v acc (fun b=>M.next≤b∧b<M3.next∧b ∉ aD v)∧mO f (t.length + 1) t acc=nY f s) _
  ⟨s,aB,[],rfl,rfl,by simp,ae.refl _ _,.nil,rfl⟩ ?_
 rintro next m ys M3 hnext ⟨t,v,acc,rfl,rfl,hal,hK,ho,hp⟩
 have hM3:M3.base=B:=by rw[hK.base,hM]
 rw[mO] at hp
 dsimp only[ag]
 refine hh (by omega) ?_
 cases h59:bE 59 t with
 | false =>
   simp only[h59,Bool.false_eq_true,if_false] at hp
   rw[dx]
   refine hS v M3 acc t hK hp.symm ((ho.mono (fun b h=>h.1)).CR (fun b hb _=>hb)) hal
 | true =>
   simp only[h59,if_true] at hp
   have htl:=bg h59
   rw[eZ,aF,show aS (St t) (some (N .i64 1)) none=some (St (t.drop 1)) from bD (l:=1) (by omega) .i64,dI]
   have hb5:(M3.push (.row [St [],aB] false TP 0)).heap M3.next=some (.row [St [],aB] false TP 0):=RM.aR _
   refine hw (by rw[RM.PZ,hM3]) (by simp; omega) fun M4 k4=>?_
   have hb5:=k4.ax hb5 (by simp[RM.push]) (by simp)
   have hn4:M3.next<M4.next:=by have:=k4.next; simp[RM.push] at this; omega
   have kk4:ae [] M3 M4:=((ae.refl _ _).push _).trans k4
   unfold OV
   rw[bG,bJ,iD,Nat.zero_add,BI hb5 (by decide) rfl rfl,iD,Nat.zero_add,az (ay _) rfl]
   generalize ht1:t.drop 1=t1 at *
   have ht1l:t1.length + 1=t.length:=by rw[← ht1]; simp; omega
   have hwk:=vE t1
   generalize wk t1=k at *
   refine hg (by rw[RM.Tf,kk4.base,hM3]) (by simp; omega) fun M5 k5=>?_
   rw[bQ]
   have fail:nY f s=none→Q (.tup [aB,St [],Bo false]) M5:=fun h=>hN M5 ((hK.trans kk4).new _ hK.next |>.trans k5) h
   cases hgn:jO f ((t1.take k).map dw) with
   | false =>
     simp only[hgn,Bool.false_and,Bool.false_eq_true,if_false] at hp
     rw[Bool.not_false,gY]
     dsimp only
     rw[gD,eZ]
     exact fail hp.symm
   | true =>
   rw[Bool.not_true,ko]
   refine hh (by simp; omega) ?_
   rw[bQ]
   cases h61:bE 61 (t1.drop k) with
   | false =>
     simp only[h61,Bool.and_false,Bool.false_eq_true,if_false] at hp
     rw[Bool.not_false,iH,eZ]
     exact fail hp.symm
   | true =>
   simp only[hgn,h61,Bool.and_self,if_true] at hp
   rw[Bool.not_true,iH,dx]
   generalize ht2:t1.drop k=t2 at *
   have ht2l:t2.length≤t1.length:=by rw[← ht2]; simp
   generalize hnm:(t1.take k).map dw=nm at *
   -- the block of this parameter
   have hb5:M5.heap M3.next=some (.row [St nm,aB] false TP 0):=k5.ax (ay _) (by rw[jG]; exact hn4) (by simp)
   have kk5:ae [] M3 M5:=(kk4.new _ (Nat.le_refl _)).trans k5
   have hn5:M3.next<M5.next:=by have:=k5.next; rw[jG] at this; omega
   refine aP (fun m zs M6=>∃ (u:List UInt8) (vs:List (List UInt8)) (w:AV) (more:Bool),m=2 * u.length + (if more then 1 else 0)∧zs=[St u,v,Bo more]∧u.length + vs.length≤t2.length∧ae [] M3 M6∧M5.next≤M6.next ∧
     M6.heap M3.next=some (.row [St nm,w] false TP 0)∧eG jd.iU M6 M5.next TS w vs (fun _=>False) ∧
     (more=true→1≤u.length∧ic u.length u vs=ic t2.length t2 [])∧(more=false→ic t2.length t2 []=some (vs,u))) _
    ⟨t2,[],aB,true,rfl,rfl,by simp,kk5,Nat.le_refl _,hb5,.nil,fun _=>⟨bg h61,rfl⟩,fun h=>by cases h⟩ ?_
   rintro Cf m zs M6 kZ ⟨u,vs,w,more,rfl,rfl,hul,hk6,hn6,hb6,how,hm1,hm2⟩
   dsimp only[ag]
   have hM6:M6.base=B:=by rw[hk6.base,hM3]
   cases more with
   | true =>
     obtain⟨hu1,hvf⟩:=hm1 rfl
     obtain⟨j,hj⟩ : ∃ j,u.length=j + 1:=⟨u.length - 1,by omega⟩
     rw[hj,ic] at hvf
     rw[eZ,show aS (St u) (some (N .i64 1)) none=some (St (u.drop 1)) from bD (l:=1) (by omega) .i64,dI]
     have hvl:=yA (u.drop 1)
     refine hv hM6 (by simp; omega) fun M7 k7=>?_
     generalize kS (u.drop 1)=x at *
     obtain⟨a,after,ok⟩:=x
     simp only[List.length_drop] at hvl hvf
     rw[bG,bJ,gF,bQ]
     dsimp only
     cases ok with
     | false =>
       simp only[Bool.false_eq_true,if_false] at hvf
       rw[Bool.not_false,eZ]
       refine hN M7 (hK.trans (hk6.trans k7)) ?_
       rw[← hp,← hvf]
     | true =>
     simp only[if_true] at hvf
     have hb7:=k7.ax hb6 (by omega) (by simp)
     rw[Bool.not_true,dx,iD,Nat.zero_add,az hb7 rfl,jg (x:=St a) (size:=1) rfl rfl rfl,aF]
     have Y7:=how.keep k7 (by simp) (by simp)
     refine eG.app (R:=jd.iU) (a:=a) (cs:=[St a]) Y7 rfl (by have:=k7.next; omega) (Nat.le_refl _) (by simp) (by simp) (by omega) (by omega) ?_
     intro w' M8 o8 k8 n8 hw8 _
     have hwb:∀ b∈aD w,M5.next≤b:=fun b hb=>(how.blk b hb).1
     have hb8:=k8.ax hb7 (by have:=k7.next; omega) (fun h=>by have:=hwb _ h; omega)
     have Rn:∀ b∈aD w',M5.next≤b:=fun b hb=>(o8.blk b hb).1
     rw[iD,Nat.zero_add,BI hb8 (by simp) o8.cells o8.one]
     refine hh (by omega) ?_
     have k9:ae [] M3 (M8.put M3.next (.row [St nm,w'] false TP 0)):=ae.new ((hk6.trans k7).eD k8 fun c hc=>.inl (by have:=hwb c hc; omega)) _ (Nat.le_refl _)
     refine kZ _ _ _ ?_ ⟨after,vs++[a],w',bE 44 after,rfl,rfl,by simp; omega,k9,by rw[jG]; have:=k7.next; omega,ay _, ?_, ?_, ?_⟩
     ·split <;> simp <;> omega
     ·refine o8.keep (bs:=[M3.next]) ((ae.refl _ _).put _ (.inr (by simp))) (by simp) fun b hb=>?_
      have:=Rn b hb
      simp; omega
     ·intro hmo
      rw[if_pos hmo] at hvf
      refine⟨bg hmo, ?_⟩
      rw[← hvf,xH after.length after _ j (Nat.le_refl _) (bg hmo) (by omega)]
     ·intro hmo
      rw[hmo] at hvf
      simp only[Bool.false_eq_true,if_false] at hvf
      exact hvf.symm
   | false =>
     rw[hm2 rfl] at hp
     simp only at hp
     rw[dx,aN (n:=2) hb6 rfl,jg (x:=.agg [St nm,w]) (size:=2) rfl (by simp[AV.cells,how.one]; rfl) rfl,aF]
     have hvl:=ho.blk
     let S' : Nat→Prop:=fun b=>M.next≤b∧b<M6.next∧b ∉ aD v
     have ho6:eG iI M6 M.next TP v acc S':=(ho.keep hk6 (by simp) (by simp)).mono fun b h=>⟨h.1,by have:=hk6.next; omega,h.2.2⟩
     have hel:iI.rel M6 [St nm,w] (nm,vs) S':=JR ((how.mono (S':=S') (fun _ h=>h.elim)).CR (fun b h1 h2=>⟨by have:=hK.next; omega,h2,fun hb=>by have:=(hvl b hb).2; omega⟩))
     refine eG.app (R:=iI) ho6 hel (by have:=hK.next; have:=hk6.next; omega) (by decide) (fun b hb h=>h.2.2 hb) (fun b h=>h.2.1) (by omega) (by omega) ?_
     intro v' M7 o7 k7 n7 hv7 hd7
     have hvs:=u6 _ _ _ _ _ (bg h61) (hm2 rfl)
     simp at hvs
     refine hnext _ _ _ (by omega) ⟨u,v',acc++[(nm,vs)],rfl,rfl,by simp; omega, ?_, ?_, ?_⟩
     ·exact(hK.trans hk6).eD k7 fun c hc=>.inl (hvl c hc).1
     ·exact o7.mono fun b h=>⟨h.1,by omega,fun hb=>hd7 b hb h⟩
     ·rw[← hp,A8 f u.length u _ t.length (Nat.le_refl _) (by omega)]
structure Ln where
 g:List UInt8
 n:List UInt8
 ps:List jA
 v:List UInt8
 deriving DecidableEq
def gW:jr (Ln × Int) where
 size:=5
 rel M cs a S:=∃ v,cs=[St a.1.g,St a.1.n,v,St a.1.v,N .i64 a.2]∧bB iI M v a.1.ps S
 len h:=by obtain⟨v,rfl,h⟩:=h; rfl
 one h:=by obtain⟨v,rfl,h⟩:=h; simp[h.one,eF]
 mono h hs:=by obtain⟨v,rfl,h⟩:=h; exact⟨v,rfl,h.mono hs⟩
 lt h:=by obtain⟨v,rfl,h⟩:=h; exact⟨v,rfl,h.lt⟩
 keep h hk hb:=by obtain⟨v,rfl,h⟩:=h; exact⟨v,rfl,h.keep hk hb⟩
abbrev lz:List AV:=[St [],St [],aB,St [],N .i64 0]
def dS (s:List UInt8) : List UInt8:=(s.take (wk s)).map dw
theorem Kz (s:List UInt8) : OV s=.tup [St (dS s),St (s.drop (wk s))]:=rfl
def rP (f:List UInt8→List UInt8) (s:List UInt8) : Option (List UInt8 × List UInt8 × List UInt8) :=
 if bE 46 (s.drop (wk s)) then
  (if jO f (dS s) then some (dS s,dS ((s.drop (wk s)).drop 1),((s.drop (wk s)).drop 1).drop (wk ((s.drop (wk s)).drop 1))) else none)
 else some ([],dS s,s.drop (wk s))
def xZ (f:List UInt8→List UInt8) (g n s:List UInt8) : Option Ln :=
 match nY f s with
 | none=>none
 | some (ps,r)=>if jO f n && bE 58 r && lG [] (r.drop 1) then some ⟨g,n,ps,r.drop 1⟩ else none
def iw (f:List UInt8→List UInt8) (s:List UInt8) : Option Ln :=
 if uR s then(match rP f s with
  | none=>none
  | some (g,n,r)=>xZ f g n r)
 else none
def VA (B:Base) (f:List UInt8→List UInt8) (c:aj) : Prop:=∀ {M:RM} {s:List UInt8} {Q:ai},M.base=B→s.length≤10000 →
 (∀ M',ae [] M M'→iw f s=none→Q (.tup [.agg lz,Bo false]) M') →
 (∀ cs M' L,ae [] M M'→iw f s=some L→gW.rel M' cs (L,0) (fun b=>M.next≤b)→Q (.tup [.agg cs,Bo true]) M')→c [St s] M Q
theorem NH {M:RM} {b T:Nat} {l:List AV} {Q:ai} (h:M.heap b=some (.row l false T 0)) (hl:l.length=5) (hQ:Q (.tup [.agg lz,Bo false]) (M.put b (.row lz false T 0))) :
  dV lz [] fun t=>aA M (.ptr b 0) t 5 fun M1=>aH M1 (.ptr b 0) 5 fun res=>Q (.tup [res,Bo false]) M1:=by
 rw[iJ]
 refine⟨_,rfl, ?_⟩
 rw[bK (n:=5) h rfl hl rfl,aN (n:=5) (ay _) rfl]
 exact hQ
theorem Ar {B:Base} {f:List UInt8→List UInt8} {TP TL:Nat} {cvs cw ch cg cp cv:aj} (hvs:KP B cvs) (hw:Jc B cw) (hh:mH ch) (hg:qH B f cg) (hp:F5 B f TP cp) (hv:mJ B cv) :
  VA B f fun args M Q=>∃ a0,args=[a0]∧uj TL cvs cw ch cg cp cv a0 M Q:=by
 intro M s Q hM hl hN hS
 refine⟨_,rfl, ?_⟩
 unfold uj
 simp only[dJ,dB]
 rw[aF]
 have h2:(M.push (.row lz false TL 0)).heap M.next=some (.row lz false TL 0):=RM.aR _
 have k1:ae [] M (M.push (.row lz false TL 0)):=(ae.refl _ _).push _
 have n1:(M.push (.row lz false TL 0)).next=M.next + 1:=rfl
 generalize M.push (.row lz false TL 0)=M1 at *
 refine hvs (by rw[k1.base,hM]) (by omega) ?_
 rw[bQ]
 unfold iw at hN hS
 cases hf:uR s with
 | false =>
   rw[Bool.not_false,eZ]
   exact NH h2 rfl (hN _ (k1.new _ (Nat.le_refl _)) (by simp[hf]))
 | true =>
 simp only[hf,if_true] at hN hS
 rw[Bool.not_true,dx,aF]
 have h4:(M1.push (.row lz false TL 0)).heap (M.next + 1)=some (.row lz false TL 0):=by rw[← n1]; exact RM.aR _
 have h2:(M1.push (.row lz false TL 0)).heap M.next=some (.row lz false TL 0):=uG h2 (by omega)
 have k2:ae [] M (M1.push (.row lz false TL 0)):=k1.push _
 have n2:(M1.push (.row lz false TL 0)).next=M.next + 2:=by rw[bH,n1]
 rw[n1]
 generalize M1.push (.row lz false TL 0)=M2 at *
 refine hw (by rw[k2.base,hM]) (by omega) fun M3 k3=>?_
 rw[Kz]
 have h2:=k3.ax h2 (by omega) (by simp)
 have h4:=k3.ax h4 (by omega) (by simp)
 have n3:=k3.next
 rw[bG,bJ,aU,bM [St [],St (dS s),aB,St [],N .i64 0] h4 (by simp) rfl rfl rfl]
 have k4:ae [] M (M3.put (M.next + 1) (.row [St [],St (dS s),aB,St [],N .i64 0] false TL 0)):=(k2.trans k3).new _ (by omega)
 have h2:=dh (z:=.row [St [],St (dS s),aB,St [],N .i64 0] false TL 0) h2 (show M.next≠M.next + 1 by omega)
 have h4:(M3.put (M.next + 1) (.row [St [],St (dS s),aB,St [],N .i64 0] false TL 0)).heap (M.next + 1)=some (.row [St [],St (dS s),aB,St [],N .i64 0] false TL 0):=ay _
 have n4:M.next + 2≤(M3.put (M.next + 1) (.row [St [],St (dS s),aB,St [],N .i64 0] false TL 0)).next:=by rw[jG]; omega
 generalize M3.put (M.next + 1) (.row [St [],St (dS s),aB,St [],N .i64 0] false TL 0)=M4 at *
 have hdl:=vE s
 refine bI (fun xs M'=>∃ g n r,xs=[St r]∧rP f s=some (g,n,r)∧r.length≤s.length∧n.length≤s.length∧ae [] M M'∧M.next + 2≤M'.next∧M'.heap M.next=some (.row lz false TL 0) ∧
   M'.heap (M.next + 1)=some (.row [St g,St n,aB,St [],N .i64 0] false TL 0)) ?_ ?_
 ·rintro _ M5 ⟨g,n,r,rfl,hhd,hrl,hnl,k5,n5,h2,h4⟩
  rw[hhd] at hN hS
  simp only at hN hS
  unfold xZ at hN hS
  dsimp only[ag]
  have stop:∀ M',ae [] M5 M'→nY f r=none∨(∃ ps q,nY f r=some (ps,q)∧(jO f n && bE 58 q && lG [] (q.drop 1))=false)→dV lz [] fun t=>aA M' (.ptr M.next 0) t 5 fun M1=>aH M1 (.ptr M.next 0) 5 fun res=>Q (.tup [res,Bo false]) M1:=by
   intro M' k' hc
   refine NH (k'.ax h2 (by omega) (by simp)) rfl (hN _ ((k5.trans k').new _ (Nat.le_refl _)) ?_)
   rcases hc with hc | ⟨ps,q,hc,hc2⟩
   ·simp[hc]
   ·rw[hc]; simp only[hc2,Bool.false_eq_true,if_false]
  refine hp (by rw[k5.base,hM]) (by omega) ?_ ?_
  ·intro M6 k6 hpn
   rw[bG,bJ,gF,bQ,Bool.not_false,gY]
   dsimp only
   rw[gD,gY]
   dsimp only
   rw[gD,gY]
   dsimp only
   rw[gD,eZ]
   exact stop M6 k6 (.inl hpn)
  ·intro v M6 ps q k6 hps hsl hlen
   have h4:=k6.ax h4 (by omega) (by simp)
   have n6:=k6.next
   rw[bG,bJ,gF,bQ,Bool.not_true,ko,aU,az h4 rfl]
   refine hg (by rw[k6.base,k5.base,hM]) (by omega) fun M7 k7=>?_
   have h4:=k7.ax h4 (by omega) (by simp)
   have n7:=k7.next
   have k67:=k6.trans k7
   rw[bQ]
   dsimp only
   rw[iH]
   cases hgn:jO f n with
   | false =>
     rw[Bool.not_false,gY]
     dsimp only
     rw[gD,gY]
     dsimp only
     rw[gD,eZ]
     exact stop M7 k67 (.inr ⟨ps,q,hps,by rw[hgn]; rfl⟩)
   | true =>
   rw[Bool.not_true,ko]
   refine hh (by omega) ?_
   rw[bQ]
   dsimp only
   rw[iH]
   cases h58:bE 58 q with
   | false =>
     rw[Bool.not_false,gY]
     dsimp only
     rw[gD,eZ]
     exact stop M7 k67 (.inr ⟨ps,q,hps,by rw[hgn,h58]; rfl⟩)
   | true =>
   have hq1:=bg h58
   rw[Bool.not_true,ko,show aS (St q) (some (N .i64 1)) none=some (St (q.drop 1)) from bD (l:=1) hq1 .i64,dI]
   refine hv (by rw[k7.base,k6.base,k5.base,hM]) (by simp; omega) fun M8 k8=>?_
   have h4:=k8.ax h4 (by omega) (by simp)
   have n8:=k8.next
   have k68:=k67.trans k8
   rw[bQ]
   dsimp only
   rw[iH]
   cases hgv:lG [] (q.drop 1) with
   | false =>
     rw[Bool.not_false,eZ]
     exact stop M8 k68 (.inr ⟨ps,q,hps,by rw[hgn,h58,hgv]; rfl⟩)
   | true =>
   have hs8:=hsl.keep (k7.trans k8) (by simp)
   rw[Bool.not_true,dx,dI,aU,bM [St g,St n,v,St [],N .i64 0] h4 (by simp) hs8.cells hs8.one rfl,dI]
   refine⟨rfl, ?_⟩
   rw[aU,bM [St g,St n,v,St (q.drop 1),N .i64 0] (ay _) (by simp) rfl rfl rfl,aN (n:=5) (ay _) rfl]
   have h2:=dh (z:=.row [St g,St n,v,St (q.drop 1),N .i64 0] false TL 0) (dh (z:=.row [St g,St n,v,St [],N .i64 0] false TL 0) (k68.ax h2 (by omega) (by simp)) (show M.next≠M.next + 1 by omega)) (show M.next≠M.next + 1 by omega)
   rw[bK (n:=5) h2 rfl rfl (by simp[AV.cells,eF,hs8.one]),aN (n:=5) (ay _) rfl]
   refine hS _ _ ⟨g,n,ps,q.drop 1⟩ ?_ (by rw[hps]; simp only[hgn,h58,hgv,Bool.and_self,if_true]) ⟨v,rfl, ?_⟩
   ·exact(((k5.trans k68).new _ (by omega)).new _ (by omega)).new _ (Nat.le_refl _)
   ·refine(hs8.keep (bs:=[M.next,M.next + 1]) ((((ae.refl _ _).put _ (.inr (by simp))).put _ (.inr (by simp))).put _ (.inr (by simp))) ?_).mono fun b hb=>by omega
    intro b hb h
    simp at hb
    omega
 ·intro J hJ
  refine hh (by simp; omega) ?_
  unfold rP at hJ hN
  cases h46:bE 46 (s.drop (wk s)) with
  | false =>
    rw[dx]
    simp only[h46,Bool.false_eq_true,if_false] at hJ
    exact hJ _ _ ⟨[],dS s,_,rfl,rfl,by simp,by simp[dS]; omega,k4,n4,h2,h4⟩
  | true =>
    simp only[h46,if_true] at hJ hN
    rw[eZ,aU,az h4 rfl,aU,bM [St (dS s),St (dS s),aB,St [],N .i64 0] h4 (by simp) rfl rfl rfl,aU,az (ay _) rfl]
    have k5:ae [] M (M4.put (M.next + 1) (.row [St (dS s),St (dS s),aB,St [],N .i64 0] false TL 0)):=k4.new _ (by omega)
    have h2:=dh (z:=.row [St (dS s),St (dS s),aB,St [],N .i64 0] false TL 0) h2 (show M.next≠M.next + 1 by omega)
    have h4:(M4.put (M.next + 1) (.row [St (dS s),St (dS s),aB,St [],N .i64 0] false TL 0)).heap (M.next + 1)=some (.row [St (dS s),St (dS s),aB,St [],N .i64 0] false TL 0):=ay _
    have n5:M.next + 2≤(M4.put (M.next + 1) (.row [St (dS s),St (dS s),aB,St [],N .i64 0] false TL 0)).next:=n4
    generalize M4.put (M.next + 1) (.row [St (dS s),St (dS s),aB,St [],N .i64 0] false TL 0)=M5 at *
    refine hg (by rw[k5.base,hM]) (by simp[dS]; omega) fun M6 k6=>?_
    have h2:=k6.ax h2 (by omega) (by simp)
    have h4:=k6.ax h4 (by omega) (by simp)
    have n6:=k6.next
    rw[bQ]
    cases hgn:jO f (dS s) with
    | false =>
      rw[Bool.not_false,eZ]
      refine NH h2 rfl (hN _ ((k5.trans k6).new _ (Nat.le_refl _)) (by simp[hgn]))
    | true =>
      simp only[hgn,if_true] at hJ
      rw[Bool.not_true,dx,show aS (St (s.drop (wk s))) (some (N .i64 1)) none=some (St ((s.drop (wk s)).drop 1)) from bD (l:=1) (bg h46) .i64,dI]
      refine hw (by rw[k6.base,k5.base,hM]) (by simp; omega) fun M7 k7=>?_
      have h2:=k7.ax h2 (by omega) (by simp)
      have h4:=k7.ax h4 (by omega) (by simp)
      have n7:=k7.next
      rw[Kz,bG,bJ,aU,bM [St (dS s),St (dS ((s.drop (wk s)).drop 1)),aB,St [],N .i64 0] h4 (by simp) rfl rfl rfl]
      have hdl2:=vE ((s.drop (wk s)).drop 1)
      refine hJ _ _ ⟨dS s,dS ((s.drop (wk s)).drop 1),_,rfl,rfl,by simp,by simp[dS]; omega,((k5.trans k6).trans k7).new _ (by omega),by rw[jG]; omega,dh h2 (by omega),ay _⟩
inductive XM where
 | ok (l:List (Ln × Int))
 | bad (k:Int) (e:Int)
def fF (f:List UInt8→List UInt8) : List (List UInt8 × Int)→List (Ln × Int)→XM
 | [],acc=>.ok acc
 | (s,k) :: r,acc=>if s=[] then fF f r acc else if 912<s.length then .bad k 2 else match iw f s with
   | none=>.bad k 3
   | some L=>fF f r (acc++[(L,k)])
def Ji (s:List UInt8) : List (List UInt8 × Int):=(jL [] [] 1 (dE [] s)).1.zip (jL [] [] 1 (dE [] s)).2
def Bp (f:List UInt8→List UInt8) (s:List UInt8) : XM:=fF f (Ji s) []
theorem Lr (acc:List (List UInt8)) (x:List UInt8) : (glue acc x).length=if acc≠[]∧isSp x=true then acc.length else acc.length + 1:=by
 unfold glue
 split
 ·rename_i h; simp
 ·rename_i h; simp
theorem Dx:∀ (xs:List (List UInt8)) (acc:List (List UInt8)) (ns:List Int) (k:Int),acc.length=ns.length→(jL acc ns k xs).1.length=(jL acc ns k xs).2.length
 | [],acc,ns,k,h=>h
 | x :: xs,acc,ns,k,h=>by
   rw[jL]
   refine Dx xs _ _ _ ?_
   rw[Lr]
   split <;> simp[h]
theorem F4:∀ (xs:List (List UInt8)) (acc:List (List UInt8)) (ns:List Int) (k:Int),(jL acc ns k xs).1.length≤acc.length + xs.length
 | [],acc,ns,k=>by simp[jL]
 | x :: xs,acc,ns,k=>by
   rw[jL]
   have:=F4 xs (glue acc x) (if acc≠[]∧isSp x=true then ns else ns++[k]) (IntKind.i64.wrap (k + 1))
   have h:=SE acc x
   simp only[List.length_cons]
   omega
def sN (B:Base) (f:List UInt8→List UInt8) (c:aj) : Prop:=∀ {M:RM} {s:List UInt8} {Q:ai},M.base=B→s.length≤100000000 →
 (∀ v M' ls,ae [] M M'→Bp f s=.ok ls→bB gW M' v ls (fun b=>M.next≤b)→ls.length≤s.length + 1→Q (.tup [v,N .i64 0,N .i64 0]) M') →
 (∀ M' k e,ae [] M M'→Bp f s=.bad k e→Q (.tup [aB,N .i64 k,N .i64 e]) M')→c [St s] M Q
theorem KE {B:Base} {f:List UInt8→List UInt8} {T TI TL:Nat} {cu cr:aj} (hu:Dn T TI cu) (hr:VA B f cr) : sN B f fun args M Q=>∃ a0,args=[a0]∧sQ cu cr TL a0 M Q:=by
 intro M s Q hM hl hS hN
 refine⟨_,rfl, ?_⟩
 unfold sQ
 simp only[dJ,dB]
 refine hu (by omega) fun v u M1 ho1 ho2 hd k1=>?_
 have s1:=ho1.sZ
 have s2:=ho2.sZ
 have hlen:=Dx (dE [] s) [] [] 1 rfl
 have hle:=F4 (dE [] s) [] [] 1
 have hrl:=sW s []
 simp only[List.length_nil,Nat.zero_add] at hle
 unfold Bp Ji at hS hN
 generalize (jL [] [] 1 (dE [] s)).1=xs at *
 generalize (jL [] [] 1 (dE [] s)).2=ns at *
 rw[bG,bJ,dK.len s1]
 refine aP (fun m ys M3=>∃ (i:Nat) (w:AV) (acc:List (Ln × Int)),m=xs.length - i∧ys=[w,N .i64 i]∧i≤xs.length∧acc.length≤i∧ae [] M1 M3 ∧
   eG gW M3 M1.next TL w acc (fun b=>M1.next≤b∧b<M3.next∧b ∉ aD w)∧fF f ((xs.zip ns).drop i) acc=fF f (xs.zip ns) []) _
  ⟨0,aB,[],rfl,rfl,Nat.zero_le _,Nat.le_refl _,ae.refl _ _,.nil,rfl⟩ ?_
 rintro next m ys M3 hnext ⟨i,w,acc,rfl,rfl,hi,hal,hK,ho,hp⟩
 dsimp only[ag]
 rw[lN]
 refine aZ (fun hlt=>?_) (fun hge=>?_)
 ·have hlt:i<xs.length:=by simpa using hlt
  have t1:=dK.keep s1 hK (by simp)
  have t2:=dK.keep s2 hK (by simp)
  have hz:(xs.zip ns).drop i=(xs[i],ns[i]'(by omega)) :: (xs.zip ns).drop (i + 1):=by
   rw[List.drop_eq_getElem_cons (by simp; omega)]; simp
  rw[hz,fF] at hp
  refine bI (fun zs M'=>∃ (w' : AV) (acc' : List (Ln × Int)),zs=[w']∧acc'.length≤i + 1∧ae [] M1 M'∧eG gW M' M1.next TL w' acc' (fun b=>M1.next≤b∧b<M'.next∧b ∉ aD w')∧fF f ((xs.zip ns).drop (i + 1)) acc'=fF f (xs.zip ns) []) ?_ ?_
  ·rintro _ M4 ⟨w',acc',rfl,h1,h2,h3,h4⟩
   dsimp only[ag]
   rw[eH,lT (by omega)]
   exact hnext _ _ _ (by omega) ⟨i + 1,w',acc',rfl,rfl,by omega,h1,h2,h3,h4⟩
  ·intro J hJ
   obtain⟨b,o,hb,hbm,hidx,hc⟩:=Sl.Tq (E:=jd) t1 (i:Int) hlt
   have hc:=hc _ rfl
   rw[hidx,eB]
   refine⟨_,hc, ?_⟩
   rw[fV]
   obtain⟨b2,o2,hb2,hbm2,NB,hc2⟩:=Sl.Tq (E:=INT) t2 (i:Int) (show i<ns.length by omega)
   have hc2:=hc2 _ rfl
   generalize hxi:xs[i]=x at *
   generalize hni:ns[i]'(by omega)=k at *
   refine aZ (fun he=>?_) (fun hne=>?_)
   ·have he:x=[]:=by simpa using he
    rw[if_pos he] at hp
    exact hJ _ _ ⟨w,acc,rfl,by omega,hK,ho,hp⟩
   ·have hne:¬ x=[]:=by simpa using hne
    rw[if_neg hne] at hp
    rw[bu,uK]
    refine aZ (fun hg=>?_) (fun hg=>?_)
    ·have hg:912<x.length:=by simp at hg; omega
     rw[if_pos hg] at hp
     rw[NB,eB]
     exact⟨_,hc2,hN M3 k 2 (k1.trans hK) hp.symm⟩
    ·have hg:¬ 912<x.length:=by simp at hg; omega
     rw[if_neg hg] at hp
     have hM3:M3.base=B:=by rw[hK.base,k1.base,hM]
     refine hr hM3 (by omega) ?_ ?_
     ·intro M4 k4 hrd
      rw[hrd] at hp
      rw[bG,bJ,aF,bK (n:=5) (RM.aR _) rfl rfl rfl,bQ,Bool.not_false,eZ,NB,eB]
      have kk:ae [] M3 ((M4.push (.row lz false TL 0)).put M4.next (.row lz false TL 0)):=(k4.push _).new _ k4.next
      exact⟨_,(kk.cell hb2 (by simp)).trans hc2,hN _ k 3 ((k1.trans hK).trans kk) hp.symm⟩
     ·intro cs M4 L k4 hrd hrel
      rw[hrd] at hp
      obtain⟨pv,rfl,hpv⟩:=hrel
      simp only at hpv hp
      have YD:([St L.g,St L.n,pv,St L.v,N .i64 0] : List AV).all oneCell=true:=by simp[eF,hpv.one]
      have XR:([St L.g,St L.n,pv,St L.v,N .i64 k] : List AV).all oneCell=true:=by simp[eF,hpv.one]
      rw[bG,bJ,aF,bK (n:=5) (x:=.agg [St L.g,St L.n,pv,St L.v,N .i64 0]) (l:=lz) (RM.aR _) rfl rfl YD,bQ,Bool.not_true,dx,NB,eB]
      have k45:ae [] M4 (((M4.push (.row lz false TL 0)).put M4.next (.row [St L.g,St L.n,pv,St L.v,N .i64 0] false TL 0)).put M4.next (.row [St L.g,St L.n,pv,St L.v,N .i64 k] false TL 0)) :=
       (((ae.refl _ _).push _).new _ (Nat.le_refl _)).new _ (Nat.le_refl _)
      have k4' : ae [] M3 ((M4.push (.row lz false TL 0)).put M4.next (.row [St L.g,St L.n,pv,St L.v,N .i64 0] false TL 0)):=(k4.push _).new _ k4.next
      refine⟨_,(k4'.cell hb2 (by simp)).trans hc2, ?_⟩
      rw[aU,bM [St L.g,St L.n,pv,St L.v,N .i64 k] (ay _) (by simp[AV.cells]) rfl rfl rfl,aN (n:=5) (ay _) rfl,jg (x:=.agg [St L.g,St L.n,pv,St L.v,N .i64 k]) (size:=5) rfl XR rfl,aF]
      have n5:(((M4.push (.row lz false TL 0)).put M4.next (.row [St L.g,St L.n,pv,St L.v,N .i64 0] false TL 0)).put M4.next (.row [St L.g,St L.n,pv,St L.v,N .i64 k] false TL 0)).next=M4.next + 1:=rfl
      have n4:=k4.next
      have n3:=hK.next
      have hvl:=ho.blk
      let S' : Nat→Prop:=fun b=>M1.next≤b∧b<M4.next + 1∧b ∉ aD w
      have ho5:=(ho.keep (k4.trans k45) (by simp) (by simp)).mono (S':=S') fun b h=>⟨h.1,by omega,h.2.2⟩
      have hel:=(show gW.rel _ _ (L,k) _ from⟨pv,rfl,(hpv.lt.keep k45 (by simp)).mono (S':=S') fun b h=>⟨by omega,by omega,fun hb=>by have:=(hvl b hb).2; omega⟩⟩)
      refine eG.app (R:=gW) ho5 hel (show M1.next≤M4.next + 1 by omega) (by decide) (fun b hb h=>h.2.2 hb) (fun b h=>(show b<M4.next + 1 from h.2.1)) (by omega) (by omega) ?_
      intro w' M6 o6 k6 n6 _ hd6
      have n6:M4.next + 1≤M6.next:=n6
      refine hJ _ _ ⟨w',acc++[(L,k)],rfl,by simp; omega, ?_,o6.mono fun b h=>⟨h.1,by have:=h.2.1; omega,fun hb=>hd6 b hb h⟩,hp⟩
      exact(hK.trans (k4.trans k45)).eD k6 fun c hc=>.inl (hvl c hc).1
 ·have hge:i=xs.length:=by simp at hge; omega
  subst hge
  rw[List.drop_of_length_le (by simp; omega)] at hp
  refine hS w M3 acc (k1.trans hK) hp.symm ((ho.mono (fun b h=>h.1)).CR (fun b hb _=>hb) |>.mono fun b hb=>Nat.le_trans k1.next hb) (by omega)
def zT (c:UInt8) : Bool:=(decide (97≤c.toNat) && decide (c.toNat≤122)) || (decide (65≤c.toNat) && decide (c.toNat≤90)) || (decide (48≤c.toNat) && decide (c.toNat≤57)) || decide (c.toNat=45)
def wn (s:List UInt8) : Nat:=(s.takeWhile zT).length
theorem nZ {α:Type} (p:α→Bool) : ∀ s:List α,s.drop (s.takeWhile p).length=s.dropWhile p∧s.take (s.takeWhile p).length=s.takeWhile p
 | []=>by simp
 | c :: s=>by
   rw[List.takeWhile_cons,List.dropWhile_cons]
   split
   ·have:=nZ p s
    simp[this.1,this.2]
   ·simp
def bad (n:Nat) : Bool:=decide (n<1) || decide (20<n)
theorem KX (f:List UInt8→List UInt8) (N:Nat) : ∀ (k:Nat) (s:List UInt8) (acc ps:List jA) (r:List UInt8),s.length≤N→(∀ p∈acc,p.2.length≤N)→mO f k s acc=some (ps,r)→ps.length + r.length≤acc.length + s.length∧∀ p∈ps,p.2.length≤N
 | 0,s,acc,ps,r,_,_,h=>by cases h
 | k + 1,s,acc,ps,r,hN,ha,h=>by
   rw[mO] at h
   split at h
   ·rename_i h59
    have hpos:=bg h59
    split at h
    ·rename_i hc
     simp only[Bool.and_eq_true] at hc
     have h61:=bg hc.2
     generalize hk:((s.drop 1).drop (wk (s.drop 1))).length=kk at h
     cases hv:ic kk ((s.drop 1).drop (wk (s.drop 1))) [] with
     | none=>rw[hv] at h; cases h
     | some p =>
       obtain⟨vs,s3⟩:=p
       rw[hv] at h
       have h2:=u6 _ _ _ _ _ h61 hv
       simp at h2
       simp only at h
       have:=KX f N k s3 _ ps r (by omega) (fun p hp=>by
        rcases List.mem_append.1 hp with hp | hp
        ·exact ha p hp
        ·simp at hp; subst hp; simp; omega) h
       refine⟨?_,this.2⟩
       have h3:=this.1
       simp at h3
       omega
    ·cases h
   ·cases h
    exact⟨Nat.le_refl _,ha⟩
def Small (N:Nat) (L:Ln) : Prop:=L.ps.length≤N∧∀ p∈L.ps,p.2.length≤N
theorem LZ {f:List UInt8→List UInt8} {s:List UInt8} {L:Ln} {N:Nat} (hN:s.length≤N) (h:iw f s=some L) : Small N L:=by
 unfold iw at h
 split at h
 ·cases hh:rP f s with
  | none=>rw[hh] at h; cases h
  | some x =>
    obtain⟨g,n,r⟩:=x
    rw[hh] at h
    simp only[xZ] at h
    have hr:r.length≤N:=by
     unfold rP at hh
     split at hh
     ·split at hh
      ·cases hh; simp; omega
      ·cases hh
     ·cases hh; simp; omega
    unfold nY at h
    cases hp:mO f (r.length + 1) r [] with
    | none=>rw[hp] at h; cases h
    | some y =>
      obtain⟨ps,q⟩:=y
      rw[hp] at h
      simp only at h
      split at h
      ·cases h
       have:=KX f N _ r [] ps q hr (by simp) hp
       refine⟨?_,this.2⟩
       have h3:=this.1
       simp at h3 ⊢; omega
      ·cases h
 ·cases h
theorem sO {f:List UInt8→List UInt8} : ∀ (l:List (List UInt8 × Int)) (acc ls:List (Ln × Int)),(∀ x∈acc,Small 912 x.1)→fF f l acc=.ok ls→∀ x∈ls,Small 912 x.1
 | [],acc,ls,ha,h=>by cases h; exact ha
 | (s,k) :: r,acc,ls,ha,h=>by
   rw[fF] at h
   split at h
   ·exact sO r acc ls ha h
   ·split at h
    ·cases h
    ·cases hr:iw f s with
     | none=>rw[hr] at h; cases h
     | some L =>
       rw[hr] at h
       refine sO r _ ls (fun x hx=>?_) h
       rcases List.mem_append.1 hx with hx | hx
       ·exact ha x hx
       ·simp at hx; subst hx
        exact LZ (by omega) hr
theorem K8 {a:List UInt8} (h:∀ b∈a,b.toNat≠13) : strip a=a:=by
 unfold strip
 rw[if_neg]
 intro e
 have:(13:UInt8)∈a:=List.mem_of_mem_drop (by rw[e]; simp)
 exact h _ this rfl
theorem Rx (c:UInt8) : gN.contains (dw c)=zT c:=by
 have key:∀ n:Fin 256,gN.contains (dw (UInt8.ofNat n.val))=zT (UInt8.ofNat n.val):=by decide +kernel
 have:=key ⟨c.toNat,c.toNat_lt⟩
 simpa using this
theorem rq:∀ s:List UInt8,((s.map dw).dropWhile (gN.contains ·)).length + wn s=s.length
 | []=>rfl
 | c :: s=>by
   have ih:=rq s
   unfold wn at *
   rw[List.map_cons,List.dropWhile_cons,List.takeWhile_cons,Rx c]
   cases zT c with
   | true=>simp only[if_true,List.length_cons]; omega
   | false=>simp only[Bool.false_eq_true,if_false,List.length_cons,List.length_map,List.length_nil]
theorem Tm (s:List UInt8) : wk s=wn s:=by
 have:=rq s
 unfold wk; omega
theorem UG (s:List UInt8) : s.take (wn s)=s.takeWhile zT:=(nZ zT s).2
theorem all_takeWhile {α:Type} (p:α→Bool) : ∀ s:List α,∀ x∈s.takeWhile p,p x=true
 | [],x,hx=>by cases hx
 | c :: s,x,hx=>by
   rw[List.takeWhile_cons] at hx
   split at hx
   ·rcases List.mem_cons.1 hx with rfl | hx
    ·assumption
    ·exact all_takeWhile p s x hx
   ·cases hx
theorem Pt {c:UInt8} (h:zT c=true) : c.toNat<128:=by
 simp[zT] at h; omega
abbrev gP:List UInt8→List UInt8:=fun s=>Lib.trimS s gN
theorem ll {x:UInt8} {s:List UInt8} (h:bE x s=true) : s=x :: s.drop 1:=by
 cases s with
 | nil=>cases h
 | cons c s=>simp[bE] at h; subst h; rfl
theorem SY (s:List UInt8) : (Lib.indexAny s og=-1∧∀ x∈s,x ∉ og)∨∃ a c b,s=a++c :: b∧Lib.indexAny s og=(a.length:Int)∧c∈og∧∀ x∈a,x ∉ og:=by
 induction s with
 | nil=>exact .inl ⟨rfl,by simp⟩
 | cons d s ih =>
   rw[Lib.indexAny]
   by_cases hd:d∈og
   ·have:og.contains d=true:=by simpa using hd
    exact .inr ⟨[],d,s,rfl,by rw[if_pos this]; rfl,hd,by simp⟩
   ·have:¬ og.contains d=true:=by simpa using hd
    rw[if_neg this]
    rcases ih with⟨h1,h2⟩ | ⟨a,c,b,rfl,h1,h2,h3⟩
    ·exact .inl ⟨by rw[h1]; rfl,fun x hx=>by rcases List.mem_cons.1 hx with rfl | hx; exact hd; exact h2 x hx⟩
    ·refine .inr ⟨d :: a,c,b,rfl, ?_,h2,fun x hx=>by rcases List.mem_cons.1 hx with rfl | hx; exact hd; exact h3 x hx⟩
     rw[h1]
     have:((a.length:Int) == -1)=false:=by simp
     rw[this]; simp
end Go.Ab.Vl
namespace Go.Ab.Vl
open Go Go.Ab Go.Ab.Sm
def ql (c:UInt8) : UInt8:=if 97≤c.toNat∧c.toNat≤122 then UInt8.ofNat (c.toNat - 32) else c
def K4 (c:aj) : Prop:=∀ {M:RM} {s:List UInt8} {Q:ai},s.length≤1000000000→(∀ M',ae [] M M'→Q (St (s.map ql)) M')→c [St s] M Q
section
variable {f:UInt8→UInt8} {s:List UInt8} {i:Nat}
theorem map_set (hi:i<s.length) (x:UInt8) : ((s.take i).map f++s.drop i).set i x=(s.take i).map f++x :: s.drop (i + 1):=by
 have hl:((s.take i).map f).length=i:=by simp; omega
 rw[List.drop_eq_getElem_cons hi,List.set_append_right _ _ (by omega),hl,Nat.sub_self,List.set_cons_zero]
theorem map_take (hi:i<s.length) : (s.take (i + 1)).map f++s.drop (i + 1)=(s.take i).map f++f s[i] :: s.drop (i + 1):=by
 rw[List.take_succ_eq_append_getElem hi,List.map_append,List.append_assoc]
 rfl
theorem UR (hi:i<s.length) (h:i<((s.take i).map f++s.drop i).length) : ((s.take i).map f++s.drop i)[i]=s[i]:=by
 have hl:((s.take i).map f).length=i:=by simp; omega
 rw[List.getElem_append_right (by omega)]
 simp only[hl,Nat.sub_self,List.getElem_drop,Nat.add_zero]
end
theorem Un {c:UInt8} (h:¬ (97≤c.toNat∧c.toNat≤122)) : ql c=c:=if_neg h
theorem VR {c:UInt8} (h:97≤c.toNat∧c.toNat≤122) : (ql c).toNat=c.toNat - 32:=by
 have:=IL c
 unfold ql
 rw[if_pos h,Qn,Nat.mod_eq_of_lt (by omega)]
theorem Ox {T8:Nat} : K4 fun args M Q=>∃ a0,args=[a0]∧qV T8 a0 M Q:=by
 intro M s Q hl hQ
 refine⟨_,rfl, ?_⟩
 unfold qV
 simp only[dJ,dB]
 rw[qw,aF,uu]
 have k1:ae [] M (M.push (.row (BY.row s) true T8 0)):=(ae.refl _ _).push _
 have o1:Ow BY (M.push (.row (BY.row s) true T8 0)) 0 T8 (.slc M.next 0 s.length (.op 1)) s:=.op M.next s.length _ (Nat.zero_le _) (by rw[bH]; omega) (RM.aR _) (BY.fB _)
 generalize M.push (.row (BY.row s) true T8 0)=M1 at *
 refine aP (fun m ys M3=>∃ i:Nat,m=s.length - i∧ys=[N .i64 (i:Int)]∧i≤s.length∧Ow BY M3 0 T8 (.slc M.next 0 s.length (.op 1)) ((s.take i).map ql++s.drop i)∧ae [] M M3) s.length
  ⟨0,rfl,rfl,Nat.zero_le _,by simpa using o1,k1⟩ ?_
 rintro next m ys M3 hnext ⟨i,rfl,rfl,hi,o3,k3⟩
 dsimp only[ag]
 rw[jC]
 refine aZ (fun hlt=>?_) (fun hge=>?_)
 ·have hlt:i<s.length:=of_decide_eq_true hlt
  have hlen:i<((s.take i).map ql++s.drop i).length:=by simp; omega
  obtain⟨b,hbk,hbl,hix,hld,hst⟩:=RA (E:=BY) rfl o3 hlen
  rw[UR hlt hlen] at hld
  have hbe:M.next=b:=by simpa [aD] using hbk
  refine bI (fun _ M'=>Ow BY M' 0 T8 (.slc M.next 0 s.length (.op 1)) ((s.take (i + 1)).map ql++s.drop (i + 1))∧ae [] M M') ?_ ?_
  ·rintro xs M4 ⟨o4,k4⟩
   rw[add1 (by omega)]
   exact hnext _ _ _ (by omega) ⟨i + 1,rfl,rfl,by omega,o4,k4⟩
  intro J hJ
  have cb:=IL s[i]
  have same:¬ (97≤s[i].toNat∧s[i].toNat≤122)→J [] M3:=fun h=>hJ _ _ ⟨by rw[map_take hlt,Un h,← List.drop_eq_getElem_cons hlt]; exact o3,k3⟩
  rw[hix,hld (By s[i]) rfl,By,fq]
  refine uY (p:=decide ((s[i].toNat:Int)≤122)) (fun _ k hk=>by rw[nL]; exact hk) ?_
  refine aZ (fun hc=>?_) (fun hc=>same ?_)
  ·rw[Bool.and_eq_true,decide_eq_true_eq,decide_eq_true_eq] at hc
   have h:97≤s[i].toNat∧s[i].toNat≤122:=by omega
   obtain⟨M4,o4,e4,hs4⟩:=hst (ql s[i]) (By (ql s[i])) rfl rfl
   have wv:N IntKind.u8 (IntKind.u8.wrap (IntKind.u8.wrap ((s[i].toNat:Int) + 65) - 97))=By (ql s[i]):=by
    rw[By,VR h]
    rw[show IntKind.u8.wrap ((s[i].toNat:Int) + 65)=(s[i].toNat:Int) + 65 from rH (by omega) (by omega)]
    rw[rH (by omega) (by omega)]
    congr 1; omega
   rw[eH,lY,hix,wv,hs4]
   refine hJ _ _ ⟨?_, ?_⟩
   ·rw[map_take hlt,← map_set hlt]; exact o4
   ·rw[e4]; exact k3.put _ (.inl (by omega))
  ·rw[Bool.and_eq_false_iff,decide_eq_false_iff_not,decide_eq_false_iff_not] at hc
   omega
 ·have he:i=s.length:=by
   have:¬ i<s.length:=of_decide_eq_false hge
   omega
  subst he
  rw[List.take_length,List.drop_length,List.append_nil] at o3
  rw[Sl.str (Own.sZ o3)]
  exact hQ M3 k3
def FY (s:List UInt8) : Bool:=s.any fun c=>decide (c∈og)
def Rp (B:Base) (c:aj) : Prop:=∀ {M:RM} {s:List UInt8} {Q:ai},M.base=B→s.length≤1000000000→(∀ M',ae [] M M'→Q (Bo (FY s)) M')→c [St s,St og] M Q
theorem Sr {B:Base} {ci:aj} (hi:lW og B ci) : Rp B fun args M Q=>∃ a0 a1,args=[a0,a1]∧fH ci a0 a1 M Q:=by
 intro M s Q hM hl hQ
 refine⟨_,_,rfl, ?_⟩
 unfold fH
 refine hi hM hl fun M' k=>?_
 have hQ:=hQ M' k
 rw[fq]
 rcases SY s with⟨e,h⟩ | ⟨a,c,b,e1,e2,h1,h2⟩
 ·have:FY s=false:=by
   unfold FY
   rw[List.any_eq_false]
   intro x hx
   simpa using h x hx
  rw[this] at hQ
  rw[e]; exact hQ
 ·have:FY s=true:=by
   unfold FY
   rw[List.any_eq_true]
   exact⟨c,by rw[e1]; simp,by simpa using h1⟩
  rw[this] at hQ
  rw[e2,show decide ((a.length:Int) ≥ 0)=true from decide_eq_true (by omega)]; exact hQ
structure CG (n0 b:Nat) (M M' : RM) : Prop where
 base:M'.base=M.base
 next:M.next≤M'.next
 heap:∀ c,c<n0→c≠b→M'.heap c=M.heap c
 shut:∀ c l e f,c<M.next→c≠b→M.heap c=some (.row l false e f)→M'.heap c=some (.row l false e f)
theorem jc.buf {TB T8 n0 b:Nat} {M:RM} {xs:List UInt8} {buf:AV} (hB:jc TB T8 n0 M b xs) (ho:Ow BY M n0 T8 buf xs) (he:xs=[]→buf=aB) : ∀ c∈aD buf,∀ l e f,M.heap c≠some (.row l false e f):=by
 intro c hc l e f hh
 by_cases hx:xs=[]
 ·rw[he hx] at hc; simp[aD] at hc
 ·obtain⟨d,rfl,_,h3⟩:=Qy (Own.mono ho (Nat.zero_le _)) (List.length_pos_iff.2 hx)
  simp only[aD,List.mem_singleton] at hc
  subst hc
  rw[h3] at hh
  cases hh
theorem jc.keep {TB T8 n0 b:Nat} {M M' : RM} {xs:List UInt8} (hB:jc TB T8 n0 M b xs) (hk:ae [] M M') : jc TB T8 n0 M' b xs:=by
 obtain⟨addr,buf,hh,ha,ho,he⟩:=hB.row
 have:=hB.hn
 have:=hB.lt
 exact⟨hB.lt,Nat.le_trans hB.hn hk.next,addr,buf,hk.ax hh (by omega) (by simp),ha,Own.keep ho hk (by simp),he⟩
theorem CG.keep {n0 b:Nat} {M0 M M' : RM} (h0:ae [] M0 M) (h:CG n0 b M M') (hn:M0.next≤n0) (hb:M0.next≤b) : ae [] M0 M' :=
 ⟨h.base.trans h0.base,Nat.le_trans h0.next h.next,fun c h1 _=>(h.heap c (by omega) (by omega)).trans (h0.heap c h1 (by simp))⟩
def yO (TB T8:Nat) (c:aj) : Prop:=∀ {n0:Nat} {M:RM} {b:Nat} {xs:List UInt8} {x:UInt8} {Q:ai},jc TB T8 n0 M b xs→xs.length + 1≤140737488355328 →
 (∀ M',jc TB T8 n0 M' b (xs++[x])→CG n0 b M M'→Q (.sc .nilIface) M')→c [.ptr b 0,By x] M Q
theorem EG {TB T8:Nat} {c:aj} (hc:wN TB c) : yO TB T8 fun args M Q=>∃ a0 a1,args=[a0,a1]∧dO c T8 a0 a1 M Q:=by
 intro n0 M b xs x Q hB hl hQ
 obtain⟨addr,buf,hh,ha,ho,he⟩:=hB.row
 refine⟨_,_,rfl, ?_⟩
 unfold dO
 refine hc hh ha ho.one fun M1 h1 hnx hbs hot=>?_
 have hbuf:=hB.buf ho he
 have hlt:=hB.lt
 have hn:=hB.hn
 have ho1:Ow BY M1 n0 T8 buf xs:=Own.same ho hnx (fun c hc=>hot c (by have:=ho.blk c hc; omega)) hbs
 simp only[go_sem,RM.cell_of h1]
 rw[jg (x:=By x) (size:=1) rfl rfl rfl]
 simp only[aF]
 refine nT (E:=BY) (a:=x) ho1 (by omega) (Nat.le_refl _) (by omega) hl fun v' M2 h2 k2 hnx2 hv=>?_
 have hb2:b ∉ aD buf:=fun hm=>by have:=ho.blk b hm; omega
 have hh2:=k2.ax h1 (by omega) hb2
 simp only[go_sem,RM.jm hh2]
 rw[Own.cells h2,fT (by simp) (by simp) (by simp[Own.one h2])]
 simp only[go_sem]
 have hne:∀ c∈aD v',c≠b:=fun c hm=>by have:=h2.blk c hm; omega
 refine hQ _ ⟨hlt,by show n0≤M2.next; omega,.ptr b 0,v',RM.jJ _ _,.inr rfl,Own.same h2 rfl (fun c hm=>by simp[go_sem,hne c hm]) rfl,by simp⟩ ⟨?_, ?_,fun c h3 h4=>?_,fun c l e f h3 h4 h5=>?_⟩
 ·exact k2.base.trans hbs
 ·show M.next≤M2.next
  omega
 ·simp only[go_sem,if_neg h4]
  rw[k2.heap c (by omega) (fun hm=>by have:=ho.blk c hm; omega),hot c h4]
 ·simp only[go_sem,if_neg h4]
  rw[k2.heap c (by omega) (fun hm=>hbuf c hm l e f h5),hot c h4,h5]
def uC (TB T8:Nat) (c:aj) : Prop:=∀ {n0:Nat} {M:RM} {b:Nat} {xs s:List UInt8} {Q:ai},jc TB T8 n0 M b xs→xs.length + s.length≤140737488355328 →
 (∀ M',jc TB T8 n0 M' b (xs++s)→CG n0 b M M'→Q (.tup [N .i64 s.length,.sc .nilIface]) M')→c [.ptr b 0,St s] M Q
theorem CJ {TB T8:Nat} {c:aj} (hc:wN TB c) : uC TB T8 fun args M Q=>∃ a0 a1,args=[a0,a1]∧dH c T8 a0 a1 M Q:=by
 intro n0 M b xs s Q hB hl hQ
 obtain⟨addr,buf,hh,ha,ho,he⟩:=hB.row
 refine⟨_,_,rfl, ?_⟩
 unfold dH
 refine hc hh ha ho.one fun M1 h1 hnx hbs hot=>?_
 have hbuf:=hB.buf ho he
 have hlt:=hB.lt
 have hn:=hB.hn
 have ho1:Ow BY M1 n0 T8 buf xs:=Own.same ho hnx (fun c hc=>hot c (by have:=ho.blk c hc; omega)) hbs
 simp only[go_sem,RM.cell_of h1]
 have hnew:mV M1 1 [N .u8 0] false (St s)=some (s.length,BY.row s):=by
  simp only[mV,qC,if_true]
 by_cases hne0:xs++s=[]
 ·obtain⟨rfl,rfl⟩:=List.append_eq_nil_iff.1 hne0
  have hb0:=he rfl
  subst hb0
  refine⟨0,[],hnew,by omega,by omega,aB,M1,by simp[qR], ?_⟩
  simp only[go_sem,RM.jm h1]
  rw[fT (by simp) (by simp) (by simp[oneCell])]
  simp only[go_sem]
  refine hQ _ ⟨hlt,by show n0≤M1.next; omega,.ptr b 0,aB,by simp[go_sem],.inr rfl,.nil,fun _=>rfl⟩ ⟨hbs,by show M.next≤M1.next; omega,fun c h3 h4=>?_,fun c l e f h3 h4 h5=>?_⟩
  ·simp only[go_sem,if_neg h4]
   exact hot c h4
  ·simp only[go_sem,if_neg h4]
   rw[hot c h4,h5]
 refine Cm ho1 (by omega) (Nat.le_refl _) hnew (by rw[BY.fB]; rfl) (BY.jR s) (by omega) (by omega) fun v' M2 h2 k2 hnx2 hv=>?_
 rw[← BY.rD] at h2
 have h2:Ow BY M2 n0 T8 v' (xs++s):=by
  show Own M2 n0 T8 1 v' (BY.row (xs++s)) (xs++s).length
  rw[List.length_append]; exact h2
 have hb2:b ∉ aD buf:=fun hm=>by have:=ho.blk b hm; omega
 have hh2:=k2.ax h1 (by omega) hb2
 simp only[go_sem,RM.jm hh2]
 rw[Own.cells h2,fT (by simp) (by simp) (by simp[Own.one h2])]
 simp only[go_sem]
 have hne:∀ c∈aD v',c≠b:=fun c hm=>by have:=h2.blk c hm; omega
 refine hQ _ ⟨hlt,by show n0≤M2.next; omega,.ptr b 0,v',RM.jJ _ _,.inr rfl,Own.same h2 rfl (fun c hm=>by simp[go_sem,hne c hm]) rfl,fun e=>absurd e hne0⟩ ⟨?_, ?_,fun c h3 h4=>?_,fun c l e f h3 h4 h5=>?_⟩
 ·exact k2.base.trans hbs
 ·show M.next≤M2.next
  omega
 ·simp only[go_sem,if_neg h4]
  rw[k2.heap c (by omega) (fun hm=>by have:=ho.blk c hm; omega),hot c h4]
 ·simp only[go_sem,if_neg h4]
  rw[k2.heap c (by omega) (fun hm=>hbuf c hm l e f h5),hot c h4,h5]
def DK (v:List UInt8) : Bool:=!lG [34] v
def yC (f:List UInt8→List UInt8) (p:jA) : Bool:=!(!jO f p.1 || decide (p.2.length=0) || p.2.any DK)
def CB (f:List UInt8→List UInt8) (L:Ln) : Bool:=!((L.g != []) && !jO f L.g || !jO f L.n || !lG [] L.v) && L.ps.all (yC f)
structure LB (N:Nat) (L:Ln) : Prop where
 g:L.g.length≤N
 n:L.n.length≤N
 v:L.v.length≤N
 ps:L.ps.length≤N
 pn:∀ p∈L.ps,p.1.length≤N
 pl:∀ p∈L.ps,p.2.length≤N
 pv:∀ p∈L.ps,∀ v∈p.2,v.length≤N
theorem GR {M:RM} {v:AV} {ps:List jA} {S:Nat→Prop} (h:bB iI M v ps S) {i:Nat} (hi:i<ps.length) : ∃ pv,bB jd.iU M pv ps[i].2 S∧∀ K:AV→Prop,(bf v (N .i64 (i:Int)) 2 fun p=>aH M p 2 K)=K (.agg [St ps[i].1,pv]):=by
 obtain⟨b,o,cs,hb,hbm,hidx,hld,hrel⟩:=bB.at h 2 (i:Int) hi
 obtain⟨ds,rfl,pv,rfl,hpv⟩:=hrel
 refine⟨pv,hpv,fun K=>?_⟩
 rw[hidx,qz,hld]
 exact propext ⟨fun⟨_,e,hk⟩=>by cases e; exact hk,fun hk=>⟨_,rfl,hk⟩⟩
theorem KT {M:RM} {v:AV} {xs:List (List UInt8)} (h:Sl jd M v xs) {i:Nat} (hi:i<xs.length) {K:AV→Prop} : (bf v (N .i64 (i:Int)) 1 fun p=>ak M p K)=K (St xs[i]):=by
 obtain⟨b,o,_,_,hidx,hc⟩:=Sl.Tq (E:=jd) h (i:Int) hi
 rw[hidx,eB,hc _ rfl]
 simp
section
variable {B:Base}
def Sg (B:Base) (c:aj) : Prop:=∀ {M:RM} {s:List UInt8} {Q:ai},M.base=B→s.length≤1000000000→(∀ M',ae [] M M'→Q (Bo (DK s)) M')→c [St s] M Q
theorem OB {cv:aj} (hv:mJ B cv) : Sg B fun args M Q=>∃ a0,args=[a0]∧pR cv a0 M Q:=by
 intro M s Q hM hl hQ
 refine⟨_,rfl, ?_⟩
 unfold pR
 refine hv hM hl fun M' k=>?_
 rw[bQ]
 exact hQ M' k
def Gy (B:Base) (n:Nat) (c:aj) : Prop:=∀ {M:RM} {v:AV} {xs:List (List UInt8)} {Q:ai},M.base=B→Sl jd M v xs→xs.length≤1000000000→(∀ x∈xs,x.length≤1000000000)→(∀ M',ae [] M M'→Q (Bo (xs.any DK)) M')→c [v,.fn (.func n) [] []] M Q
def FZ (B:Base) (n:Nat) (c:aj) : Prop:=∀ {M:RM} {v:AV} {xs:List (List UInt8)} {Q:ai},M.base=B→Sl jd M v xs→xs.length≤1000000000→(∀ x∈xs,x.length≤1000000000)→(∀ M' (k:Int),ae [] M M'→decide (k ≥ 0)=xs.any DK→Q (N .i64 k) M')→c [v,.fn (.func n) [] []] M Q
theorem Io {n:Nat} {cv:FuncId→aj} (hv:Sg B (cv n)) : FZ B n fun args M Q=>∃ a0 a1,args=[a0,a1]∧mq cv a0 a1 M Q:=by
 intro M v xs Q hM hs hl hxl hQ
 refine⟨_,_,rfl, ?_⟩
 unfold mq
 rw[dK.len hs]
 refine aP (fun m ys M'=>∃ i:Nat,m=xs.length - i∧ys=[N .i64 (i:Int)]∧i≤xs.length∧ae [] M M'∧(xs.drop i).any DK=xs.any DK) xs.length ⟨0,rfl,rfl,Nat.zero_le _,ae.refl _ _,rfl⟩ ?_
 rintro next m ys M1 hnext ⟨i,rfl,rfl,hi,k1,hh⟩
 dsimp only[ag]
 rw[jC]
 refine aZ (fun hlt=>?_) (fun hge=>?_)
 ·have hlt:i<xs.length:=of_decide_eq_true hlt
  rw[KT (dK.keep hs k1 (by simp)) hlt,RH]
  rw[List.drop_eq_getElem_cons hlt,List.any_cons] at hh
  refine hv (k1.base.trans hM) (hxl _ (List.getElem_mem hlt)) fun M2 k2=>?_
  refine aZ (fun hb=>?_) (fun hb=>?_)
  ·rw[hb,Bool.true_or] at hh
   exact hQ M2 _ (k1.trans k2) (by rw[← hh]; exact decide_eq_true (by omega))
  ·rw[hb,Bool.false_or] at hh
   rw[add1 (by omega)]
   exact hnext _ _ _ (by omega) ⟨i + 1,rfl,rfl,by omega,k1.trans k2,hh⟩
 ·have he:i=xs.length:=by
   have:¬ i<xs.length:=of_decide_eq_false hge
   omega
  subst he
  rw[List.drop_length] at hh
  exact hQ M1 _ k1 (by rw[← hh]; rfl)
theorem Dl {n:Nat} {ci:aj} (hi:FZ B n ci) : Gy B n fun args M Q=>∃ a0 a1,args=[a0,a1]∧jX ci a0 a1 M Q:=by
 intro M v xs Q hM hs hl hxl hQ
 refine⟨_,_,rfl, ?_⟩
 unfold jX
 refine hi hM hs hl hxl fun M' k k' he=>?_
 rw[fq,he]
 exact hQ M' k'
def KJ (B:Base) (f:List UInt8→List UInt8) (c:aj) : Prop:=∀ {M:RM} {cs:List AV} {L:Ln} {k:Int} {S:Nat→Prop} {Q:ai},M.base=B→gW.rel M cs (L,k) S→LB 1000000000 L→(∀ M',ae [] M M'→Q (Bo (CB f L)) M')→c [.agg cs] M Q
theorem AB {f:List UInt8→List UInt8} {TL TP n:Nat} {cn cv cc:aj} (hn:qH B f cn) (hv:mJ B cv) (hc:Gy B n cc) : KJ B f fun args M Q=>∃ a0,args=[a0]∧uL TL cn cv TP cc n a0 M Q:=by
 intro M cs L k S Q hM hrel hb hQ
 obtain⟨v,rfl,hps⟩:=hrel
 simp only at hps
 refine⟨_,rfl, ?_⟩
 unfold uL
 simp only[dJ]
 have hall:([St L.g,St L.n,v,St L.v,N .i64 k] : List AV).all oneCell=true:=by simp[eF,hps.one]
 rw[iC hall (by simp),aF]
 have k1:ae [] M (M.push (.row [St L.g,St L.n,v,St L.v,N .i64 k] false TL 0)):=(ae.refl _ _).push _
 have h1:(M.push (.row [St L.g,St L.n,v,St L.v,N .i64 k] false TL 0)).heap M.next=some (.row [St L.g,St L.n,v,St L.v,N .i64 k] false TL 0):=RM.aR _
 have n1:(M.push (.row [St L.g,St L.n,v,St L.v,N .i64 k] false TL 0)).next=M.next + 1:=bH _
 generalize M.push (.row [St L.g,St L.n,v,St L.v,N .i64 k] false TL 0)=M1 at *
 have hk:∀ {M' : RM},ae [] M1 M'→M'.base=B∧M'.heap M.next=some (.row [St L.g,St L.n,v,St L.v,N .i64 k] false TL 0):=fun k'=>⟨(k'.base.trans k1.base).trans hM,k'.ax h1 (by omega) (by simp)⟩
 rw[aU,az h1 rfl,mh]
 refine OX (p:=!jO f L.g) (P:=fun M'=>ae [] M1 M') (ae.refl _ _) (fun _ kk hkk=>?_) (fun M2 k2=>?_)
 ·rw[aU,az h1 rfl]
  refine hn (k1.base.trans hM) hb.g fun M' k'=>?_
  rw[bQ]
  exact hkk _ k'
 refine Oz (p:=!jO f L.n) (P:=fun M'=>ae [] M1 M') k2 (fun _ kk hkk=>?_) (fun M3 k3=>?_)
 ·rw[aU,az (hk k2).2 rfl]
  refine hn (hk k2).1 hb.n fun M' k'=>?_
  rw[bQ]
  exact hkk _ (k2.trans k')
 refine Oz (p:=!lG [] L.v) (P:=fun M'=>ae [] M1 M') k3 (fun _ kk hkk=>?_) (fun M4 k4=>?_)
 ·rw[aU,az (hk k3).2 rfl]
  refine hv (hk k3).1 hb.v fun M' k'=>?_
  rw[bQ]
  exact hkk _ (k3.trans k')
 unfold CB at hQ
 refine aZ (fun hcnd=>?_) (fun hcnd=>?_)
 ·rw[hcnd,Bool.not_true,Bool.false_and] at hQ
  exact hQ _ (k1.trans k4)
 rw[hcnd,Bool.not_false,Bool.true_and] at hQ
 have Tg:bB iI M4 v L.ps S:=(hps.keep k1 (by simp)).keep k4 (by simp)
 rw[aU,az (hk k4).2 rfl,Tg.len]
 refine aP (fun m ys M'=>∃ i:Nat,m=L.ps.length - i∧ys=[N .i64 (i:Int)]∧i≤L.ps.length∧ae [] M1 M'∧(L.ps.drop i).all (yC f)=L.ps.all (yC f)) L.ps.length ⟨0,rfl,rfl,Nat.zero_le _,k4,rfl⟩ ?_
 rintro next m ys M5 hnext ⟨i,rfl,rfl,hi,k5,hh⟩
 dsimp only[ag]
 rw[jC]
 have hpl:=hb.ps
 refine aZ (fun hlt=>?_) (fun hge=>?_)
 ·have hlt:i<L.ps.length:=of_decide_eq_true hlt
  have Js:bB iI M5 v L.ps S:=(hps.keep k1 (by simp)).keep k5 (by simp)
  obtain⟨pv,hpv,hall⟩:=GR Js hlt
  have hmem:=List.getElem_mem hlt
  have b1:=hb.pn _ hmem
  have b2:=hb.pl _ hmem
  have b3:=hb.pv _ hmem
  rw[List.drop_eq_getElem_cons hlt,List.all_cons] at hh
  generalize L.ps[i]=p at *
  rw[hall,aF,bK (n:=2) (RM.aR _) rfl rfl (by simp[eF,AV.cells,hpv.one])]
  have k6:ae [] M5 ((M5.push (.row [St [],aB] false TP 0)).put M5.next (.row (AV.agg [St p.1,pv]).cells false TP 0)):=((ae.refl _ _).push _).put _ (.inl (Nat.le_refl _))
  have h6:((M5.push (.row [St [],aB] false TP 0)).put M5.next (.row (AV.agg [St p.1,pv]).cells false TP 0)).heap M5.next=some (.row [St p.1,pv] false TP 0):=ay _
  have n6:((M5.push (.row [St [],aB] false TP 0)).put M5.next (.row (AV.agg [St p.1,pv]).cells false TP 0)).next=M5.next + 1:=rfl
  generalize (M5.push (.row [St [],aB] false TP 0)).put M5.next (.row (AV.agg [St p.1,pv]).cells false TP 0)=M6 at *
  have k56:=k5.trans k6
  have Nq:bB jd.iU M6 pv p.2 S:=hpv.keep k6 (by simp)
  rw[aU,az h6 rfl]
  refine hn (hk k56).1 b1 fun M7 k7=>?_
  rw[bQ]
  have h7:=k7.ax h6 (by omega) (by simp)
  have Vp:=Nq.keep k7 (by simp)
  have k57:=k56.trans k7
  refine mP (p:=decide (p.2.length=0)) (fun _ kk hkk=>?_) ?_
  ·rw[aU,az h7 rfl,Vp.len,show(N .i64 (0:Int))=N .i64 ((0:Nat) : Int) from rfl,YG]
   exact hkk
  refine Oz (p:=p.2.any DK) (P:=fun M'=>ae [] M1 M') k57 (fun _ kk hkk=>?_) (fun M8 k8=>?_)
  ·rw[aU,az h7 rfl]
   refine hc (hk k57).1 Vp.sl b2 b3 fun M' k'=>?_
   exact hkk _ (k57.trans k')
  refine aZ (fun hc=>?_) (fun hc=>?_)
  ·have:yC f p=false:=by unfold yC; rw[hc]; rfl
   rw[this,Bool.false_and] at hh
   rw[← hh] at hQ
   exact hQ _ (k1.trans k8)
  ·have:yC f p=true:=by unfold yC; rw[hc]; rfl
   rw[this,Bool.true_and] at hh
   rw[add1 (by omega)]
   exact hnext _ _ _ (by omega) ⟨i + 1,rfl,rfl,by omega,k8,hh⟩
 ·have he:i=L.ps.length:=by
   have:¬ i<L.ps.length:=of_decide_eq_false hge
   omega
  subst he
  rw[List.drop_length] at hh
  rw[← hh] at hQ
  exact hQ _ (k1.trans k5)
end
def qv (v:List UInt8) : List UInt8:=if FY v then[34]++v++[34] else v
def tailV (vs:List (List UInt8)) : List UInt8:=vs.flatMap fun v=>44 :: qv v
def oJ:List (List UInt8)→List UInt8
 | []=>[]
 | v :: vs=>qv v++tailV vs
def vL (p:jA) : List UInt8:=[59]++p.1.map ql++[61]++oJ p.2
def nN (L:Ln) : List UInt8:=if L.g=[] then[] else L.g++[46]
def yX (L:Ln) : List UInt8:=L.n.map ql++L.ps.flatMap vL
def jv (L:Ln) : List UInt8:=nN L++yX L++[58]++L.v
def yK (j:Nat) (vs:List (List UInt8)) : List UInt8:=if j=0 then oJ vs else tailV (vs.drop j)
theorem Oo {vs:List (List UInt8)} {j:Nat} (hj:j<vs.length) : yK j vs=(if 0<j then[44] else[])++(qv vs[j]++yK (j + 1) vs):=by
 unfold yK
 rw[if_neg (by omega:¬ j + 1=0)]
 by_cases h:j=0
 ·subst h
  rw[if_pos rfl,if_neg (by omega)]
  cases vs with
  | nil=>simp at hj
  | cons v vs=>simp[oJ]
 ·rw[if_neg h,if_pos (by omega),List.drop_eq_getElem_cons hj]
  unfold tailV
  rw[List.flatMap_cons]
  rfl
theorem PG (vs:List (List UInt8)) : yK vs.length vs=[]:=by
 unfold yK
 cases vs with
 | nil=>rfl
 | cons v vs=>rw[if_neg (by simp),List.drop_length]; rfl
theorem FI {α:Type} {a b c:List α} (h:a++b=c) : a.length + b.length=c.length:=by rw[← h,List.length_append]
theorem bB.old {α:Type} {R:jr α} {M A C:RM} {v:AV} {xs:List α} {S:Nat→Prop} (h:bB R A v xs S) (hS:∀ b,S b→b<M.next) (kA:ae [] M A) (kC:ae [] M C) (n:A.next≤C.next) : bB R C v xs S:=by
 have hk:ae ((List.range A.next).filter fun c=>decide (M.next≤c)) A C:=⟨kC.base.trans kA.base.symm,n,fun c h1 h2=>by
  have h3:c<M.next:=by
   rcases Nat.lt_or_ge c M.next with h | h
   ·exact h
   ·exact absurd (List.mem_filter.2 ⟨List.mem_range.2 h1,decide_eq_true h⟩) h2
  rw[kC.heap c h3 (by simp),kA.heap c h3 (by simp)]⟩
 refine h.keep hk fun b hb hs=>?_
 have h1:=hS b hs
 have h2:=of_decide_eq_true (List.mem_filter.1 hb).2
 omega
structure wQ (TB T8 TL:Nat) (M:RM) (cells:List AV) (M' : RM) (xs:List UInt8) : Prop where
 bld:jc TB T8 (M.next + 2) M' (M.next + 1) xs
 keep:ae [] M M'
 row:M'.heap M.next=some (.row cells false TL 0)
 nx:M.next + 2≤M'.next
section
variable {TB T8 TL:Nat} {M M' M2:RM} {cells:List AV} {xs ys:List UInt8}
theorem wQ.more (h:wQ TB T8 TL M cells M' xs) (k:ae [] M' M2) : wQ TB T8 TL M cells M2 xs :=
 ⟨h.bld.keep k,h.keep.trans k,k.ax h.row (by have:=h.nx; omega) (by simp),Nat.le_trans h.nx k.next⟩
theorem wQ.write (h:wQ TB T8 TL M cells M' xs) (hb:jc TB T8 (M.next + 2) M2 (M.next + 1) ys) (k:CG (M.next + 2) (M.next + 1) M' M2) : wQ TB T8 TL M cells M2 ys :=
 ⟨hb,CG.keep h.keep k (by omega) (by omega),k.shut _ _ _ _ (by have:=h.nx; omega) (by omega) h.row,Nat.le_trans h.nx k.next⟩
end
section
variable {B:Base}
def NQ (B:Base) (c:aj) : Prop:=∀ {M:RM} {cs:List AV} {L:Ln} {k:Int} {S:Nat→Prop} {Q:ai},M.base=B→gW.rel M cs (L,k) S→LB 1000000000 L→(jv L).length≤140737488355328→(∀ M',ae [] M M'→Q (St (jv L)) M')→c [.agg cs] M Q
theorem Pn {TL TB TP T8:Nat} {cw cg cb ca cs:aj} (hw:uC TB T8 cw) (hg:K4 cg) (hb:yO TB T8 cb) (ha:Rp B ca) (hs:su TB T8 cs) : NQ B fun args M Q=>∃ a0,args=[a0]∧sS TL TB cw cg TP cb ca cs a0 M Q:=by
 intro M cs L k S Q hM hrel hB hlen hQ
 obtain⟨v,rfl,hps⟩:=hrel
 simp only at hps
 refine⟨_,rfl, ?_⟩
 unfold sS
 simp only[dB]
 have hall:([St L.g,St L.n,v,St L.v,N .i64 k] : List AV).all oneCell=true:=by simp[eF,hps.one]
 rw[iC hall (by simp),aF,aF]
 have st0:wQ TB T8 TL M [St L.g,St L.n,v,St L.v,N .i64 k] ((M.push (.row [St L.g,St L.n,v,St L.v,N .i64 k] false TL 0)).push (.row [.sc (.pointer none),aB] false TB 0)) [] :=
  ⟨jc.new (RM.aR _) (by omega) (by rw[bH,bH]; omega),((ae.refl _ _).push _).push _,uG (RM.aR _) (by rw[bH]; omega),by rw[bH,bH]; omega⟩
 rw[bH]
 generalize (M.push (.row [St L.g,St L.n,v,St L.v,N .i64 k] false TL 0)).push (.row [.sc (.pointer none),aB] false TB 0)=M1 at *
 have hbase:∀ {M' : RM},ae [] M M'→M'.base=B:=fun h=>h.base.trans hM
 have hW:(jv L).length=(nN L).length + ((L.n.map ql).length + (L.ps.flatMap vL).length) + 1 + L.v.length:=by
  unfold jv yX; simp only[List.length_append,List.length_cons,List.length_nil]
 refine bI (fun _ M'=>wQ TB T8 TL M [St L.g,St L.n,v,St L.v,N .i64 k] M' (nN L)) ?_ ?_
 rotate_left
 ·intro J hJ
  rw[aU,az st0.row rfl,mh]
  refine aZ (fun hc=>?_) (fun hc=>?_)
  ·have hne:L.g≠[]:=by simpa using hc
   have hgl:=hB.g
   have hgj:nN L=L.g++[46]:=if_neg hne
   rw[aU,az st0.row rfl,bL]
   refine⟨by simp; omega, ?_⟩
   refine hw st0.bld (by simp; omega) fun M2 b2 k2=>?_
   refine hJ _ _ ?_
   rw[hgj]
   exact st0.write b2 k2
  ·have he:L.g=[]:=by simpa using hc
   refine hJ _ _ ?_
   have hgj:nN L=[]:=if_pos he
   rw[hgj]
   exact st0
 clear st0
 clear M1
 rintro _ M2 st2
 rw[aU,az st2.row rfl]
 refine hg hB.n fun M3 k3=>?_
 have st3:=st2.more k3
 refine hw st3.bld (by omega) fun M4 b4 k4=>?_
 have st4:=st3.write b4 k4
 clear st2 st3 b4 k4 k3
 have Tg:bB iI M4 v L.ps S:=hps.keep st4.keep (by simp)
 rw[aU,az st4.row rfl,Tg.len]
 generalize hWd:nN L++yX L=W
 have hWl:W.length=(nN L).length + ((L.n.map ql).length + (L.ps.flatMap vL).length):=by
  rw[← hWd]; unfold yX; simp only[List.length_append]
 have X5:=hB.ps
 refine aP (fun m ys M5=>∃ (i:Nat) (xs:List UInt8),m=L.ps.length - i∧ys=[N .i64 (i:Int)]∧i≤L.ps.length∧wQ TB T8 TL M [St L.g,St L.n,v,St L.v,N .i64 k] M5 xs∧xs++(L.ps.drop i).flatMap vL=W) L.ps.length
  ⟨0,_,rfl,rfl,Nat.zero_le _,st4,by rw[← hWd]; unfold yX; rw[List.drop_zero,List.append_assoc]⟩ ?_
 rintro next m ys M5 hnext ⟨i,xs,rfl,rfl,hi,st5,hx⟩
 dsimp only[ag]
 rw[jC]
 refine aZ (fun hlt=>?_) (fun hge=>?_)
 ·have hlt:i<L.ps.length:=of_decide_eq_true hlt
  have Js:bB iI M5 v L.ps (fun b=>S b∧b<M.next):=hps.lt.keep st5.keep (by simp)
  obtain⟨pv,hpv,hall⟩:=GR Js hlt
  have hmem:=List.getElem_mem hlt
  have b1:=hB.pn _ hmem
  have b2:=hB.pl _ hmem
  have b3:=hB.pv _ hmem
  rw[List.drop_eq_getElem_cons hlt,List.flatMap_cons] at hx
  generalize L.ps[i]=p at *
  rw[hall,aF,bK (n:=2) (RM.aR _) rfl rfl (by simp[eF,AV.cells,hpv.one])]
  have k6:ae [] M5 ((M5.push (.row [St [],aB] false TP 0)).put M5.next (.row (AV.agg [St p.1,pv]).cells false TP 0)):=((ae.refl _ _).push _).put _ (.inl (Nat.le_refl _))
  have h6:((M5.push (.row [St [],aB] false TP 0)).put M5.next (.row (AV.agg [St p.1,pv]).cells false TP 0)).heap M5.next=some (.row [St p.1,pv] false TP 0):=ay _
  have n6:((M5.push (.row [St [],aB] false TP 0)).put M5.next (.row (AV.agg [St p.1,pv]).cells false TP 0)).next=M5.next + 1:=rfl
  generalize (M5.push (.row [St [],aB] false TP 0)).put M5.next (.row (AV.agg [St p.1,pv]).cells false TP 0)=M6 at *
  have st6:=st5.more k6
  have nx5:=st5.nx
  have hpj:vL p=[59]++p.1.map ql++[61]++oJ p.2:=rfl
  have hxl:=FI hx
  rw[hpj] at hxl
  simp only[List.length_append,List.length_cons,List.length_nil] at hxl
  rw[aU,az h6 rfl]
  refine hg b1 fun M7 k7=>?_
  have st7:=st6.more k7
  have h7:=k7.ax h6 (by omega) (by simp)
  have n7:=k7.next
  rw[bL]
  refine⟨by simp; omega, ?_⟩
  rw[bL]
  refine⟨by simp; omega, ?_⟩
  refine hw st7.bld (by simp only[List.length_append,List.length_cons,List.length_nil]; omega) fun M8 b8 k8=>?_
  have st8:=st7.write b8 k8
  have h8:=k8.shut _ _ _ _ (by omega) (by omega) h7
  have Vs:bB jd.iU M8 pv p.2 (fun b=>S b∧b<M.next):=bB.old hpv (fun b h=>h.2) st5.keep st8.keep (by have:=k6.next; have:=k8.next; omega)
  rw[aU,az h8 rfl,Vs.len]
  generalize hrest:(L.ps.drop (i + 1)).flatMap vL=rest at *
  refine aP (fun m ys M9=>∃ (j:Nat) (zs:List UInt8),m=p.2.length - j∧ys=[N .i64 (j:Int)]∧j≤p.2.length∧wQ TB T8 TL M [St L.g,St L.n,v,St L.v,N .i64 k] M9 zs∧M8.next≤M9.next∧zs++(yK j p.2++rest)=W) p.2.length
   ⟨0,_,rfl,rfl,Nat.zero_le _,st8,Nat.le_refl _, ?_⟩ ?_
  ·rw[← hx,hpj]
   simp only[List.append_assoc,yK,if_true]
  rintro Cf m ys M9 kZ ⟨j,zs,rfl,rfl,hj,st9,n9,hz⟩
  dsimp only[ag]
  rw[jC]
  refine aZ (fun hlt2=>?_) (fun SN=>?_)
  ·have hlt2:j<p.2.length:=of_decide_eq_true hlt2
   have Ro:bB jd.iU M9 pv p.2 (fun b=>S b∧b<M.next):=bB.old Vs (fun b h=>h.2) st8.keep st9.keep n9
   rw[Oo hlt2] at hz
   have b4:=b3 _ (List.getElem_mem hlt2)
   have hzl:=FI hz
   simp only[List.length_append] at hzl
   refine bI (fun _ M'=>wQ TB T8 TL M [St L.g,St L.n,v,St L.v,N .i64 k] M' (zs++((if 0<j then[44] else[])++qv p.2[j]))∧M9.next≤M'.next) ?_ ?_
   ·rintro _ Ma ⟨sta,na⟩
    rw[add1 (by omega)]
    refine kZ _ _ _ (by omega) ⟨j + 1,_,rfl,rfl,by omega,sta,by omega, ?_⟩
    rw[← hz]
    simp only[List.append_assoc]
   intro J hJ
   rw[KT Ro.sl hlt2]
   generalize p.2[j]=x at *
   refine bI (fun _ M'=>wQ TB T8 TL M [St L.g,St L.n,v,St L.v,N .i64 k] M' (zs++(if 0<j then[44] else[]))∧M9.next≤M'.next) ?_ ?_
   ·rintro _ Ma ⟨sta,na⟩
    refine bI (fun ys M'=>ys=[St (qv x)]∧wQ TB T8 TL M [St L.g,St L.n,v,St L.v,N .i64 k] M' (zs++(if 0<j then[44] else[]))∧M9.next≤M'.next) ?_ ?_
    ·rintro _ Mb ⟨rfl,stb,nb⟩
     dsimp only[ag]
     refine hw stb.bld (by rw[List.length_append]; omega) fun Mc bc kc=>?_
     refine hJ _ _ ⟨?_,Nat.le_trans nb kc.next⟩
     rw[← List.append_assoc]
     exact stb.write bc kc
    intro J2 hJ2
    refine ha (hbase sta.keep) b4 fun Mb kb=>?_
    have stb:=sta.more kb
    have nb:=Nat.le_trans na kb.next
    refine aZ (fun hh=>?_) (fun hh=>?_)
    ·rw[bL]
     refine⟨by simp; omega, ?_⟩
     rw[bL]
     refine⟨by simp; omega, ?_⟩
     exact hJ2 _ _ ⟨by rw[qv,if_pos hh],stb,nb⟩
    ·exact hJ2 _ _ ⟨by rw[qv,if_neg (by rw[hh]; simp)],stb,nb⟩
   intro J2 hJ2
   rw[show(N .i64 (0:Int))=N .i64 ((0:Nat) : Int) from rfl,AP]
   refine aZ (fun hh=>?_) (fun hh=>?_)
   ·have hh:0<j:=of_decide_eq_true hh
    rw[if_pos hh] at hzl hJ2
    simp only[List.length_cons,List.length_nil] at hzl
    show cb [.ptr (M.next + 1) 0,By 44] M9 _
    refine hb st9.bld (by omega) fun Mb bb kb=>?_
    refine hJ2 _ _ ⟨?_,kb.next⟩
    exact st9.write bb kb
   ·have hh:¬ 0<j:=of_decide_eq_false hh
    refine hJ2 _ _ ⟨?_,Nat.le_refl _⟩
    rw[if_neg hh,List.append_nil]; exact st9
  ·have he:j=p.2.length:=by
    have:¬ j<p.2.length:=of_decide_eq_false SN
    omega
   subst he
   rw[PG,List.nil_append] at hz
   rw[add1 (by omega)]
   exact hnext _ _ _ (by omega) ⟨i + 1,zs,rfl,rfl,by omega,st9,by rw[hrest]; exact hz⟩
 ·have he:i=L.ps.length:=by
   have:¬ i<L.ps.length:=of_decide_eq_false hge
   omega
  subst he
  rw[List.drop_length,List.flatMap_nil,List.append_nil] at hx
  subst hx
  rw[aU,az st5.row rfl]
  refine hs st5.bld (by omega) fun M6 k6=>?_
  have h6:M6.heap M.next=some (.row [St L.g,St L.n,v,St L.v,N .i64 k] false TL 0):=by rw[k6.heap _ (by omega) (by simp)]; exact st5.row
  rw[az h6 rfl]
  refine⟨rfl, ?_⟩
  rw[bL]
  refine⟨by simp; omega, ?_⟩
  rw[bL]
  refine⟨by simp; omega, ?_⟩
  have kk:ae [] M M6:=⟨k6.base.trans st5.keep.base,Nat.le_trans st5.keep.next k6.next,fun c h1 _=>by rw[k6.heap c (by omega) (by simp)]; exact st5.keep.heap c h1 (by simp)⟩
  have:=hQ M6 kk
  unfold jv at this
  rw[hWd] at this
  exact this
end
def jw (f:List UInt8→List UInt8) (L:Ln) : List UInt8 × Int:=if CB f L then(if 912<(jv L).length then([],2) else(fo 0 (jv L)++[13,10],0)) else([],1)
section
variable {B:Base}
def ED (B:Base) (F:Ln→List UInt8 × Int) (c:aj) : Prop:=∀ {M:RM} {cs:List AV} {L:Ln} {k:Int} {S:Nat→Prop} {Q:ai},M.base=B→gW.rel M cs (L,k) S→LB 1000000000 L→(jv L).length≤140737488355328→(∀ M',ae [] M M'→Q (.tup [St (F L).1,N .i64 (F L).2]) M')→c [.agg cs] M Q
theorem Ua (s:List UInt8) : (fo 0 s).length≤4 * s.length + 4:=by
 have:=FJ s.length (u:=0) (s:=s) (Nat.le_refl _)
 omega
theorem NV {f:List UInt8→List UInt8} {TL:Nat} {cg cl cf:aj} (hg:KJ B f cg) (hl:NQ B cl) (hf:QI B cf) : ED B (jw f) fun args M Q=>∃ a0,args=[a0]∧qO TL cg cl cf a0 M Q:=by
 intro M cs L k S Q hM hrel hB hlen hQ
 refine⟨_,rfl, ?_⟩
 unfold qO
 have hsz:cs.length=5:=gW.len hrel
 rw[iC (gW.one hrel) (by omega),aF]
 have k1:ae [] M (M.push (.row cs false TL 0)):=(ae.refl _ _).push _
 have h1:(M.push (.row cs false TL 0)).heap M.next=some (.row cs false TL 0):=RM.aR _
 have n1:(M.push (.row cs false TL 0)).next=M.next + 1:=bH _
 generalize M.push (.row cs false TL 0)=M1 at *
 unfold jw at hQ
 rw[aN (n:=5) h1 hsz]
 refine hg (k1.base.trans hM) (gW.keep hrel k1 (by simp)) hB fun M2 k2=>?_
 have k12:=k1.trans k2
 have h2:=k2.ax h1 (by omega) (by simp)
 rw[bQ]
 refine aZ (fun hc=>?_) (fun hc=>?_)
 ·have hc:CB f L=false:=by simpa using hc
  rw[if_neg (by rw[hc]; simp)] at hQ
  exact hQ M2 k12
 have hc:CB f L=true:=by simpa using hc
 rw[if_pos hc] at hQ
 rw[aN (n:=5) h2 hsz]
 refine hl (k12.base.trans hM) (gW.keep hrel k12 (by simp)) hB hlen fun M3 k3=>?_
 have k13:=k12.trans k3
 rw[bu,show(N .i64 (912:Int))=N .i64 ((912:Nat) : Int) from rfl,AP]
 refine aZ (fun hc=>?_) (fun hc=>?_)
 ·rw[if_pos (of_decide_eq_true hc)] at hQ
  exact hQ M3 k13
 have hc:=of_decide_eq_false hc
 rw[if_neg (by omega)] at hQ
 refine hf (k13.base.trans hM) (by omega) fun M4 k4=>?_
 rw[bL]
 have:=Ua (jv L)
 exact⟨by simp; omega,hQ M4 (k13.trans k4)⟩
end
end Go.Ab.Vl
namespace Go.Ab.Vl
open Go Go.Ab
def Eo (f:List UInt8→List UInt8) (s:List UInt8) : List (Ln × Int) × Int × Int:=match Bp f s with
 | .ok ls=>(ls,0,0)
 | .bad k e=>([],k,e)
def YJ (B:Base) (f:List UInt8→List UInt8) (c:aj) : Prop:=∀ {M:RM} {s:List UInt8} {Q:ai},M.base=B→s.length≤100000000 →
 (∀ v M',ae [] M M'→bB gW M' v (Eo f s).1 (fun b=>M.next≤b)→(Eo f s).1.length≤s.length + 1→(∀ x∈(Eo f s).1,Small 912 x.1)→Q (.tup [v,N .i64 (Eo f s).2.1,N .i64 (Eo f s).2.2]) M')→c [St s] M Q
theorem sN.one {B:Base} {f:List UInt8→List UInt8} {c:aj} (h:sN B f c) : YJ B f c:=by
 intro M s Q hM hl hQ
 refine h hM hl ?_ ?_
 ·intro v M' ls k hls hsl hle
  have e:Eo f s=(ls,0,0):=by unfold Eo; rw[hls]
  rw[e] at hQ
  exact hQ v M' k hsl hle (sO _ _ _ (by simp) hls)
 ·intro M' k e kk hb
  have he:Eo f s=([],k,e):=by unfold Eo; rw[hb]
  rw[he] at hQ
  exact hQ aB M' kk bB.nil (by simp) (by simp)
theorem PX {c:UInt8} (h:mo c=true) : c.toNat≠10∧c.toNat≠13:=by
 unfold mo at h
 simp only[Bool.or_eq_true,Bool.and_eq_true,decide_eq_true_eq] at h
 omega
theorem RQ {x:List UInt8} (h:∀ c∈x,c.toNat≠13) : strip x=x:=by
 unfold strip
 split
 ·rename_i e
  have:(13:UInt8)∈x:=List.mem_of_mem_drop (by rw[e]; simp)
  exact absurd rfl (h 13 this)
 ·rfl
theorem PV (v:List UInt8) : (qv v).length≤v.length + 2:=by
 unfold qv; split
 ·simp
 ·omega
end Go.Ab.Vl
namespace Go.Ab.Vl
open Go Go.Ab Go.Ab.Sm
theorem LB.mono {N K:Nat} {L:Ln} (h:LB N L) (hk:N≤K) : LB K L :=
 ⟨Nat.le_trans h.g hk,Nat.le_trans h.n hk,Nat.le_trans h.v hk,Nat.le_trans h.ps hk,fun p hp=>Nat.le_trans (h.pn p hp) hk,fun p hp=>Nat.le_trans (h.pl p hp) hk,fun p hp v hv=>Nat.le_trans (h.pv p hp v hv) hk⟩
end Go.Ab.Vl
namespace Go.Ab.Vc
open Go Go.Ab
abbrev Str:=List UInt8
abbrev J7:=Str × Nat × Nat
def toC (t:J7) : AV × AV × Nat:=(St t.1,N .i64 (t.2.1:Int),t.2.2)
def oW:List J7→Str→Option Nat
 | [],_=>none
 | t :: T,s=>if s=t.1 then some t.2.1 else oW T s
def F9 (s:Str) (v:Nat) : List J7→List J7
 | []=>[]
 | t :: T=>if s=t.1 then(s,v,t.2.2) :: T else t :: F9 s v T
theorem JS (s:Str) : ∀ (T:List J7) (i:Nat),(oW T s=none∧lC false [2] [St s] (T.map toC) i=some none) ∨
  ∃ j v,oW T s=some v∧lC false [2] [St s] (T.map toC) i=some (some (i + j,N .i64 ((v:Nat) : Int)))∧∀ w:Nat,DW (St s) (N .i64 (w:Int)) (T.map toC) j=(F9 s w T).map toC
 | [],i=>.inl ⟨rfl,rfl⟩
 | t :: T,i=>by
   simp only[List.map_cons,toC,lC,fu,oW,F9]
   rw[if_pos (show([St t.1] : List AV).length=([2] : List Nat).length from rfl),yL]
   by_cases hs:s=t.1
   ·simp only[if_pos hs,EM]
    exact .inr ⟨0,t.2.1,rfl,rfl,fun w=>rfl⟩
   ·simp only[if_neg hs]
    rcases JS s T (i + 1) with⟨h1,h2⟩ | ⟨j,v,h1,h2,h3⟩
    ·exact .inl ⟨h1,h2⟩
    ·refine .inr ⟨j + 1,v,h1,by rw[h2,show i + 1 + j=i + (j + 1) by omega],fun w=>?_⟩
     rw[DW,h3 w]; rfl
theorem PQ (s x:Str) (w:Nat) : ∀ (T:List J7) {v:Nat},oW T s=some v→oW (F9 s w T) x=if x=s then some w else oW T x
 | [],v,h=>by cases h
 | t :: T,v,h=>by
   rw[oW] at h
   rw[F9,oW]
   by_cases hs:s=t.1
   ·rw[if_pos hs,oW]
    by_cases hx:x=s
    ·rw[if_pos hx,if_pos hx]
    ·rw[if_neg hx,if_neg hx,if_neg (fun e=>hx (e.trans hs.symm))]
   ·rw[if_neg hs] at h
    rw[if_neg hs,oW,PQ s x w T h]
    by_cases hx:x=t.1
    ·rw[if_pos hx,if_pos hx,if_neg (fun e=>hs (e.symm.trans hx))]
    ·rw[if_neg hx,if_neg hx]
theorem Ng (s x:Str) (w k:Nat) : ∀ (T:List J7),oW T s=none→oW (T++[(s,w,k)]) x=if x=s then some w else oW T x
 | [],_=>rfl
 | t :: T,h=>by
   rw[oW] at h
   by_cases hs:s=t.1
   ·rw[if_pos hs] at h; cases h
   ·rw[if_neg hs] at h
    rw[List.cons_append,oW,Ng s x w k T h,oW]
    by_cases hx:x=t.1
    ·rw[if_pos hx,if_pos hx,if_neg (fun e=>hs (e.symm.trans hx))]
    ·rw[if_neg hx,if_neg hx]
structure jT (M:RM) (mb:Nat) (f:Str→Nat) : Prop where
 lt:mb<M.next
 ex:∃ T cl,M.heap mb=some (.map (T.map toC) cl)∧∀ s,f s=(oW T s).getD 0
section
variable {M M' : RM} {mb:Nat} {f:Str→Nat} {ks:List Nat} {s:Str}
theorem jT.keep (h:jT M mb f) (k:ae ks M M') (hd:mb ∉ ks) : jT M' mb f :=
 ⟨Nat.lt_of_lt_of_le h.lt k.next,let ⟨T,cl,h1,h2⟩:=h.ex; ⟨T,cl,k.ax h1 h.lt hd,h2⟩⟩
theorem jT.look (h:jT M mb f) {K:AV→Prop} (hK:K (N .i64 (f s:Int))) : si false [2] (N .i64 (0:Int)) false M (.map mb) (St s) K:=by
 obtain⟨T,cl,h1,h2⟩:=h.ex
 have h2:=h2 s
 rcases JS s T 0 with⟨a1,a2⟩ | ⟨j,v,a1,a2,a3⟩
 ·rw[a1] at h2
  refine⟨mb,_,cl,[St s],none,rfl,h1,rfl,rfl,a2, ?_⟩
  rw[h2] at hK; exact hK
 ·rw[a1] at h2
  refine⟨mb,_,cl,[St s],_,rfl,h1,rfl,rfl,a2, ?_⟩
  rw[h2] at hK; exact hK
theorem jT.upd (h:jT M mb f) {w:Nat} {K:RM→Prop} (hK:∀ M',jT M' mb (fun x=>if x=s then w else f x)→ae [mb] M M'→M'.next=M.next→K M') : wM false [2] M (.map mb) (St s) (N .i64 (w:Int)) K:=by
 obtain⟨T,cl,h1,h2⟩:=h.ex
 rcases JS s T 0 with⟨a1,a2⟩ | ⟨j,v,a1,a2,a3⟩
 ·refine⟨mb,_,cl,[St s],none,rfl,h1,rfl,rfl,a2,hK _ ⟨h.lt,T++[(s,w,cl)],cl + 1, ?_,fun x=>?_⟩ ((ae.refl _ _).put _ (.inr (by simp))) rfl⟩
  ·rw[ay]; simp[Rk,toC]
  ·rw[Ng s x w cl T a1,h2 x]; split <;> rfl
 ·refine⟨mb,_,cl,[St s],_,rfl,h1,rfl,rfl,a2,hK _ ⟨h.lt,F9 s w T,cl, ?_,fun x=>?_⟩ ((ae.refl _ _).put _ (.inr (by simp))) rfl⟩
  ·rw[ay]; simp only[Rk,Nat.zero_add]; rw[a3 w]
  ·rw[PQ s x w T a1,h2 x]; split <;> rfl
theorem jT.new (M:RM) : jT (M.push (.map [] 0)) M.next (fun _=>0):=⟨Nat.lt_succ_self _,[],0,RM.aR _,fun s=>rfl⟩
end
end Go.Ab.Vc
namespace Go.Ab.Vc
open Go Go.Ab Go.Ab.Vl Go.Ab.Sm
def mi:Str:=[44,59,58,35]
def Gb (s:Str) : Bool:=s.any fun c=>decide (c∈mi)
def q4 (v:Str) : Str:=if Gb v then[34]++v++[34] else v
def zI (vs:List Str) : Str:=vs.flatMap fun v=>44 :: q4 v
def Cj:List Str→Str
 | []=>[]
 | v :: vs=>q4 v++zI vs
def Ea (p:jA) : Str:=[59]++p.1++[61]++Cj p.2
def Ch (ps:List jA) : Str:=ps.flatMap Ea
def fU (L:Ln) : Str:=nN L++(L.n++Ch L.ps)
abbrev lQ:Str:=[114,97,119]
abbrev tL:Str:=[98,101,103,105,110]
abbrev iB:Str:=[118,101,114,115,105,111,110]
abbrev La:Str:=[101,110,100]
abbrev wD:Str:=[117,105,100]
abbrev bX:Str:=[118,99,97,114,100]
abbrev TM:Str:=[52,46,48]
def MF:List Str:=[[102,110],[110,105,99,107,110,97,109,101],[116,101,108],[101,109,97,105,108],[110,111,116,101],[111,114,103],[116,105,116,108,101],[114,111,108,101],[99,97,116,101,103,111,114,105,101,115]]
def xE (n:Str) : Bool:=decide (n∈MF)
def Gr (n:Str) : Bool:=decide (n=tL) || decide (n=iB) || decide (n=La)
abbrev Fd:=Str × Str
def bC (L:Ln) : Fd :=
 if xE L.n then match eU L.v with
  | some s=>if esc s=L.v then(fU L,s) else(lQ++[46]++fU L,L.v)
  | none=>(lQ++[46]++fU L,L.v)
 else(fU L,L.v)
def kJ (n:Str) (k:Int) : Str:=if k=0 then n else n++[35]++Lib.itoa (IntKind.wrap .i64 (k + 1))
def iV (L:Ln) (k:Int) : Fd × Bool :=
 if (jw gP L).2=0∧L.g≠lQ∧Gr L.n=false∧0≤k then((kJ (bC L).1 k,(bC L).2),true) else(([],[]),false)
def fI (L:Ln) (name:Str) : Bool :=
 decide (L.n=name) && decide (L.g=[]) && decide (L.ps.length=0) && (if name=iB then decide (L.v=TM) else decide (L.v.map dw=bX))
def eu (b:Int) : List (Ln × Int)→List (Ln × Int)→Except Int (List (Ln × Int) × List (Ln × Int))
 | [],_=>.error b
 | x :: r,acc=>if fI x.1 La then .ok (acc,r) else if Gr x.1.n || decide (x.1.g=lQ) then .error x.2 else eu b r (acc++[x])
def iW:Nat→List (Ln × Int)→List (List (Ln × Int))→Except Int (List (List (Ln × Int)))
 | 0,_,acc=>.ok acc
 | _ + 1,[],acc=>.ok acc
 | k + 1,x :: r,acc=>if fI x.1 tL=false then .error x.2 else match r with
   | []=>.error x.2
   | y :: r=>if fI y.1 iB=false then .error y.2 else match eu x.2 r [x] with
     | .error e=>.error e
     | .ok (c,r')=>iW k r' (acc++[c])
abbrev Cd:=Str × List Fd × Int
def eQ (ns:List Str) (n:Str) : Nat:=ns.countP (· = n)
def lF:List (Ln × Int)→List Str→List Fd→Except (Int × Int) (List Fd)
 | [],_,acc=>.ok acc
 | x :: r,ns,acc =>
   if 64<(kJ (bC x.1).1 (eQ ns (bC x.1).1)).length∨512<(bC x.1).2.length then .error (x.2,2)
   else lF r (ns++[(bC x.1).1]) (acc++[(kJ (bC x.1).1 (eQ ns (bC x.1).1),(bC x.1).2)])
def pq (fs:List Fd) : Str:=fs.flatMap fun p=>p.1++[0]++p.2++[0]
def lJ (h:Str→Str) (ls:List (Ln × Int)) (all:Str) : Str:=match ls.find? fun x=>decide (x.1.n=wD) && decide (x.1.g=[]) with
 | some x=>if 1≤x.1.v.length∧x.1.v.length≤64 then x.1.v else[99,45]++(h all).take 16
 | none=>[99,45]++(h all).take 16
def lL (h:Str→Str) : List (Ln × Int)→Except (Int × Int) Cd
 | []=>.error (0,0)
 | b :: ls=>match lF ls [] [] with
   | .error e=>.error e
   | .ok fs=>.ok (lJ h ls (pq fs),fs,b.2)
def fZ (h:Str→Str) : List (List (Ln × Int))→List Cd→Except (Int × Int) (List Cd)
 | [],acc=>.ok acc
 | l :: r,acc=>match lL h l with
   | .error e=>.error e
   | .ok c=>fZ h r (acc++[c])
def lZ (h:Str→Str) (s:Str) : Except (Int × Int) (List Cd):=match Bp gP s with
 | .bad k e=>.error (k,e)
 | .ok ls=>match iW (ls.length + 1) ls [] with
   | .error w=>.error (w,3)
   | .ok cs=>fZ h cs []
def dU (s:Str) : Str × Str:=(s.takeWhile (gN.contains ·),s.dropWhile (gN.contains ·))
def qL (s:Str) : Str × Str × Bool :=
 if bE 34 s then match brk 34 (s.drop 1) with
  | some (a,b)=>(a,b,true)
  | none=>(s.drop 1,[],false)
 else if Lib.indexAny s mi<0 then(s,[],true) else(s.take (Lib.indexAny s mi).toNat,s.drop (Lib.indexAny s mi).toNat,true)
def iE:Nat→Str→List Str→Option (List Str × Str)
 | 0,_,_=>none
 | k + 1,s,acc=>match qL (s.drop 1) with
   | (v,r,true)=>if bE 44 r then iE k r (acc++[v]) else some (acc++[v],r)
   | _=>none
def jQ:Nat→Str→List jA→Option (List jA × Str)
 | 0,_,_=>none
 | k + 1,s,acc=>if bE 59 s then
     if bE 61 (dU (s.drop 1)).2 then match iE (dU (s.drop 1)).2.length (dU (s.drop 1)).2 [] with
      | some (vs,r)=>jQ k r (acc++[((dU (s.drop 1)).1,vs)])
      | none=>none
     else none
   else some (acc,s)
def MN:Ln:=⟨[],[],[],[]⟩
def yG (s:Str) : Int × Bool:=match Lib.atoiAll s with
 | .ok v=>(v,true)
 | .range=>(Lib.atoiSat s,false)
 | _ => (0, false)
def mM (s:Str) : Int × Bool :=
 let a:=yG (if bE 35 s then s.drop 1 else s)
 (IntKind.wrap .i64 (a.1 - 1),bE 35 s && a.2 && decide (a.1 ≥ 2))
def CZ (s:Str) : Ln × Int × Bool :=
 let h:Str × Str × Str:=if bE 46 (dU s).2 then((dU s).1,(dU ((dU s).2.drop 1)).1,(dU ((dU s).2.drop 1)).2) else([],(dU s).1,(dU s).2)
 match jQ (h.2.2.length + 1) h.2.2 [] with
 | none=>(MN,0,false)
 | some (ps,r)=>if r=[] then(⟨h.1,h.2.1,ps,[]⟩,0,true) else(⟨h.1,h.2.1,ps,[]⟩,mM r)
def gm:Str:=[114,97,119,46]
def dN (p:Fd) : Ln × Int × Bool :=
 let raw:=decide (p.1.take 4=gm)
 let u:=CZ (if raw then p.1.drop 4 else p.1)
 let L:Ln := { u.1 with v:=if !raw && xE u.1.n then esc p.2 else p.2 }
 (L,u.2.1,u.2.2 && (iV L u.2.1).2 && decide ((iV L u.2.1).1=p))
def Cz (p:Fd) : Bool:=(dN p).2.2 && decide (p.1.length≤64) && decide (p.2.length≤512)
abbrev TE:Str:=[66,69,71,73,78,58,86,67,65,82,68,13,10,86,69,82,83,73,79,78,58,52,46,48,13,10]
abbrev WJ:Str:=[69,78,68,58,86,67,65,82,68,13,10]
def EA:List Fd→List Str→Str→Option Str
 | [],_,acc=>some (acc++WJ)
 | p :: r,ns,acc =>
   if Cz p=false then none
   else if (eQ ns (bC (dN p).1).1:Int)≠(dN p).2.1 then none
   else EA r (ns++[(bC (dN p).1).1]) (acc++(jw gP (dN p).1).1)
def Pb (fs:List Fd) : Option Str:=EA fs [] TE
end Go.Ab.Vc
namespace Go.Ab
open Go Go.RowKit
def wd (ds:List Deferred) (a:Act) : Act := { a with defers:=ds }
section
variable {P:Program} {Q0:Act→World→Prop} {K K' : Act→World→Prop} {Q' : Exit→Act→World→Prop} {r:Option Nat} {n:Nat} {ds:List Deferred}
end
section
variable {P:Program} {nt:Nat} {ops:Array Oper} {M0:RM} {ρ0 ρ:Ren} {w0 w:World} {a:Act}
end
def WR (ρ:Ren) (c:Nat) : Prop:=∀ b i,ρ b=some i→i.cb≠c
def YY (D:Nat) : Deferred := { target:=.collected D,args := #[] }
structure Xc (n0:Nat) (ρ:Ren) (w:World) (Ds:List Nat) : Prop where
 nodup:Ds.Nodup
 all:∀ D∈Ds,n0≤D∧w.heap[D]?=some (.deferred (some []))∧WR ρ D
inductive Head:AV→Nat→Prop
 | nil:Head (.sc (.slice none 0 0)) 0
 | emp (b:Nat) : Head (.emp b) 0
 | ex (b o len c:Nat) : len≤c→Head (.slc b o len (.ex c)) len
 | op (b o len:Nat) : Head (.slc b o len (.op 1)) len
section
variable {P:Program} {nt ret:Nat}
def Nt (P:Program) (nt n0:Nat) (rg:Bool) (Ds:List Nat) (M:RM) (ρ:Ren) (w:World) (T:Tree AV) (asg:Nat) (K:K3) (e:Exit) (a' : Act) (w' : World) : Prop :=
 ∃ x T' M' ρ' a0 Ds',e=XW x∧a'=wd (Ds'.map YY) a0∧(rg=false→Ds'=Ds)∧Xc n0 ρ' w' Ds'∧After P M ρ w M' ρ' w'∧gz ρ' nt T' a0∧(∀ t,Nat.testBit asg t=false→T'.get t=T.get t)∧K x T' M'
theorem Nt.trans {n0:Nat} {rg:Bool} {Ds Ds1:List Nat} {M M1:RM} {ρ ρ1:Ren} {w w1:World} {T T1:Tree AV} {asg Wd:Nat} {K:K3} (h:After P M ρ w M1 ρ1 w1) (hds:rg=false→Ds1=Ds) (hk:∀ t,Nat.testBit asg t=false→Nat.testBit Wd t=false∧T1.get t=T.get t) {e:Exit} {a' : Act} {w' : World}
  (q:Nt P nt n0 rg Ds1 M1 ρ1 w1 T1 Wd K e a' w') : Nt P nt n0 rg Ds M ρ w T asg K e a' w':=by
 obtain⟨x,T',M',ρ',a0,Ds',h1,h2,hx,h3,h4,h5,h6,h7⟩:=q
 exact⟨x,T',M',ρ',a0,Ds',h1,h2,fun hr=>(hx hr).trans (hds hr),h3,h.trans h4,h5,fun t ht=>by obtain⟨k1,k2⟩:=hk t ht; rw[h6 t k1,k2],h7⟩
end
end Go.Ab
set_option maxRecDepth 100000
namespace Go.Ab.Vc
open Go Go.Ab
def mX (p1 p2:aj) (p3:Nat) (a0 a1:AV) (M0:RM) (Q:ai) : Prop:=p1 [] M0 fun xc s=>eX xc fun xd=>au xd ( Q (Bo false) s) ( aO a0 fun xe=>af .gtr xe (N .i64 2000) fun o=>aa o false (fun c=>c a1 s) (fun c=>c .undef s) fun xf A=>aa o false (fun vl=>aO xf fun xg=>vl xg A) (fun c=>c .undef A) fun xh L=>aa o false (fun vv=>af .gtr xh (N .i64 2000) fun xi=>vv xi L) (fun c=>c .undef L) fun xj W=>aC o (Bo true) xj fun xk=>au xk ( Q (Bo true) W) ( p2 [a0] W fun v vj=>aJ v 0 fun p=>aJ v 1 fun yz=>aJ v 2 fun xl=>p2 [a1] vj fun w vb=>aJ w 0 fun vd=>aJ w 1 fun y0=>aJ w 2 fun xm=>af .neq xl (N .i64 0) fun x=>aa x false (fun v6=>v6 xm vb) (fun c=>c .undef vb) fun xn B=>aa x false (fun vm=>af .neq xn (N .i64 0) fun xo=>vm xo B) (fun c=>c .undef B) fun xp C=>aC x (Bo true) xp fun xq=>au xq ( Q (Bo true) C) ( aX .add a0 (St [10]) fun xr=>aX .add xr a1 fun xs=>p2 [xs] C fun y l=>aJ y 0 fun j=>aJ y 1 fun y1=>aJ y 2 fun xt=>af .neq xt (N .i64 0) fun xu=>au xu ( aO a1 fun xv=>af .gtr xv (N .i64 0) fun i=>aa i true (fun vn=>vn a1 l) (fun c=>c .undef l) fun xw D=>aa i true (fun vo=>cK xw (N .i64 0) fun xx=>vo xx D) (fun c=>c .undef D) fun xy E=>aa i true (fun vp=>af .eql xy (N .u8 32) fun xz=>vp xz E) (fun c=>c .undef E) fun x0 F=>aa i true (fun vq=>vq x0 F) (fun c=>c .undef F) fun q G=>aa q false (fun vr=>vr a1 G) (fun c=>c .undef G) fun x1 H=>aa q false (fun vs=>cK x1 (N .i64 0) fun x2=>vs x2 H) (fun c=>c .undef H) fun x3 I=>aa q false (fun vt=>af .eql x3 (N .u8 9) fun x4=>vt x4 I) (fun c=>c .undef I) fun x5 O=>aa i true (fun vu=>aC q (Bo true) x5 fun x6=>vu x6 O) (fun c=>c .undef O) fun x7 vf=>aC i x7 (Bo false) fun x8=>Q x8 vf) ( bS j fun x9=>bS p fun ya=>bS vd fun yb=>af .add ya yb fun yc=>af .neq x9 yc fun yd=>au yd ( Q (Bo false) l) ( bA (fun v7 g P=>bS j fun ye=>af .lss (ag g 0) ye fun yf=>au yf ( bT (fun ve=>dV [(St []),(.sc (.slice none 0 0)),(N .i64 0)] [] fun yh=>aV (.row [(St []),(.sc (.slice none 0 0)),(N .i64 0)] false p3 0) (fun vc=>.ptr vc 0) P fun h vg=>aA vg h yh 3 fun m=>bT (fun z=>bS p fun yi=>af .lss (ag g 0) yi fun yj=>au yj ( bf p (ag g 0) 3 fun yk=>aH m yk 3 fun yl=>aA m h yl 3 fun vh=>z [] vh) ( bS p fun ym=>af .sub (ag g 0) ym fun yn=>bf vd yn 3 fun yo=>aH m yo 3 fun yp=>aA m h yp 3 fun vi=>z [] vi)) (fun y2 n=>bf j (ag g 0) 3 fun v9=>aG v9 0 fun wa=>ak n wa fun wb=>aG h 0 fun wc=>ak n wc fun wd=>aX .neq wb wd fun d=>aK d false (fun vw=>vw j n none) (fun c=>c .undef n none) fun we R vc=>aK d false (fun vx=>vx (ag g 0) R none) (fun c=>c .undef R none) fun wf S yq=>aK d false (fun vy=>bf we wf 3 fun wg=>vy wg S none) (fun c=>c .undef S none) fun wh U yr=>aK d false (fun vz=>aG wh 1 fun wi=>vz wi U none) (fun c=>c .undef U none) fun wj t ys=>aK d false (fun v0=>ak t wj fun wk=>v0 wk t none) (fun c=>c .undef t none) fun wl V yt=>aK d false (fun v1=>bS wl fun wm=>v1 wm V none) (fun c=>c .undef V none) fun wn X yu=>aK d false (fun v2=>aG h 1 fun wo=>v2 wo X none) (fun c=>c .undef X none) fun wp u yv=>aK d false (fun v3=>ak u wp fun wq=>v3 wq u none) (fun c=>c .undef u none) fun wr Y yw=>aK d false (fun v4=>bS wr fun ws=>v4 ws Y none) (fun c=>c .undef Y none) fun wt Z yx=>aK d false (fun v5=>af .neq wn wt fun wu=>v5 wu Z none) (fun c=>c .undef Z none) fun wv va yy=>aC d (Bo true) wv fun ww=>au ww ( Q (Bo false) va) ( bA (fun v8 r e=>aG h 1 fun wx=>ak e wx fun wy=>bS wy fun wz=>af .lss (ag r 0) wz fun w0=>au w0 ( bf j (ag g 0) 3 fun w2=>aG w2 1 fun w3=>ak e w3 fun w4=>bf w4 (ag r 0) 2 fun w5=>aH e w5 2 fun w6=>aG h 1 fun w7=>ak e w7 fun w8=>bf w8 (ag r 0) 2 fun w9=>aH e w9 2 fun xa=>lc true [2,2] w6 xa fun xb=>au xb ( Q (Bo false) e) ( af .add (ag r 0) (N .i64 1) fun w1=>v8 [w1] e)) ( ve [] e)) [(N .i64 0)] va))) (fun y3 vk=>af .add (ag g 0) (N .i64 1) fun yg=>v7 [yg] vk)) ( Q (Bo true) P)) [(N .i64 0)] l)))))
def qN (p1 p2 p3:aj) (p4:Nat) (p5:aj) (p6:Nat) (p7:aj) (M0:RM) (Q:ai) : Prop:=p1 [(St [66,69,71,73,78,58,86,67,65,82,68,10,86,69,82,83,73,79,78,58,52,46,48,10,70,78,58,65,110,110,92,44,32,66,10,84,69,76,59,84,89,80,69,61,104,111,109,101,58,49,10,84,69,76,59,84,89,80,69,61,104,111,109,101,58,50,10,69,78,68,58,86,67,65,82,68,10])] M0 fun H V=>aJ H 0 fun g=>aJ H 1 fun c2=>aJ H 2 fun c3=>af .neq c3 (N .i64 0) fun L=>aa L false (fun c=>c c2 V) (fun c=>c .undef V) fun c4 W=>aa L false (fun wv=>af .neq c4 (N .i64 0) fun c5=>wv c5 W) (fun c=>c .undef W) fun c6 v1=>aC L (Bo true) c6 fun p=>aa p false (fun x2=>x2 g v1) (fun c=>c .undef v1) fun c7 v6=>aa p false (fun x8=>bS c7 fun c8=>x8 c8 v6) (fun c=>c .undef v6) fun c9 we=>aa p false (fun yh=>af .neq c9 (N .i64 1) fun d0=>yh d0 we) (fun c=>c .undef we) fun d1 Z=>aC p (Bo true) d1 fun j=>aa j false (fun w1=>w1 g Z) (fun c=>c .undef Z) fun d2 ve=>aa j false (fun w7=>bf d2 (N .i64 0) 3 fun d3=>w7 d3 ve) (fun c=>c .undef ve) fun d4 vl=>aa j false (fun xg=>aG d4 1 fun d5=>xg d5 vl) (fun c=>c .undef vl) fun d6 w=>aa j false (fun xp=>ak w d6 fun d7=>xp d7 w) (fun c=>c .undef w) fun d8 vy=>aa j false (fun xy=>bS d8 fun d9=>xy d9 vy) (fun c=>c .undef vy) fun e0 v0=>aa j false (fun xz=>af .neq e0 (N .i64 3) fun e1=>xz e1 v0) (fun c=>c .undef v0) fun e2 B=>aC j (Bo true) e2 fun e3=>au e3 ( Q (Bo false) B) ( bf g (N .i64 0) 3 fun e4=>aH B e4 3 fun e5=>p2 [e5] B fun wl wq=>aJ wl 0 fun e6=>aJ wl 1 fun e7=>p1 [e6] wq fun O C=>aJ O 0 fun P=>aJ O 1 fun s3=>aJ O 2 fun e8=>bf g (N .i64 0) 3 fun e9=>aG e9 1 fun g0=>ak C g0 fun g1=>bf g1 (N .i64 2) 2 fun g2=>aH C g2 2 fun g3=>p3 [g3] C fun wm wr=>aJ wm 0 fun g4=>aJ wm 1 fun g5=>aV (.row [(St []),(St []),(.sc (.slice none 0 0)),(St []),(N .i64 0)] false p4 0) (fun n=>.ptr n 0) wr fun U ws=>aA ws U g4 5 fun v2=>aH v2 U 5 fun g6=>p5 [g6,(N .i64 1)] v2 fun wn wt=>aJ wn 0 fun g7=>aJ wn 1 fun g8=>aV (.row [(St []),(St [])] false p6 0) (fun n=>.ptr n 0) wt fun F wu=>aA wu F g7 2 fun m=>bf g (N .i64 0) 3 fun g9=>aG g9 1 fun h0=>ak m h0 fun h1=>bf h1 (N .i64 0) 2 fun h2=>aH m h2 2 fun h3=>dV [(St []),(St [])] [(0,1,(St [102,110])),(1,1,(St [65,110,110,44,32,66]))] fun h4=>lc false [2,2] h3 h4 fun h=>aK h true (fun x0=>x0 g m none) (fun c=>c .undef m none) fun h5 v3 n=>aK h true (fun x1=>bf h5 (N .i64 0) 3 fun h6=>x1 h6 v3 none) (fun c=>c .undef v3 none) fun h7 v4 q7=>aK h true (fun x3=>aG h7 1 fun h8=>x3 h8 v4 none) (fun c=>c .undef v4 none) fun h9 D q8=>aK h true (fun x4=>ak D h9 fun i0=>x4 i0 D none) (fun c=>c .undef D none) fun i1 v5 q9=>aK h true (fun x5=>bf i1 (N .i64 2) 2 fun i2=>x5 i2 v5 none) (fun c=>c .undef v5 none) fun i3 E r0=>aK h true (fun x6=>aH E i3 2 fun i4=>x6 i4 E none) (fun c=>c .undef E none) fun i5 v7 r1=>aK h true (fun x7=>dV [(St []),(St [])] [(0,1,(St [116,101,108,59,116,121,112,101,61,104,111,109,101,35,50])),(1,1,(St [50]))] fun i6=>x7 i6 v7 none) (fun c=>c .undef v7 none) fun i7 v8 r2=>aK h true (fun x9=>lc false [2,2] i5 i7 fun i8=>x9 i8 v8 none) (fun c=>c .undef v8 none) fun i9 v9 r3=>aC h i9 (Bo false) fun R=>aK R true (fun ya=>ya e7 v9 none) (fun c=>c .undef v9 none) fun j0 wa r4=>aK R true (fun yb=>af .eql j0 (N .i64 0) fun j1=>yb j1 wa none) (fun c=>c .undef wa none) fun j2 wb r5=>aC R j2 (Bo false) fun S=>aK S true (fun yc=>yc e8 wb none) (fun c=>c .undef wb none) fun j3 wc r6=>aK S true (fun yd=>af .eql j3 (N .i64 0) fun j4=>yd j4 wc none) (fun c=>c .undef wc none) fun j5 wd r7=>aC S j5 (Bo false) fun q=>aK q true (fun ye=>ye P wd none) (fun c=>c .undef wd none) fun j6 wf r8=>aK q true (fun yf=>bS j6 fun j7=>yf j7 wf none) (fun c=>c .undef wf none) fun j8 wg r9=>aK q true (fun yg=>af .eql j8 (N .i64 1) fun j9=>yg j9 wg none) (fun c=>c .undef wg none) fun l0 wh s0=>aC q l0 (Bo false) fun l=>aK l true (fun yi=>yi P wh none) (fun c=>c .undef wh none) fun l1 wi s1=>aK l true (fun yj=>bf l1 (N .i64 0) 3 fun l2=>yj l2 wi none) (fun c=>c .undef wi none) fun l3 wj s2=>aK l true (fun yk=>aG l3 1 fun l4=>yk l4 wj none) (fun c=>c .undef wj none) fun l5 r l6=>aK l true (fun ww=>ak r l5 fun yl=>ww yl r none) (fun c=>c .undef r none) fun ym X l7=>aK l true (fun wx=>bS ym fun yn=>wx yn X none) (fun c=>c .undef X none) fun yo Y l8=>aK l true (fun wy=>af .eql yo (N .i64 3) fun yp=>wy yp Y none) (fun c=>c .undef Y none) fun yq va l9=>aC l yq (Bo false) fun d=>aK d true (fun wz=>wz P va none) (fun c=>c .undef va none) fun yr vb m0=>aK d true (fun w0=>bf yr (N .i64 0) 3 fun ys=>w0 ys vb none) (fun c=>c .undef vb none) fun yt vc m1=>aK d true (fun w2=>aG yt 0 fun yu=>w2 yu vc none) (fun c=>c .undef vc none) fun yv s m2=>aK d true (fun w3=>ak s yv fun yw=>w3 yw s none) (fun c=>c .undef s none) fun yx vd m3=>aK d true (fun w4=>w4 g vd none) (fun c=>c .undef vd none) fun yy vf m4=>aK d true (fun w5=>bf yy (N .i64 0) 3 fun yz=>w5 yz vf none) (fun c=>c .undef vf none) fun y0 vg m5=>aK d true (fun w6=>aG y0 0 fun y1=>w6 y1 vg none) (fun c=>c .undef vg none) fun y2 t m6=>aK d true (fun w8=>ak t y2 fun y3=>w8 y3 t none) (fun c=>c .undef t none) fun y4 vh m7=>aK d true (fun w9=>aX .eql yx y4 fun y5=>w9 y5 vh none) (fun c=>c .undef vh none) fun y6 vi m8=>aC d y6 (Bo false) fun i=>aK i true (fun xa=>xa g vi none) (fun c=>c .undef vi none) fun y7 vj m9=>aK i true (fun xb=>bf y7 (N .i64 0) 3 fun y8=>xb y8 vj none) (fun c=>c .undef vj none) fun y9 vk n0=>aK i true (fun xc=>aG y9 0 fun za=>xc za vk none) (fun c=>c .undef vk none) fun zb u n1=>aK i true (fun xd=>ak u zb fun zc=>xd zc u none) (fun c=>c .undef u none) fun zd vm n2=>aK i true (fun xe=>aO zd fun ze=>xe ze vm none) (fun c=>c .undef vm none) fun zf vn n3=>aK i true (fun xf=>af .eql zf (N .i64 18) fun zg=>xf zg vn none) (fun c=>c .undef vn none) fun zh vo n4=>aC i zh (Bo false) fun G=>aK G true (fun xh=>xh g5 vo none) (fun c=>c .undef vo none) fun zi vp n5=>aK G true (fun xi=>af .eql zi (N .i64 0) fun zj=>xi zj vp none) (fun c=>c .undef vp none) fun zk vq n6=>aC G zk (Bo false) fun o=>aK o true (fun xj=>aG U 1 fun zl=>xj zl vq none) (fun c=>c .undef vq none) fun zm v n7=>aK o true (fun xk=>ak v zm fun zn=>xk zn v none) (fun c=>c .undef v none) fun zo vr n8=>aK o true (fun xl=>aX .eql zo (St [116,101,108]) fun zp=>xl zp vr none) (fun c=>c .undef vr none) fun zq vs n9=>aC o zq (Bo false) fun wk=>aK wk true (fun xm=>xm g8 vs none) (fun c=>c .undef vs none) fun zr x p0=>aC wk zr (Bo false) fun e=>aK e true (fun xn=>aH x F 2 fun zs=>xn zs x none) (fun c=>c .undef x none) fun zt vt p8=>aK e true (fun xo=>xo g vt none) (fun c=>c .undef vt none) fun zu vu p9=>aK e true (fun xq=>bf zu (N .i64 0) 3 fun zv=>xq zv vu none) (fun c=>c .undef vu none) fun zw vv q0=>aK e true (fun xr=>aG zw 1 fun zx=>xr zx vv none) (fun c=>c .undef vv none) fun zy y q1=>aK e true (fun xs=>ak y zy fun zz=>xs zz y none) (fun c=>c .undef y none) fun z0 vw q2=>aK e true (fun xt=>bf z0 (N .i64 2) 2 fun z1=>xt z1 vw none) (fun c=>c .undef vw none) fun z2 z q3=>aK e true (fun xu=>aH z z2 2 fun z3=>xu z3 z none) (fun c=>c .undef z none) fun z4 vx q4=>aK e true (fun xv=>lc false [2,2] zt z4 fun z5=>xv z5 vx none) (fun c=>c .undef vx none) fun z6 A q5=>aC e z6 (Bo false) fun I=>aK I true (fun xw=>aH A F 2 fun z7=>xw z7 A none) (fun c=>c .undef A none) fun z8 vz q6=>aa I true (fun xx=>p7 [z8] vz fun z9 wo=>xx z9 wo) (fun c=>c .undef vz) fun c0 wp=>aC I c0 (Bo false) fun c1=>Q c1 wp)
def pX (p1 p2 p3:aj) (p4:Nat) (a0:AV) (M0:RM) (Q:ai) : Prop:=p1 [a0] M0 fun g i=>aJ g 0 fun z=>aJ g 1 fun A=>aJ g 2 fun m=>af .neq m (N .i64 0) fun B=>au B ( Q (.tup [(.sc (.slice none 0 0)),A,m]) i) ( p2 [z] i fun n j=>aJ n 0 fun o=>aJ n 1 fun p=>af .gtr p (N .i64 0) fun C=>au C ( Q (.tup [(.sc (.slice none 0 0)),p,(N .i64 3)]) j) ( bS o fun D=>bA (fun x c d=>af .lss (ag c 1) D fun E=>au E ( bf o (ag c 1) 1 fun F=>ak d F fun G=>p3 [G] d fun h r=>aJ h 0 fun H=>aJ h 1 fun I=>aJ h 2 fun q=>aV (.row [(St []),(.sc (.slice none 0 0)),(N .i64 0)] false p4 0) (fun v=>.ptr v 0) r fun l s=>aA s l H 3 fun e=>af .neq q (N .i64 0) fun L=>au L ( Q (.tup [(.sc (.slice none 0 0)),I,q]) e) ( aH e l 3 fun O=>ek p4 1 [(St []),(.sc (.slice none 0 0)),(N .i64 0)] [(0,3,O)] fun y w=>aV y w e fun P t=>appW p4 3 48 [(St []),(.sc (.slice none 0 0)),(N .i64 0)] false (ag c 0) P t fun R u=>af .add (ag c 1) (N .i64 1) fun S=>x [R,S] u)) ( Q (.tup [(ag c 0),(N .i64 0),(N .i64 0)]) d)) [(.sc (.slice none 0 0)),(N .i64 0)] j))
def pK (p1 p2:Nat) (p3:aj) (p4:Nat) (p5 p6 p7:aj) (a0:AV) (M0:RM) (Q:ai) : Prop:=mW p1 a0 fun L F=>aV L F M0 fun O A=>aV (.map [] 0) (fun d=>.map d) A fun m r=>aG O 1 fun P=>ak r P fun x=>bS x fun R=>bA (fun I e i=>af .lss (ag e 1) R fun S=>au S ( bf x (ag e 1) 2 fun U=>aH i U 2 fun V=>aV (.row [(St []),(St [])] false p2 0) (fun d=>.ptr d 0) i fun p C=>aA C p V 2 fun v=>aH v p 2 fun W=>p3 [W] v fun n D=>aJ n 0 fun X=>aJ n 1 fun Y=>aJ n 2 fun Z=>aV (.row [(St []),(St []),(.sc (.slice none 0 0)),(St []),(N .i64 0)] false p4 0) (fun d=>.ptr d 0) D fun q E=>aA E q X 5 fun l=>eX Z fun h=>aa h false (fun c=>aH l p 2 fun va=>c va l) (fun c=>c .undef l) fun vb w=>aa h false (fun H=>p5 [vb] w fun vc B=>H vc B) (fun c=>c .undef w) fun vd s=>aa h false (fun G=>eX vd fun ve=>G ve s) (fun c=>c .undef s) fun vf j=>aC h (Bo true) vf fun vg=>au vg ( Q (.tup [(St []),(N .i64 1)]) j) ( aH j q 5 fun vh=>p6 [vh] j fun vi g=>I9 vi 0 fun o=>si false [2] (N .i64 0) false g m o fun vj=>af .neq vj Y fun vk=>au vk ( Q (.tup [(St []),(N .i64 1)]) g) ( si false [2] (N .i64 0) false g m o fun vl=>af .add vl (N .i64 1) fun vm=>wM false [2] g m o vm fun t=>aH t q 5 fun vn=>p7 [vn] t fun y u=>aJ y 0 fun vo=>aJ y 1 fun z=>af .neq z (N .i64 0) fun vp=>au vp ( Q (.tup [(St []),z]) u) ( aX .add (ag e 0) vo fun vq=>af .add (ag e 1) (N .i64 1) fun vr=>I [vq,vr] u)))) ( aX .add (ag e 0) (St [69,78,68,58,86,67,65,82,68,13,10]) fun vs=>Q (.tup [vs,(N .i64 0)]) i)) [(St [66,69,71,73,78,58,86,67,65,82,68,13,10,86,69,82,83,73,79,78,58,52,46,48,13,10]),(N .i64 0)] r
def uA (p1:Nat) (p2:aj) (p3:Nat) (a0:AV) (M0:RM) (Q:ai) : Prop:=mW p1 a0 fun E w=>aV E w M0 fun i j=>aH j i 2 fun vd=>p2 [vd] j fun r s=>aJ r 0 fun ve=>aJ r 1 fun vf=>aV (.row [(St []),(St []),(.sc (.slice none 0 0)),(St []),(N .i64 0)] false p3 0) (fun v=>.ptr v 0) s fun vc t=>aA t vc ve 5 fun o=>af .eql vf (N .i64 0) fun d=>aa d true (fun c=>aG i 0 fun F=>c F o) (fun c=>c .undef o) fun G h=>aa d true (fun C=>ak h G fun H=>C H h) (fun c=>c .undef h) fun I q=>aa d true (fun D=>aO I fun L=>D L q) (fun c=>c .undef q) fun O l=>aa d true (fun x=>af .leq O (N .i64 64) fun P=>x P l) (fun c=>c .undef l) fun R m=>aC d R (Bo false) fun e=>aa e true (fun y=>aG i 1 fun S=>y S m) (fun c=>c .undef m) fun U g=>aa e true (fun z=>ak g U fun V=>z V g) (fun c=>c .undef g) fun W n=>aa e true (fun A=>aO W fun X=>A X n) (fun c=>c .undef n) fun Y p=>aa e true (fun B=>af .leq Y (N .i64 512) fun Z=>B Z p) (fun c=>c .undef p) fun va u=>aC e va (Bo false) fun vb=>Q vb u
def uI (p1 p2:Nat) (p3:aj) (a0:AV) (M0:RM) (Q:ai) : Prop:=mW p1 a0 fun q p=>aV q p M0 fun t m=>aV (.row [(St []),(St []),(.sc (.slice none 0 0)),(St []),(N .i64 0)] false p2 0) (fun e=>.ptr e 0) m fun c h=>aH h t 2 fun z=>p3 [z] h fun g n=>aJ g 0 fun u=>aJ g 1 fun A=>aJ g 2 fun v=>aV (.row [(St []),(St []),(.sc (.slice none 0 0)),(St []),(N .i64 0)] false p2 0) (fun e=>.ptr e 0) n fun l o=>aA o l u 5 fun d=>eX v fun w=>au w ( dV [(St []),(St []),(.sc (.slice none 0 0)),(St []),(N .i64 0)] [] fun x=>aA d c x 5 fun i=>aH i c 5 fun r=>Q (.tup [r,(N .i64 1)]) i) ( aH d l 5 fun y=>aA d c y 5 fun j=>aH j c 5 fun s=>Q (.tup [s,(N .i64 0)]) j)
def qK (p1 p2:Nat) (p3 p4 p5 p6:aj) (a0 a1:AV) (M0:RM) (Q:ai) : Prop:=mW p1 a0 fun U G=>aV U G M0 fun e B=>aV (.row [(St []),(St [])] false p2 0) (fun n=>.ptr n 0) B fun h p=>aH p e 5 fun X=>p3 [X] p fun A q=>aJ A 0 fun vx=>aJ A 1 fun Y=>af .neq Y (N .i64 0) fun d=>aa d false (fun c=>aG e 0 fun Z=>c Z q) (fun c=>c .undef q) fun va m=>aa d false (fun R=>ak m va fun vb=>R vb m) (fun c=>c .undef m) fun vc y=>aa d false (fun S=>aX .eql vc (St [114,97,119]) fun vd=>S vd y) (fun c=>c .undef y) fun ve z=>aC d (Bo true) ve fun g=>aa g false (fun H=>aG e 1 fun vf=>H vf z) (fun c=>c .undef z) fun vg j=>aa g false (fun I=>ak j vg fun vh=>I vh j) (fun c=>c .undef j) fun vi r=>aa g false (fun L=>p4 [vi] r fun vj C=>L vj C) (fun c=>c .undef r) fun vk s=>aC g (Bo true) vk fun o=>aa o false (fun O=>O a1 s) (fun c=>c .undef s) fun vl t=>aa o false (fun P=>af .lss vl (N .i64 0) fun vm=>P vm t) (fun c=>c .undef t) fun vn l=>aC o (Bo true) vn fun vo=>au vo ( dV [(St []),(St [])] [] fun vp=>aA l h vp 2 fun u=>aH u h 2 fun V=>Q (.tup [V,(Bo false)]) u) ( aH l e 5 fun vq=>p5 [vq] l fun vr D=>aV (.row [(St []),(St [])] false p2 0) (fun n=>.ptr n 0) D fun i E=>aA E i vr 2 fun v=>aG i 0 fun vs=>ak v vs fun vt=>p6 [vt,a1] v fun vu F=>aG i 0 fun vv=>aA F vv vu 1 fun w=>aH w i 2 fun vw=>aA w h vw 2 fun x=>aH x h 2 fun W=>Q (.tup [W,(Bo true)]) x)
def wF (p1:Nat) (p2 p3:aj) (p4:Nat) (a0:AV) (M0:RM) (Q:ai) : Prop:=bA (fun vs l p=>bS a0 fun xp=>af .lss (ag l 1) xp fun vx=>au vx ( bf a0 (ag l 1) 5 fun vz=>aH p vz 5 fun v0=>aV (.row [(St []),(St []),(.sc (.slice none 0 0)),(St []),(N .i64 0)] false p1 0) (fun X=>.ptr X 0) p fun j O=>aA O j v0 5 fun u=>aH u j 5 fun v1=>p2 [v1,(St [98,101,103,105,110])] u fun v2 m=>eX v2 fun v3=>au v3 ( aG j 4 fun v4=>ak m v4 fun v5=>Q (.tup [(.sc (.slice none 0 0)),v5]) m) ( aH m j 5 fun v6=>ek p1 1 [(St []),(St []),(.sc (.slice none 0 0)),(St []),(N .i64 0)] [(0,5,v6)] fun vu Y=>aV vu Y m fun v7 A=>af .add (ag l 1) (N .i64 1) fun o=>bS a0 fun v8=>af .lss o v8 fun e=>aa e true (fun c=>c a0 A) (fun c=>c .undef A) fun v9 D=>aa e true (fun vo=>vo o D) (fun c=>c .undef D) fun wa L=>aa e true (fun vr=>bf v9 wa 5 fun wb=>vr wb L) (fun c=>c .undef L) fun wc t=>aa e true (fun vb=>aH t wc 5 fun wd=>vb wd t) (fun c=>c .undef t) fun we v=>aa e true (fun vc=>p2 [we,(St [118,101,114,115,105,111,110])] v fun wf P=>vc wf P) (fun c=>c .undef v) fun wg w=>aa e true (fun vd=>eX wg fun wh=>vd wh w) (fun c=>c .undef w) fun wi q=>aC e wi (Bo false) fun wj=>au wj ( bf a0 o 5 fun wk=>aG wk 4 fun wl=>ak q wl fun wm=>Q (.tup [(.sc (.slice none 0 0)),wm]) q) ( af .add o (N .i64 1) fun wn=>bA (fun vt d x=>bS a0 fun wo=>af .lss (ag d 1) wo fun g=>aa g true (fun ve=>ve a0 x) (fun c=>c .undef x) fun wp y=>aa g true (fun vf=>vf (ag d 1) y) (fun c=>c .undef y) fun wq z=>aa g true (fun vg=>bf wp wq 5 fun wr=>vg wr z) (fun c=>c .undef z) fun ws r=>aa g true (fun vh=>aH r ws 5 fun wt=>vh wt r) (fun c=>c .undef r) fun wu B=>aa g true (fun vi=>p2 [wu,(St [101,110,100])] B fun wv R=>vi wv R) (fun c=>c .undef B) fun ww C=>aa g true (fun vj=>eX ww fun wx=>vj wx C) (fun c=>c .undef C) fun wy i=>aC g wy (Bo false) fun wz=>au wz ( bf a0 (ag d 1) 5 fun w1=>aG w1 1 fun w2=>ak i w2 fun w3=>p3 [w3] i fun h E=>aa h false (fun vk=>vk a0 E) (fun c=>c .undef E) fun w4 F=>aa h false (fun vl=>vl (ag d 1) F) (fun c=>c .undef F) fun w5 G=>aa h false (fun vm=>bf w4 w5 5 fun w6=>vm w6 G) (fun c=>c .undef G) fun w7 H=>aa h false (fun vn=>aG w7 0 fun w8=>vn w8 H) (fun c=>c .undef H) fun w9 s=>aa h false (fun vp=>ak s w9 fun xa=>vp xa s) (fun c=>c .undef s) fun xb I=>aa h false (fun vq=>aX .eql xb (St [114,97,119]) fun xc=>vq xc I) (fun c=>c .undef I) fun xd n=>aC h (Bo true) xd fun xe=>au xe ( bf a0 (ag d 1) 5 fun xf=>aG xf 4 fun xg=>ak n xg fun xh=>Q (.tup [(.sc (.slice none 0 0)),xh]) n) ( bf a0 (ag d 1) 5 fun xi=>aH n xi 5 fun xj=>ek p1 1 [(St []),(St []),(.sc (.slice none 0 0)),(St []),(N .i64 0)] [(0,5,xj)] fun vv Z=>aV vv Z n fun xk S=>appW p1 5 80 [(St []),(St []),(.sc (.slice none 0 0)),(St []),(N .i64 0)] false (ag d 2) xk S fun xl U=>af .add (ag d 1) (N .i64 1) fun w0=>vt [(ag d 0),w0,xl] U)) ( bS a0 fun xm=>af .geq (ag d 1) xm fun xn=>au xn ( aG j 4 fun xo=>ak i xo fun xq=>Q (.tup [(.sc (.slice none 0 0)),xq]) i) ( ek p4 1 [(.sc (.slice none 0 0))] [(0,1,(ag d 2))] fun vw va=>aV vw va i fun xr V=>appW p4 1 24 [(.sc (.slice none 0 0))] false (ag d 0) xr V fun xs W=>af .add (ag d 1) (N .i64 1) fun vy=>vs [xs,vy] W))) [(ag l 0),wn,v7] q))) ( Q (.tup [(ag l 0),(N .i64 0)]) p)) [(.sc (.slice none 0 0)),(N .i64 0)] M0
def tK (p1 p2:Nat) (p3:aj) (p4:Nat) (p5 p6:aj) (a0:AV) (M0:RM) (Q:ai) : Prop:=aV (.row [(St []),(.sc (.slice none 0 0)),(N .i64 0)] false p1 0) (fun g=>.ptr g 0) M0 fun d u=>bf a0 (N .i64 0) 5 fun vb=>aG vb 4 fun vc=>ak u vc fun vd=>aG d 2 fun ve=>aA u ve vd 1 fun E=>aV (.map [] 0) (fun g=>.map g) E fun s F=>bN (jM 5 a0 (some (N .i64 1)) none none) fun B=>bS B fun vf=>bA (fun X j o=>af .lss (ag j 1) vf fun vg=>au vg ( bf B (ag j 1) 5 fun vh=>aH o vh 5 fun vi=>aV (.row [(St []),(St []),(.sc (.slice none 0 0)),(St []),(N .i64 0)] false p2 0) (fun g=>.ptr g 0) o fun t L=>aA L t vi 5 fun z=>aH z t 5 fun vj=>p3 [vj] z fun vk O=>aV (.row [(St []),(St [])] false p4 0) (fun g=>.ptr g 0) O fun e P=>aA P e vk 2 fun r=>aG e 0 fun vl=>ak r vl fun l=>si false [2] (N .i64 0) false r s l fun vm=>p5 [l,vm] r fun vn R=>aG e 0 fun vo=>aA R vo vn 1 fun A=>si false [2] (N .i64 0) false A s l fun vp=>af .add vp (N .i64 1) fun vq=>wM false [2] A s l vq fun m=>aG e 0 fun vr=>ak m vr fun vs=>aO vs fun vt=>af .gtr vt (N .i64 64) fun i=>aa i false (fun c=>aG e 1 fun vu=>c vu m) (fun c=>c .undef m) fun vv n=>aa i false (fun U=>ak n vv fun vw=>U vw n) (fun c=>c .undef n) fun vx v=>aa i false (fun V=>aO vx fun vy=>V vy v) (fun c=>c .undef v) fun vz w=>aa i false (fun W=>af .gtr vz (N .i64 512) fun v0=>W v0 w) (fun c=>c .undef w) fun v1 h=>aC i (Bo true) v1 fun v2=>au v2 ( dV [(St []),(.sc (.slice none 0 0)),(N .i64 0)] [] fun v3=>aG t 4 fun C=>ak h C fun D=>aA h d v3 3 fun p=>ak p C fun v4=>(v4=D∧aH p d 3 fun Z=>Q (.tup [Z,D,(N .i64 2)]) p)) ( aG d 1 fun v5=>ak h v5 fun v6=>aH h e 2 fun v7=>ek p4 1 [(St []),(St [])] [(0,2,v7)] fun Y S=>aV Y S h fun v8 G=>appW p4 2 32 [(St []),(St [])] false v6 v8 G fun v9 H=>aG d 1 fun wa=>aA H wa v9 1 fun q=>aG e 0 fun wb=>ak q wb fun wc=>aX .add wc (St [0]) fun wd=>aG e 1 fun we=>ak q we fun wf=>aX .add wd wf fun wg=>aX .add wg (St [0]) fun wh=>aX .add (ag j 0) wh fun wi=>af .add (ag j 1) (N .i64 1) fun wj=>X [wi,wj] q)) ( bN (jM 5 a0 (some (N .i64 1)) none none) fun wk=>p6 [wk,(ag j 0)] o fun wl I=>aG d 0 fun wm=>aA I wm wl 1 fun x=>aH x d 3 fun wn=>aA x d wn 3 fun y=>aH y d 3 fun va=>Q (.tup [va,(N .i64 0),(N .i64 0)]) y)) [(St []),(N .i64 0)] F
def tC (p1 p2:Nat) (p3 p4 p5 p6 p7:aj) (a0:AV) (M0:RM) (Q:ai) : Prop:=mW p1 a0 fun vf W=>aV vf W M0 fun h G=>aV (.row [(St []),(St []),(.sc (.slice none 0 0)),(St []),(N .i64 0)] false p2 0) (fun d=>.ptr d 0) G fun A t=>aG h 0 fun vh=>ak t vh fun vi=>p3 [vi,(St [114,97,119,46])] t fun z H=>aJ z 0 fun vj=>aJ z 1 fun vk=>p4 [vj] H fun r S=>aJ r 0 fun vl=>aJ r 1 fun B=>aJ r 2 fun C=>aV (.row [(St []),(St []),(.sc (.slice none 0 0)),(St []),(N .i64 0)] false p2 0) (fun d=>.ptr d 0) S fun g U=>aA U g vl 5 fun x=>aG h 1 fun vm=>ak x vm fun vn=>aG g 3 fun vo=>aA x vo vn 1 fun y=>bT (fun s=>eX vk fun j=>aa j true (fun c=>aG g 1 fun vp=>c vp y) (fun c=>c .undef y) fun vq p=>aa j true (fun ve=>ak p vq fun vr=>ve vr p) (fun c=>c .undef p) fun vs u=>aa j true (fun X=>p5 [vs] u fun vt I=>X vt I) (fun c=>c .undef u) fun vu l=>aC j vu (Bo false) fun vv=>au vv ( aG h 1 fun vw=>ak l vw fun vx=>p6 [vx] l fun vy L=>aG g 3 fun vz=>aA L vz vy 1 fun O=>s [] O) ( s [] l)) (fun wf v=>aH v g 5 fun v0=>p7 [v0,B] v fun D P=>aJ D 0 fun v1=>aJ D 1 fun v2=>aV (.row [(St []),(St [])] false p1 0) (fun d=>.ptr d 0) P fun q R=>aA R q v1 2 fun m=>aH m g 5 fun v3=>aK C true (fun Y=>Y v2 m none) (fun c=>c .undef m none) fun v4 n d=>aC C v4 (Bo false) fun e=>aK e true (fun Z=>aH n q 2 fun v5=>Z v5 n none) (fun c=>c .undef n none) fun E o wc=>aK e true (fun va=>aH o h 2 fun v7=>va v7 o none) (fun c=>c .undef o none) fun F w wd=>aK e true (fun vb=>lc false [2,2] E F fun v9=>vb v9 w none) (fun c=>c .undef w none) fun wa V we=>aC e wa (Bo false) fun wb=>aA V A v3 5 fun i=>Ao e true (fun vc=>aH i q 2 fun v6=>(v6=E∧vc)) (fun c=>c) (Ao e true (fun vd=>aH i h 2 fun v8=>(v8=F∧vd)) (fun c=>c) (aH i A 5 fun vg=>Q (.tup [vg,B,wb]) i)))
def sV (p1 p2:Nat) (p3 p4 p5 p6:aj) (a0:AV) (M0:RM) (Q:ai) : Prop:=mW p1 a0 fun U I=>aV U I M0 fun i F=>aV (.row [(St []),(St [])] false p2 0) (fun e=>.ptr e 0) F fun h l=>aH l i 5 fun vx=>aG i 3 fun D=>ak l D fun E=>Nn (.row [(St []),(St [])] false p2 0) (fun e=>.ptr e 0) l fun d G e=>p3 [vx] G fun vy n=>ak n D fun vz=>(vz=E∧(OP e n (.row [(St []),(St [])] false p2 0) (fun e=>.ptr e 0) d∧dV [(St []),(St [])] [(0,1,vy),(1,1,E)] fun Y=>aA n d Y 2 fun t=>aG i 1 fun Z=>ak t Z fun va=>p4 [va] t fun vb j=>eX vb fun vc=>au vc ( aH j d 2 fun vd=>aA j h vd 2 fun w=>aH w h 2 fun V=>Q V w) ( aG i 3 fun ve=>ak j ve fun vf=>p5 [vf] j fun z x=>aJ z 0 fun A=>aJ z 1 fun vg=>af .eql vg (N .i64 0) fun g=>aK g true (fun c=>c A x none) (fun c=>c .undef x none) fun vh y v3=>aK g true (fun S=>aG i 3 fun vk=>S vk y none) (fun c=>c .undef y none) fun B m v0=>aK g true (fun L=>ak m B fun vl=>L vl m none) (fun c=>c .undef m none) fun C q v1=>aa g true (fun O=>p6 [vh] q fun vi H=>O vi H) (fun c=>c .undef q) fun vj o=>Ao g true (fun P=>ak o B fun vm=>(vm=C∧P)) (fun c=>c) (aK g true (fun R=>aX .eql vj C fun vn=>R vn o none) (fun c=>c .undef o none) fun vo p v2=>aC g vo (Bo false) fun vp=>au vp ( aG d 1 fun vq=>aA p vq A 1 fun r=>aH r d 2 fun vr=>aA r h vr 2 fun s=>aH s h 2 fun W=>Q W s) ( aG d 0 fun vs=>ak p vs fun vt=>aX .add (St [114,97,119,46]) vt fun vu=>aG d 0 fun vv=>aA p vv vu 1 fun u=>aH u d 2 fun vw=>aA u h vw 2 fun v=>aH v h 2 fun X=>Q X v)))))
def nP (a0:AV) (M0:RM) (Q:ai) : Prop:=aX .eql a0 (St [98,101,103,105,110]) fun d=>aa d false (fun c=>c a0 M0) (fun c=>c .undef M0) fun s g=>aa d false (fun l=>aX .eql s (St [118,101,114,115,105,111,110]) fun t=>l t g) (fun c=>c .undef g) fun u h=>aC d (Bo true) u fun e=>aa e false (fun m=>m a0 h) (fun c=>c .undef h) fun o i=>aa e false (fun n=>aX .eql o (St [101,110,100]) fun p=>n p i) (fun c=>c .undef i) fun q j=>aC e (Bo true) q fun r=>Q r j
def nJ (p1:aj) (a0 a1:AV) (M0:RM) (Q:ai) : Prop:=af .eql a1 (N .i64 0) fun h=>au h ( Q a0 M0) ( aX .add a0 (St [35]) fun i=>af .add a1 (N .i64 1) fun d=>p1 [d] M0 fun e c=>aX .add i e fun g=>Q g c)
def oM (p1:Nat) (p2:aj) (a0 a1:AV) (M0:RM) (Q:ai) : Prop:=mW p1 a0 fun H w=>aV H w M0 fun d j=>aG d 1 fun vs=>ak j vs fun vt=>aX .neq vt a1 fun i=>aa i false (fun c=>aG d 0 fun I=>c I j) (fun c=>c .undef j) fun L l=>aa i false (fun A=>ak l L fun O=>A O l) (fun c=>c .undef l) fun P t=>aa i false (fun F=>aX .neq P (St []) fun R=>F R t) (fun c=>c .undef t) fun S u=>aC i (Bo true) S fun g=>aa g false (fun G=>aG d 2 fun U=>G U u) (fun c=>c .undef u) fun V m=>aa g false (fun x=>ak m V fun W=>x W m) (fun c=>c .undef m) fun X o=>aa g false (fun y=>bS X fun Y=>y Y o) (fun c=>c .undef o) fun Z p=>aa g false (fun z=>af .gtr Z (N .i64 0) fun va=>z va p) (fun c=>c .undef p) fun vb e=>aC g (Bo true) vb fun vc=>au vc ( Q (Bo false) e) ( aX .eql a1 (St [118,101,114,115,105,111,110]) fun vd=>au vd ( aG d 3 fun ve=>ak e ve fun vf=>aX .eql vf (St [52,46,48]) fun vg=>Q vg e) ( aG d 3 fun vh=>ak e vh fun vi=>p2 [vi,(St [118,99,97,114,100])] e fun h q=>aa h true (fun B=>aG d 3 fun vj=>B vj q) (fun c=>c .undef q) fun vk n=>aa h true (fun C=>ak n vk fun vl=>C vl n) (fun c=>c .undef n) fun vm r=>aa h true (fun D=>aO vm fun vn=>D vn r) (fun c=>c .undef r) fun vo s=>aa h true (fun E=>af .eql vo (N .i64 5) fun vp=>E vp s) (fun c=>c .undef s) fun vq v=>aC h vq (Bo false) fun vr=>Q vr v))
def oG (p1 p2:Nat) (p3 p4:aj) (a0 a1:AV) (M0:RM) (Q:ai) : Prop:=bT (fun p=>bS a0 fun vu=>bA (fun G o i=>af .lss (ag o 0) vu fun I=>au I ( bf a0 (ag o 0) 5 fun L=>aH i L 5 fun O=>aV (.row [(St []),(St []),(.sc (.slice none 0 0)),(St []),(N .i64 0)] false p1 0) (fun y=>.ptr y 0) i fun d t=>aA t d O 5 fun j=>aG d 1 fun P=>ak j P fun R=>aX .neq R (St [117,105,100]) fun h=>aa h false (fun c=>aG d 0 fun S=>c S j) (fun c=>c .undef j) fun U n=>aa h false (fun E=>ak n U fun V=>E V n) (fun c=>c .undef n) fun W s=>aa h false (fun F=>aX .neq W (St []) fun X=>F X s) (fun c=>c .undef s) fun Y g=>aC h (Bo true) Y fun Z=>au Z ( af .add (ag o 0) (N .i64 1) fun vo=>G [vo] g) ( aG d 3 fun va=>ak g va fun vb=>aO vb fun vc=>af .geq vc (N .i64 1) fun e=>aa e true (fun A=>aG d 3 fun vd=>A vd g) (fun c=>c .undef g) fun ve l=>aa e true (fun B=>ak l ve fun vf=>B vf l) (fun c=>c .undef l) fun vg q=>aa e true (fun C=>aO vg fun vh=>C vh q) (fun c=>c .undef q) fun vi r=>aa e true (fun D=>af .leq vi (N .i64 64) fun vj=>D vj r) (fun c=>c .undef r) fun vk m=>aC e vk (Bo false) fun vl=>au vl ( aG d 3 fun vm=>ak m vm fun vn=>Q vn m) ( p [] m))) ( p [] i)) [(N .i64 0)] M0) (fun vv u=>qo p2 a1 fun H z=>aV H z u fun vp v=>p3 [vp] v fun vq w=>p4 [vq] w fun vr x=>bN (aS vr none (some (N .i64 16))) fun vs=>aX .add (St [99,45]) vs fun vt=>Q vt x)
def oD (p1:Nat) (p2 p3 p4:aj) (p5:Nat) (p6:aj) (p7:Nat) (p8:aj) (a0:AV) (M0:RM) (Q:ai) : Prop:=aV (.row [(St []),(St []),(.sc (.slice none 0 0)),(St []),(N .i64 0)] false p1 0) (fun h=>.ptr h 0) M0 fun c P=>p2 [a0] P fun B R=>aJ B 0 fun vy=>aJ B 1 fun C=>aG c 1 fun vz=>aA R vz vy 1 fun S=>bT (fun s=>p3 [C,(St [46])] S fun D m=>aJ D 0 fun v0=>aJ D 1 fun v1=>au v1 ( aG c 1 fun v2=>ak m v2 fun v3=>aG c 0 fun v4=>aA m v4 v3 1 fun ve=>p2 [v0] ve fun E vg=>aJ E 0 fun v5=>aJ E 1 fun v6=>aG c 1 fun v7=>aA vg v7 v5 1 fun vi=>s [v6] vi) ( s [C] m)) (fun w9 vj=>bA (fun vq j vk=>p4 [(ag j 0),(St [59])] vk fun v8 g=>au v8 ( aV (.row [(St []),(.sc (.slice none 0 0))] false p5 0) (fun h=>.ptr h 0) g fun i U=>bN (aS (ag j 0) (some (N .i64 1)) none) fun v9=>p2 [v9] U fun F V=>aJ F 0 fun wa=>aJ F 1 fun G=>aG i 0 fun wb=>aA V wb wa 1 fun W=>p4 [G,(St [61])] W fun wc t=>eX wc fun wd=>au wd ( dV [(St []),(St []),(.sc (.slice none 0 0)),(St []),(N .i64 0)] [] fun we=>aA t c we 5 fun u=>aH u c 5 fun vu=>Q (.tup [vu,(N .i64 0),(Bo false)]) u) ( bA (fun vr r e=>au (ag r 1) ( bN (aS (ag r 0) (some (N .i64 1)) none) fun wg=>p6 [wg] e fun o l=>aJ o 0 fun wh=>aJ o 1 fun H=>aJ o 2 fun wi=>eX wi fun wj=>au wj ( dV [(St []),(St []),(.sc (.slice none 0 0)),(St []),(N .i64 0)] [] fun wk=>aA l c wk 5 fun v=>aH v c 5 fun vv=>Q (.tup [vv,(N .i64 0),(Bo false)]) v) ( aG i 1 fun wl=>ak l wl fun wm=>ek p7 1 [(St [])] [(0,1,wh)] fun vs vl=>aV vs vl l fun wn X=>appW p7 1 16 [(St [])] false wm wn X fun wo Y=>aG i 1 fun wp=>aA Y wp wo 1 fun Z=>p4 [H,(St [44])] Z fun wf va=>vr [H,wf] va)) ( aG c 2 fun wq=>ak e wq fun wr=>aH e i 2 fun ws=>ek p5 1 [(St []),(.sc (.slice none 0 0))] [(0,2,ws)] fun vt vm=>aV vt vm e fun wt vb=>appW p5 2 40 [(St []),(.sc (.slice none 0 0))] false wr wt vb fun wu vc=>aG c 2 fun wv=>aA vc wv wu 1 fun vd=>vq [(ag r 0)] vd)) [G,(Bo true)] t)) ( aX .eql (ag j 0) (St []) fun ww=>au ww ( aH g c 5 fun wx=>aA g c wx 5 fun w=>aH w c 5 fun vw=>Q (.tup [vw,(N .i64 0),(Bo true)]) w) ( p3 [(ag j 0),(St [35])] g fun I vf=>aJ I 0 fun wy=>aJ I 1 fun p=>p8 [wy] vf fun L n=>aJ L 0 fun O=>aJ L 1 fun wz=>aH n c 5 fun w0=>af .sub O (N .i64 1) fun w1=>aK p true (fun d=>d wz n none) (fun d=>d .undef n none) fun w2 x h=>aK p true (fun vn=>FN false w2 (.sc .nilIface) fun w3=>vn w3 x none) (fun d=>d .undef x none) fun w4 y xa=>aC p w4 (Bo false) fun q=>aK q true (fun vo=>vo O y none) (fun d=>d .undef y none) fun w5 z xb=>aK q true (fun vp=>af .geq w5 (N .i64 2) fun w6=>vp w6 z none) (fun d=>d .undef z none) fun w7 vh xc=>aC q w7 (Bo false) fun w8=>aA vh c w0 5 fun A=>aH A c 5 fun vx=>Q (.tup [vx,w1,w8]) A))) [(ag w9 0)] vj)
def qc (a0:AV) (M0:RM) (Q:ai) : Prop:=bT (fun o=>bT (fun c=>aX .eql a0 (St [102,110]) fun i=>au i ( c [i] M0) ( aX .eql a0 (St [110,105,99,107,110,97,109,101]) fun j=>au j ( c [j] M0) ( aX .eql a0 (St [116,101,108]) fun l=>au l ( c [l] M0) ( aX .eql a0 (St [101,109,97,105,108]) fun m=>au m ( c [m] M0) ( aX .eql a0 (St [110,111,116,101]) fun n=>au n ( c [n] M0) ( aX .eql a0 (St [111,114,103]) fun e=>au e ( c [e] M0) ( aX .eql a0 (St [116,105,116,108,101]) fun g=>au g ( c [g] M0) ( aX .eql a0 (St [114,111,108,101]) fun h=>au h ( c [h] M0) ( aX .eql a0 (St [99,97,116,101,103,111,114,105,101,115]) fun q=>c [q] M0))))))))) (fun r d=>au (ag r 0) ( Q (Bo true) d) ( o [] d))) (fun s p=>Q (Bo false) p)
def qW (p1 p2:Nat) (p3:aj) (a0:AV) (M0:RM) (Q:ai) : Prop:=mW p1 a0 fun E B=>aV E B M0 fun h d=>aG h 1 fun vo=>ak d vo fun u=>bT (fun n=>aG h 0 fun F=>ak d F fun G=>aX .neq G (St []) fun H=>au H ( aG h 0 fun I=>ak d I fun L=>aX .add L (St [46]) fun O=>aX .add O u fun P=>n [P] d) ( n [u] d)) (fun vp q=>aG h 2 fun R=>ak q R fun s=>bS s fun S=>bA (fun C e i=>af .lss (ag e 1) S fun U=>au U ( bf s (ag e 1) 2 fun V=>aH i V 2 fun W=>aV (.row [(St []),(.sc (.slice none 0 0))] false p2 0) (fun A=>.ptr A 0) i fun m z=>aA z m W 2 fun j=>aG m 0 fun X=>ak j X fun Y=>aX .add (St [59]) Y fun Z=>aX .add Z (St [61]) fun va=>aX .add (ag e 0) va fun vb=>aG m 1 fun vc=>ak j vc fun t=>bS t fun vd=>bA (fun D c g=>af .lss (ag c 1) vd fun ve=>au ve ( bT (fun v=>bf t (ag c 1) 1 fun vf=>ak g vf fun l=>bT (fun p=>af .gtr (ag c 1) (N .i64 0) fun vg=>au vg ( aX .add (ag c 0) (St [44]) fun vh=>p [vh] g) ( p [(ag c 0)] g)) (fun vq w=>bT (fun o=>p3 [l,(St [44,59,58,35])] w fun vi r=>au vi ( aX .add (St [34]) l fun vj=>aX .add vj (St [34]) fun vk=>o [vk] r) ( o [l] r)) (fun vr x=>aX .add (ag vq 0) (ag vr 0) fun vl=>v [vl] x))) (fun vs y=>af .add (ag c 1) (N .i64 1) fun vm=>D [(ag vs 0),vm] y)) ( af .add (ag e 1) (N .i64 1) fun vn=>C [(ag c 0),vn] g)) [vb,(N .i64 0)] j) ( Q (ag e 0) i)) [(ag vp 0),(N .i64 0)] q)
def lq (p1 p2:aj) (a0 a1:AV) (M0:RM) (Q:ai) : Prop:=aO a0 fun wk=>aO a1 fun wl=>Gm false wk wl fun wm=>bA (fun vz h i=>af .lss (ag h 0) wm fun wn=>au wn ( bT (fun A=>cK a0 (ag h 0) fun j=>cK a1 (ag h 0) fun l=>af .or j l fun wp=>af .geq wp (N .u8 128) fun wq=>au wq ( bN (aS a0 (some (ag h 0)) none) fun w8=>bN (aS a1 (some (ag h 0)) none) fun w9=>A7 w8 fun v1 vi=>aV v1 vi i fun xa vd=>bA (fun w p vf=>AO xa vf fun vb t=>aJ vb 0 fun xb=>au xb ( aJ vb 2 fun n=>aO (ag p 0) fun xc=>af .eql xc (N .i64 0) fun xd=>au xd ( Q (Bo false) t) ( p1 [(ag p 0)] t fun vc u=>aJ vc 0 fun o=>aJ vc 1 fun xe=>bN (aS (ag p 0) (some xe) none) fun y=>af .eql o n fun xf=>au xf ( w [y] u) ( bT (fun C=>af .lss o n fun xg=>au xg ( C [o,n] u) ( C [n,o] u)) (fun d v=>af .lss (ag d 1) (N .i32 128) fun xh=>au xh ( af .leq (N .i32 65) (ag d 0) fun z=>aa z true (fun c=>c (ag d 0) v) (fun c=>c .undef v) fun xi va=>aa z true (fun vj=>af .leq xi (N .i32 90) fun xj=>vj xj va) (fun c=>c .undef va) fun xk D=>aC z xk (Bo false) fun g=>aa g true (fun vk=>vk (ag d 1) D) (fun c=>c .undef D) fun xl E=>aa g true (fun vl=>vl (ag d 0) E) (fun c=>c .undef E) fun v2 F=>aa g true (fun vm=>af .add v2 (N .i32 97) fun v3=>vm v3 F) (fun c=>c .undef F) fun v4 G=>aa g true (fun vn=>af .sub v4 (N .i32 65) fun v5=>vn v5 G) (fun c=>c .undef G) fun v6 H=>aa g true (fun vo=>af .eql xl v6 fun v7=>vo v7 H) (fun c=>c .undef H) fun v8 I=>aC g v8 (Bo false) fun v9=>au v9 ( w [y] I) ( Q (Bo false) I)) ( p2 [(ag d 0)] v fun wa ve=>bA (fun v0 q L=>af .neq (ag q 0) (ag d 0) fun m=>aa m true (fun vp=>vp (ag q 0) L) (fun c=>c .undef L) fun wb O=>aa m true (fun vq=>vq (ag d 1) O) (fun c=>c .undef O) fun wc P=>aa m true (fun vr=>af .lss wb wc fun wd=>vr wd P) (fun c=>c .undef P) fun we s=>aC m we (Bo false) fun wf=>au wf ( p2 [(ag q 0)] s fun wg vg=>v0 [wg] vg) ( af .eql (ag q 0) (ag d 1) fun wh=>au wh ( w [y] s) ( Q (Bo false) s))) [wa] ve))))) ( aO (ag p 0) fun wi=>af .eql wi (N .i64 0) fun wj=>Q wj t)) [w9] vd) ( af .eql l j fun wr=>au wr ( A [] i) ( bT (fun B=>af .lss l j fun ws=>au ws ( B [l,j] i) ( B [j,l] i)) (fun r R=>af .leq (N .u8 65) (ag r 0) fun x=>aa x true (fun vs=>vs (ag r 0) R) (fun c=>c .undef R) fun wt S=>aa x true (fun vt=>af .leq wt (N .u8 90) fun wu=>vt wu S) (fun c=>c .undef S) fun wv U=>aC x wv (Bo false) fun e=>aa e true (fun vu=>vu (ag r 1) U) (fun c=>c .undef U) fun ww V=>aa e true (fun vv=>vv (ag r 0) V) (fun c=>c .undef V) fun wx W=>aa e true (fun vw=>af .add wx (N .u8 97) fun wy=>vw wy W) (fun c=>c .undef W) fun wz X=>aa e true (fun vx=>af .sub wz (N .u8 65) fun w0=>vx w0 X) (fun c=>c .undef X) fun w1 Y=>aa e true (fun vy=>af .eql ww w1 fun w2=>vy w2 Y) (fun c=>c .undef Y) fun w3 Z=>aC e w3 (Bo false) fun w4=>au w4 ( A [] Z) ( Q (Bo false) Z))))) (fun xm vh=>af .add (ag h 0) (N .i64 1) fun wo=>vz [wo] vh)) ( aO a0 fun w5=>aO a1 fun w6=>af .eql w5 w6 fun w7=>Q w7 i)) [(N .i64 0)] M0
def uk (p1:aj) (a0:AV) (M0:RM) (Q:ai) : Prop:=aO a0 fun h=>p1 [a0,(St [97,98,99,100,101,102,103,104,105,106,107,108,109,110,111,112,113,114,115,116,117,118,119,120,121,122,48,49,50,51,52,53,54,55,56,57,45])] M0 fun i d=>aO i fun j=>af .sub h j fun c=>bN (aS a0 none (some c)) fun e=>bN (aS a0 (some c) none) fun g=>Q (.tup [e,g]) d
def qU (p1 p2 p3:aj) (a0:AV) (M0:RM) (Q:ai) : Prop:=p1 [a0,(St [34])] M0 fun h e=>aJ h 0 fun n=>aJ h 1 fun o=>au o ( p2 [n,(St [34])] e fun c l=>aJ c 0 fun p=>aJ c 1 fun q=>aJ c 2 fun r=>Q (.tup [p,q,r]) l) ( p3 [a0,(St [44,59,58,35])] e fun i g=>bT (fun d=>af .lss i (N .i64 0) fun s=>au s ( aO a0 fun t=>d [t] g) ( d [i] g)) (fun j m=>bN (aS a0 none (some (ag j 0))) fun u=>bN (aS a0 (some (ag j 0)) none) fun v=>Q (.tup [u,v,(Bo true)]) m))
def eY (p1:aj) (p2:Nat) (p3 p4 p5:aj) (a0 a1:AV) (M0:RM) (Q:ai) : Prop:=aO a1 fun e=>af .eql e (N .i64 0) fun q=>aa q false (fun c=>c a1 M0) (fun c=>c .undef M0) fun w2 w=>aa q false (fun vk=>vk a0 w) (fun c=>c .undef w) fun w3 x=>aa q false (fun vn=>aX .eql w2 w3 fun w4=>vn w4 x) (fun c=>c .undef x) fun w5 h=>aC q (Bo true) w5 fun w6=>au w6 ( Q (N .i64 0) h) ( af .eql e (N .i64 1) fun w7=>au w7 ( cK a1 (N .i64 0) fun w8=>p1 [a0,w8] h fun w9 vj=>Q w9 vj) ( aO a0 fun xa=>af .geq e xa fun xb=>au xb ( Q (N .i64 (-1)) h) ( ak h (GI h p2) fun xc=>af .leq e xc fun r=>aa r true (fun v3=>v3 a0 h) (fun c=>c .undef h) fun xd vb=>aa r true (fun v8=>aO xd fun xe=>v8 xe vb) (fun c=>c .undef vb) fun xf y=>aa r true (fun vl=>af .leq xf (N .i64 64) fun xg=>vl xg y) (fun c=>c .undef y) fun xh z=>aC r xh (Bo false) fun xi=>au xi ( p3 [a0,a1] z fun xj vh=>Q xj vh) ( cK a1 (N .i64 0) fun vf=>cK a1 (N .i64 1) fun xk=>aO a0 fun xl=>af .sub xl e fun xm=>af .add xm (N .i64 1) fun t=>bA (fun v9 j s=>af .lss (ag j 0) t fun xn=>au xn ( bT (fun v=>cK a0 (ag j 0) fun xo=>af .neq xo vf fun xp=>au xp ( af .add (ag j 0) (N .i64 1) fun xq=>bN (aS a0 (some xq) (some t)) fun xr=>p1 [xr,vf] s fun vg A=>af .lss vg (N .i64 0) fun xs=>au xs ( Q (N .i64 (-1)) A) ( af .add vg (N .i64 1) fun xt=>af .add (ag j 0) xt fun xu=>v [xu] A)) ( v [(ag j 0)] s)) (fun o B=>af .add (ag o 0) (N .i64 1) fun xv=>cK a0 xv fun xw=>af .eql xw xk fun d=>aa d true (fun vm=>vm a0 B) (fun c=>c .undef B) fun xx C=>aa d true (fun vo=>vo (ag o 0) C) (fun c=>c .undef C) fun xy D=>aa d true (fun vp=>vp (ag o 0) D) (fun c=>c .undef D) fun xz E=>aa d true (fun vq=>vq e E) (fun c=>c .undef E) fun x0 F=>aa d true (fun vr=>af .add xz x0 fun x1=>vr x1 F) (fun c=>c .undef F) fun x2 G=>aa d true (fun vs=>bN (aS xx (some xy) (some x2)) fun x3=>vs x3 G) (fun c=>c .undef G) fun x4 H=>aa d true (fun vt=>vt a1 H) (fun c=>c .undef H) fun x5 I=>aa d true (fun vu=>aX .eql x4 x5 fun x6=>vu x6 I) (fun c=>c .undef I) fun x7 l=>aC d x7 (Bo false) fun x8=>au x8 ( Q (ag o 0) l) ( af .add (ag o 0) (N .i64 1) fun g=>af .add (ag j 1) (N .i64 1) fun u=>ak l (GI l p2) fun wa=>af .leq e wa fun n=>aa n true (fun vv=>vv u l) (fun c=>c .undef l) fun wb L=>aa n true (fun vw=>vw g L) (fun c=>c .undef L) fun wc O=>aa n true (fun vx=>p4 [wc] O fun wd vi=>vx wd vi) (fun c=>c .undef O) fun we P=>aa n true (fun vy=>af .gtr wb we fun wf=>vy wf P) (fun c=>c .undef P) fun wg m=>aC n wg (Bo false) fun wh=>au wh ( bN (aS a0 (some g) none) fun wi=>p3 [wi,a1] m fun vd R=>af .geq vd (N .i64 0) fun wj=>au wj ( af .add vd g fun wk=>Q wk R) ( Q (N .i64 (-1)) R)) ( ak m (GI m p2) fun wl=>af .gtr e wl fun i=>aa i true (fun vz=>vz u m) (fun c=>c .undef m) fun wm S=>aa i true (fun v0=>v0 g S) (fun c=>c .undef S) fun wn U=>aa i true (fun v1=>oZ .shr wn (N .u64 4) fun wo=>v1 wo U) (fun c=>c .undef U) fun wp V=>aa i true (fun v2=>af .add (N .i64 4) wp fun wq=>v2 wq V) (fun c=>c .undef V) fun wr W=>aa i true (fun v4=>af .geq wm wr fun ws=>v4 ws W) (fun c=>c .undef W) fun wt X=>aC i wt (Bo false) fun p=>aa p true (fun v5=>v5 g X) (fun c=>c .undef X) fun wu Y=>aa p true (fun v6=>v6 t Y) (fun c=>c .undef Y) fun wv Z=>aa p true (fun v7=>af .lss wu wv fun ww=>v7 ww Z) (fun c=>c .undef Z) fun wx va=>aC p wx (Bo false) fun wy=>au wy ( bN (aS a0 (some g) none) fun wz=>p5 [wz,a1] va fun ve vc=>af .lss ve (N .i64 0) fun w0=>au w0 ( Q (N .i64 (-1)) vc) ( af .add g ve fun w1=>Q w1 vc)) ( v9 [g,u] va))))) ( Q (N .i64 (-1)) s)) [(N .i64 0),(N .i64 0)] z))))
def ja (p1 p2 p3:aj) (a0 a1:AV) (M0:RM) (Q:ai) : Prop:=af .leq (N .i32 0) a1 fun s=>aa s true (fun c=>c a1 M0) (fun c=>c .undef M0) fun v8 x=>aa s true (fun vi=>af .lss v8 (N .i32 128) fun v9=>vi v9 x) (fun c=>c .undef x) fun wa q=>aC s wa (Bo false) fun wb=>au wb ( oF .u8 a1 fun wc=>p1 [a0,wc] q fun wd vd=>Q wd vd) ( af .eql a1 (N .i32 65533) fun we=>au we ( A7 a0 fun v7 vh=>aV v7 vh q fun wf ve=>bA (fun v4 x2 vf=>AO wf vf fun t r=>aJ t 0 fun wg=>au wg ( aJ t 1 fun wh=>aJ t 2 fun wi=>af .eql wi (N .i32 65533) fun wj=>au wj ( Q wh r) ( v4 [] r)) ( Q (N .i64 (-1)) r)) [] ve) ( p2 [a1] q fun wk Z=>eX wk fun wl=>au wl ( Q (N .i64 (-1)) Z) ( EI a1 fun g=>aO g fun wm=>af .sub wm (N .i64 1) fun h=>bA (fun v6 e p=>aO a0 fun wn=>af .lss (ag e 0) wn fun wo=>au wo ( bT (fun w=>cK a0 (ag e 0) fun wp=>cK g h fun wq=>af .neq wp wq fun wr=>au wr ( af .add (ag e 0) (N .i64 1) fun ws=>bN (aS a0 (some ws) none) fun wt=>cK g h fun wu=>p1 [wt,wu] p fun va y=>af .lss va (N .i64 0) fun wv=>au wv ( Q (N .i64 (-1)) y) ( af .add va (N .i64 1) fun ww=>af .add (ag e 0) ww fun wx=>w [wx] y)) ( w [(ag e 0)] p)) (fun v vb=>bA (fun v5 o n=>aO g fun wy=>af .lss (ag o 0) wy fun wz=>au wz ( af .sub (ag v 0) (ag o 0) fun w1=>cK a0 w1 fun w2=>af .sub h (ag o 0) fun w3=>cK g w3 fun w4=>af .neq w2 w4 fun w5=>au w5 ( af .add (ag e 1) (N .i64 1) fun u=>af .add (ag v 0) (N .i64 1) fun i=>aa (Bo true) true (fun vj=>vj u n) (fun c=>c .undef n) fun w7 z=>aa (Bo true) true (fun vk=>vk i z) (fun c=>c .undef z) fun w8 A=>aa (Bo true) true (fun vl=>p3 [w8] A fun w9 vc=>vl w9 vc) (fun c=>c .undef A) fun xa B=>aa (Bo true) true (fun vm=>af .gtr w7 xa fun xb=>vm xb B) (fun c=>c .undef B) fun xc C=>aC (Bo true) xc (Bo false) fun j=>aa j true (fun vn=>vn i C) (fun c=>c .undef C) fun xd D=>aa j true (fun vo=>vo a0 D) (fun c=>c .undef D) fun xe E=>aa j true (fun vp=>aO xe fun xf=>vp xf E) (fun c=>c .undef E) fun xg F=>aa j true (fun vq=>af .lss xd xg fun xh=>vq xh F) (fun c=>c .undef F) fun xi G=>aC j xi (Bo false) fun l=>aa l false (fun vr=>vr (Bo false) G) (fun c=>c .undef G) fun d H=>aa d true (fun vs=>vs u H) (fun c=>c .undef H) fun xj I=>aa d true (fun vt=>vt i I) (fun c=>c .undef I) fun xk L=>aa d true (fun vu=>oZ .shr xk (N .u64 4) fun xl=>vu xl L) (fun c=>c .undef L) fun xm O=>aa d true (fun vv=>af .add (N .i64 4) xm fun xn=>vv xn O) (fun c=>c .undef O) fun xo P=>aa d true (fun vw=>af .geq xj xo fun xp=>vw xp P) (fun c=>c .undef P) fun xq R=>aa l false (fun vx=>aC d xq (Bo false) fun xr=>vx xr R) (fun c=>c .undef R) fun xs S=>aa l false (fun vy=>vy xs S) (fun c=>c .undef S) fun m U=>aa m true (fun vz=>vz i U) (fun c=>c .undef U) fun xt V=>aa m true (fun v0=>v0 a0 V) (fun c=>c .undef V) fun xu W=>aa m true (fun v1=>aO xu fun xv=>v1 xv W) (fun c=>c .undef W) fun xw X=>aa m true (fun v2=>af .lss xt xw fun xx=>v2 xx X) (fun c=>c .undef X) fun xy Y=>aa l false (fun v3=>aC m xy (Bo false) fun xz=>v3 xz Y) (fun c=>c .undef Y) fun x0 vg=>aC l (Bo true) x0 fun x1=>au x1 ( False) ( v6 [i,u] vg)) ( af .add (ag o 0) (N .i64 1) fun w0=>v5 [w0] n)) ( af .sub (ag v 0) h fun w6=>Q w6 n)) [(N .i64 1)] vb)) ( Q (N .i64 (-1)) p)) [h,(N .i64 0)] Z)))
end Go.Ab.Vc
set_option maxRecDepth 10000
namespace Go.Ab.Vc
open Go Go.Ab Go.Ab.Vl Go.Ab.Sm
def Jb (c:aj) : Prop:=∀ {M:RM} {s:Str} {Q:ai},Q (Bo (Gr s)) M→c [St s] M Q
theorem Qt:Jb fun args M Q=>∃ a0,args=[a0]∧nP a0 M Q:=by
 intro M s Q hQ
 refine⟨_,rfl, ?_⟩
 unfold nP
 simp only[dJ]
 rw[fV]
 have e1:∀ x:Str,(s == x)=decide (s=x):=fun x=>by by_cases h:s=x <;> simp[h]
 rw[e1]
 unfold Gr at hQ
 cases h1:decide (s=tL) with
 | true =>
   simp only[h1,Bool.true_or] at hQ
   simp only[gY,gD]
   exact hQ
 | false =>
   simp only[h1,Bool.false_or] at hQ
   simp only[ko,iH]
   rw[fV,e1]
   cases h2:decide (s=iB) with
   | true=>simp only[h2,Bool.true_or] at hQ; simp only[gY,gD]; exact hQ
   | false =>
     simp only[h2,Bool.false_or] at hQ
     simp only[ko,iH]
     rw[fV,e1]
     exact hQ
def IR (c:aj) : Prop:=∀ {M:RM} {s:Str} {Q:ai},Q (Bo (xE s)) M→c [St s] M Q
theorem Pw (s:Str) : xE s=MF.any fun x=>s == x:=by
 unfold xE
 cases h:MF.any (fun x=>s == x) with
 | true =>
   obtain⟨x,h1,h2⟩:=List.any_eq_true.1 h
   have e:s=x:=by simpa using h2
   subst e
   exact decide_eq_true h1
 | false =>
   refine decide_eq_false fun hm=>?_
   have:=List.any_eq_false.1 h s hm
   simp at this
theorem QJ:IR fun args M Q=>∃ a0,args=[a0]∧qc a0 M Q:=by
 intro M s Q hQ
 refine⟨_,rfl, ?_⟩
 unfold qc
 simp only[dB]
 rw[Pw] at hQ
 refine bI (fun ys M'=>M'=M∧(MF.any fun x=>s == x)=false) (fun ys M' h=>by obtain⟨rfl,h⟩:=h; rw[h] at hQ; exact hQ) ?_
 intro J hJ
 refine bI (fun ys M'=>M'=M∧ys=[Bo (MF.any fun x=>s == x)]) (fun ys M' h=>?_) ?_
 ·obtain⟨rfl,rfl⟩:=h
  dsimp only[ag]
  refine aZ (fun h=>by rw[h] at hQ; exact hQ) fun h=>hJ _ _ ⟨rfl,h⟩
 intro J2 hJ2
 unfold MF at hJ2
 simp only[List.any_cons,List.any_nil,Bool.or_false] at hJ2
 repeat' first
  | (rw[fV]; refine aZ (fun h=>hJ2 _ _ ⟨rfl,by simp[h]⟩) fun h=>?_)
  | (rw[fV]; refine hJ2 _ _ ⟨rfl,by simp[*]⟩)
def TF (B:Base) (c:aj) : Prop:=∀ {M:RM} {n:Int} {Q:ai},M.base=B→-9223372036854775808≤n→n≤9223372036854775807→(∀ M',ae [] M M'→Q (St (Lib.itoa n)) M')→c [N .i64 n] M Q
def NN (B:Base) (c:aj) : Prop:=∀ {M:RM} {s:Str} {k:Int} {Q:ai},M.base=B→s.length≤1000000000→(∀ M',ae [] M M'→Q (St (kJ s k)) M')→c [St s,N .i64 k] M Q
theorem SH {B:Base} {ci:aj} (hi:TF B ci) : NN B fun args M Q=>∃ a0 a1,args=[a0,a1]∧nJ ci a0 a1 M Q:=by
 intro M s k Q hB hs hQ
 refine⟨_,_,rfl, ?_⟩
 unfold nJ
 rw[dR]
 unfold kJ at hQ
 refine aZ (fun h=>?_) (fun h=>?_)
 ·have h:k=0:=by simpa using h
  rw[if_pos h] at hQ
  exact hQ M (ae.refl _ _)
 ·have h:¬ k=0:=by simpa using h
  rw[if_neg h] at hQ
  rw[bL]
  refine⟨by simp; omega, ?_⟩
  rw[eH]
  have hw : -9223372036854775808≤IntKind.wrap .i64 (k + 1)∧IntKind.wrap .i64 (k + 1)≤9223372036854775807:=by
   rw[IntKind.wrap_i64]; omega
  refine hi hB hw.1 hw.2 fun M' k'=>?_
  rw[bL]
  have:=Lib.itoa_length_le _ hw.1 hw.2
  refine⟨by simp; omega, ?_⟩
  exact hQ M' k'
def NW (B:Base) (c:aj) : Prop:=∀ {M:RM} {s:Str} {Q:ai},M.base=B→s.length≤1000000000→(∀ M',ae [] M M'→Q (Bo (Gb s)) M')→c [St s,St mi] M Q
theorem Hq (s:Str) : (Lib.indexAny s mi=-1∧∀ x∈s,x ∉ mi)∨∃ a c b,s=a++c :: b∧Lib.indexAny s mi=(a.length:Int)∧c∈mi∧∀ x∈a,x ∉ mi:=by
 induction s with
 | nil=>exact .inl ⟨rfl,by simp⟩
 | cons d s ih =>
   by_cases hd:d∈mi
   ·refine .inr ⟨[],d,s,rfl, ?_,hd,by simp⟩
    have:mi.contains d=true:=by simpa using hd
    simp[Lib.indexAny,hd]
   ·have hn:mi.contains d=false:=by simpa using hd
    rcases ih with⟨e,h⟩ | ⟨a,c,b,e1,e2,h1,h2⟩
    ·refine .inl ⟨by simp[Lib.indexAny,hd,e],fun x hx=>?_⟩
     rcases List.mem_cons.1 hx with rfl | hx
     ·exact hd
     ·exact h x hx
    ·refine .inr ⟨d :: a,c,b,by rw[e1]; rfl, ?_,h1,fun x hx=>?_⟩
     ·simp[Lib.indexAny,hd,e2]
     ·rcases List.mem_cons.1 hx with rfl | hx
      ·exact hd
      ·exact h2 x hx
theorem QM {B:Base} {ci:aj} (hi:lW mi B ci) : NW B fun args M Q=>∃ a0 a1,args=[a0,a1]∧fH ci a0 a1 M Q:=by
 intro M s Q hM hl hQ
 refine⟨_,_,rfl, ?_⟩
 unfold fH
 refine hi hM hl fun M' k=>?_
 have hQ:=hQ M' k
 rw[fq]
 rcases Hq s with⟨e,h⟩ | ⟨a,c,b,e1,e2,h1,h2⟩
 ·have:Gb s=false:=by
   unfold Gb
   rw[List.any_eq_false]
   intro x hx
   simpa using h x hx
  rw[this] at hQ
  rw[e]; exact hQ
 ·have:Gb s=true:=by
   unfold Gb
   rw[List.any_eq_true]
   exact⟨c,by rw[e1]; simp,by simpa using h1⟩
  rw[this] at hQ
  rw[e2,show decide ((a.length:Int) ≥ 0)=true from decide_eq_true (by omega)]; exact hQ
def zF (j:Nat) (vs:List Str) : Str:=if j=0 then Cj vs else zI (vs.drop j)
theorem O9 {vs:List Str} {j:Nat} (hj:j<vs.length) : zF j vs=(if 0<j then[44] else[])++(q4 vs[j]++zF (j + 1) vs):=by
 unfold zF
 rw[if_neg (by omega:¬ j + 1=0)]
 by_cases h:j=0
 ·subst h
  rw[if_pos rfl,if_neg (by omega)]
  cases vs with
  | nil=>simp at hj
  | cons v vs=>rfl
 ·rw[if_neg h,if_pos (by omega),List.drop_eq_getElem_cons hj]
  rfl
theorem PE (vs:List Str) : zF vs.length vs=[]:=by
 unfold zF
 cases vs with
 | nil=>rfl
 | cons v vs=>rw[if_neg (by simp),List.drop_length]; rfl
def JQ (B:Base) (c:aj) : Prop:=∀ {M:RM} {cs:List AV} {L:Ln} {k:Int} {S:Nat→Prop} {Q:ai},M.base=B→gW.rel M cs (L,k) S→LB 1000000000 L→(fU L).length≤140737488355328→(∀ M',ae [] M M'→Q (St (fU L)) M')→c [.agg cs] M Q
theorem Oi {B:Base} {TL TP:Nat} {ca:aj} (ha:NW B ca) : JQ B fun args M Q=>∃ a0,args=[a0]∧qW TL TP ca a0 M Q:=by
 intro M cs L k S Q hBM hrel hB hPl hQ
 obtain⟨v,rfl,hps⟩:=hrel
 simp only at hps
 refine⟨_,rfl, ?_⟩
 unfold qW
 simp only[dB]
 have hall:([St L.g,St L.n,v,St L.v,N .i64 k] : List AV).all oneCell=true:=by simp[eF,hps.one]
 rw[iC hall (by simp),aF]
 have k1:ae [] M (M.push (.row [St L.g,St L.n,v,St L.v,N .i64 k] false TL 0)):=(ae.refl _ _).push _
 have h1:(M.push (.row [St L.g,St L.n,v,St L.v,N .i64 k] false TL 0)).heap M.next=some (.row [St L.g,St L.n,v,St L.v,N .i64 k] false TL 0):=RM.aR _
 have n1:(M.push (.row [St L.g,St L.n,v,St L.v,N .i64 k] false TL 0)).next=M.next + 1:=bH _
 generalize M.push (.row [St L.g,St L.n,v,St L.v,N .i64 k] false TL 0)=M1 at *
 have VU:bB iI M1 v L.ps S:=hps.keep k1 (by simp)
 have X5:=hB.ps
 have hgl:=hB.g
 have hnl:=hB.n
 rw[aU,az h1 rfl]
 have hP:nN L++L.n++L.ps.flatMap Ea=fU L:=by unfold fU Ch; rw[List.append_assoc]
 generalize fU L=P at *
 refine bI (fun ys M'=>ys=[St (nN L++L.n)]∧M'=M1) ?_ ?_
 rotate_left 1
 ·intro J hJ
  rw[aU,az h1 rfl,mh]
  unfold nN at hJ
  refine aZ (fun h=>?_) (fun h=>?_)
  ·have h:¬ L.g=[]:=by simpa using h
   rw[if_neg h] at hJ
   rw[aU,az h1 rfl,bL]
   refine⟨by simp; omega, ?_⟩
   rw[bL]
   exact⟨by simp; omega,hJ _ _ ⟨rfl,rfl⟩⟩
  ·have h:L.g=[]:=by simpa using h
   rw[if_pos h] at hJ
   exact hJ _ _ ⟨rfl,rfl⟩
 rintro _ M' ⟨rfl,e⟩
 rw[e]
 clear e M'
 dsimp only[ag]
 rw[aU,az h1 rfl,VU.len]
 refine aP (fun m ys M5=>∃ (i:Nat) (xs:List UInt8),m=L.ps.length - i∧ys=[St xs,N .i64 (i:Int)]∧i≤L.ps.length∧ae [] M1 M5∧xs++(L.ps.drop i).flatMap Ea=P) L.ps.length
  ⟨0,_,rfl,rfl,Nat.zero_le _,ae.refl _ _,by rw[List.drop_zero]; exact hP⟩ ?_
 rintro next m ys M5 hnext ⟨i,xs,rfl,rfl,hi,k5,hx⟩
 dsimp only[ag]
 have Js:=VU.keep k5 (by simp)
 rw[jC]
 refine aZ (fun hlt=>?_) (fun hge=>?_)
 ·have hlt:i<L.ps.length:=of_decide_eq_true hlt
  have hmem:=List.getElem_mem hlt
  have b1:=hB.pn _ hmem
  have b2:=hB.pl _ hmem
  have b3:=hB.pv _ hmem
  rw[List.drop_eq_getElem_cons hlt,List.flatMap_cons] at hx
  have hpj:Ea L.ps[i]=[59]++L.ps[i].1++[61]++Cj L.ps[i].2:=rfl
  have hxl:=FI hx
  rw[hpj] at hxl
  simp only[List.length_append,List.length_cons,List.length_nil] at hxl
  generalize hrest:(L.ps.drop (i + 1)).flatMap Ea=rest at *
  obtain⟨pv,hpv,hpa⟩:=GR Js hlt
  rw[hpa,aF,bK (n:=2) (x:=.agg [St L.ps[i].1,pv]) (l:=[St [],aB]) (RM.aR _) rfl rfl (by show([St L.ps[i].1,pv] : List AV).all oneCell=true; simp[eF,hpv.one])]
  have k6:ae [] M5 ((M5.push (.row [St [],aB] false TP 0)).put M5.next (.row (AV.agg [St L.ps[i].1,pv]).cells false TP 0)):=((ae.refl _ _).push _).new _ (Nat.le_refl _)
  have h6:((M5.push (.row [St [],aB] false TP 0)).put M5.next (.row (AV.agg [St L.ps[i].1,pv]).cells false TP 0)).heap M5.next=some (.row [St L.ps[i].1,pv] false TP 0):=ay _
  have n6:((M5.push (.row [St [],aB] false TP 0)).put M5.next (.row (AV.agg [St L.ps[i].1,pv]).cells false TP 0)).next=M5.next + 1:=rfl
  generalize (M5.push (.row [St [],aB] false TP 0)).put M5.next (.row (AV.agg [St L.ps[i].1,pv]).cells false TP 0)=M6 at *
  have Nq:=hpv.keep k6 (by simp)
  rw[aU,az h6 rfl,bL]
  refine⟨by simp; omega, ?_⟩
  rw[bL]
  refine⟨by simp; omega, ?_⟩
  rw[bL]
  refine⟨by simp; omega, ?_⟩
  rw[aU,az h6 rfl,Nq.len]
  refine aP (fun m ys M9=>∃ (j:Nat) (zs:List UInt8),m=L.ps[i].2.length - j∧ys=[St zs,N .i64 (j:Int)]∧j≤L.ps[i].2.length∧ae [] M6 M9∧zs++(zF j L.ps[i].2++rest)=P) L.ps[i].2.length
    ⟨0,_,rfl,rfl,Nat.zero_le _,ae.refl _ _, ?_⟩ ?_
  ·rw[← hx,hpj]
   simp only[List.append_assoc,zF,if_true]
  rintro Cf m ys M9 kZ ⟨j,zs,rfl,rfl,hj,k9,hz⟩
  dsimp only[ag]
  rw[jC]
  refine aZ (fun hlt2=>?_) (fun SN=>?_)
  ·have hlt2:j<L.ps[i].2.length:=of_decide_eq_true hlt2
   rw[O9 hlt2] at hz
   have b4:=b3 _ (List.getElem_mem hlt2)
   have hzl:=FI hz
   simp only[List.length_append] at hzl
   have Ro:=Nq.keep k9 (by simp)
   refine bI (fun ys M'=>ys=[St (zs++((if 0<j then[44] else[])++q4 L.ps[i].2[j]))]∧ae [] M6 M') ?_ ?_
   ·rintro _ Ma ⟨rfl,ka⟩
    dsimp only[ag]
    rw[add1 (by omega)]
    refine kZ _ _ _ (by omega) ⟨j + 1,_,rfl,rfl,by omega,ka, ?_⟩
    rw[← hz]
    simp only[List.append_assoc]
   intro J3 hJ3
   rw[KT Ro.sl hlt2]
   generalize L.ps[i].2[j]=x at *
   refine bI (fun ys M'=>ys=[St (zs++(if 0<j then[44] else[]))]∧M'=M9) ?_ ?_
   ·rintro _ Ma ⟨rfl,rfl⟩
    dsimp only[ag]
    refine bI (fun ys M'=>ys=[St (q4 x)]∧ae [] Ma M') ?_ ?_
    ·rintro _ Mb ⟨rfl,kb⟩
     dsimp only[ag]
     rw[bL]
     refine⟨by simp only[List.length_append]; omega, ?_⟩
     exact hJ3 _ _ ⟨by rw[List.append_assoc],k9.trans kb⟩
    intro J2 hJ2
    refine ha (((k1.trans k5).trans (k6.trans k9)).base.trans hBM) b4 fun Mb kb=>?_
    refine aZ (fun hm=>?_) (fun hm=>?_)
    ·rw[bL]
     refine⟨by simp; omega, ?_⟩
     rw[bL]
     refine⟨by simp; omega, ?_⟩
     exact hJ2 _ _ ⟨by rw[q4,if_pos hm],kb⟩
    ·exact hJ2 _ _ ⟨by rw[q4,if_neg (by rw[hm]; simp)],kb⟩
   intro J2 hJ2
   rw[show(N .i64 (0:Int))=N .i64 ((0:Nat) : Int) from rfl,AP]
   refine aZ (fun hm=>?_) (fun hm=>?_)
   ·have hm:0<j:=of_decide_eq_true hm
    rw[if_pos hm] at hzl hJ2
    simp only[List.length_cons,List.length_nil] at hzl
    rw[bL]
    refine⟨by simp; omega, ?_⟩
    exact hJ2 _ _ ⟨rfl,rfl⟩
   ·have hm:¬ 0<j:=of_decide_eq_false hm
    refine hJ2 _ _ ⟨?_,rfl⟩
    rw[if_neg hm,List.append_nil]
  ·have he:j=L.ps[i].2.length:=by
    have:¬ j<L.ps[i].2.length:=of_decide_eq_false SN
    omega
   subst he
   rw[PE,List.nil_append] at hz
   rw[add1 (by omega)]
   exact hnext _ _ _ (by omega) ⟨i + 1,zs,rfl,rfl,by omega,k5.trans (k6.trans k9),by rw[hrest]; exact hz⟩
 ·have he:i=L.ps.length:=by
   have:¬ i<L.ps.length:=of_decide_eq_false hge
   omega
  subst he
  rw[List.drop_length,List.flatMap_nil,List.append_nil] at hx
  subst hx
  exact hQ M5 (k1.trans k5)
theorem JE {f g:Prop→Prop} {k:Prop} : Ao (Bo false) true f g k=g k:=rfl
theorem Pz {f g:Prop→Prop} {k:Prop} : Ao (Bo true) true f g k=f k:=rfl
def dX (vs:List Str) : Nat:=(vs.map fun v=>v.length + 3).sum
def iK (ps:List jA) : Nat:=(ps.map fun p=>p.1.length + 3 + dX p.2).sum
theorem BU (a:List Str) (v:Str) : dX (a++[v])=dX a + (v.length + 3):=by simp[dX]
theorem Nf (a:List jA) (p:jA) : iK (a++[p])=iK a + (p.1.length + 3 + dX p.2):=by simp[iK]
theorem Mt:∀ {vs:List Str} {v:Str},v∈vs→v.length + 3≤dX vs
 | w :: vs,v,h=>by
   rw[show dX (w :: vs)=(w.length + 3) + dX vs by simp[dX]]
   rcases List.mem_cons.1 h with rfl | h
   ·omega
   ·have:=Mt h; omega
theorem Mj:∀ vs:List Str,vs.length≤dX vs
 | []=>by simp
 | w :: vs=>by
   rw[show dX (w :: vs)=(w.length + 3) + dX vs by simp[dX]]
   have:=Mj vs; simp; omega
theorem Cg:∀ {ps:List jA} {p:jA},p∈ps→p.1.length + 3 + dX p.2≤iK ps
 | w :: vs,v,h=>by
   rw[show iK (w :: vs)=(w.1.length + 3 + dX w.2) + iK vs by simp[iK]]
   rcases List.mem_cons.1 h with rfl | h
   ·omega
   ·have:=Cg h; omega
theorem MV:∀ vs:List jA,vs.length≤iK vs
 | []=>by simp
 | w :: vs=>by
   rw[show iK (w :: vs)=(w.1.length + 3 + dX w.2) + iK vs by simp[iK]]
   have:=MV vs; simp; omega
theorem Qd (v:Str) : (q4 v).length≤v.length + 2:=by unfold q4; split <;> simp
theorem G6:∀ vs:List Str,(zI vs).length≤dX vs
 | []=>by simp[zI]
 | v :: vs=>by
   rw[show dX (v :: vs)=(v.length + 3) + dX vs by simp[dX],show zI (v :: vs)=(44 :: q4 v)++zI vs from rfl]
   have:=G6 vs; have:=Qd v
   simp; omega
theorem PM (vs:List Str) : (Cj vs).length≤dX vs:=by
 cases vs with
 | nil=>simp[Cj]
 | cons v vs =>
   rw[show dX (v :: vs)=(v.length + 3) + dX vs by simp[dX],show Cj (v :: vs)=q4 v++zI vs from rfl]
   have:=G6 vs; have:=Qd v
   simp; omega
theorem Hd:∀ ps:List jA,(Ch ps).length≤iK ps
 | []=>by simp[Ch]
 | p :: ps=>by
   rw[show iK (p :: ps)=(p.1.length + 3 + dX p.2) + iK ps by simp[iK],show Ch (p :: ps)=Ea p++Ch ps from rfl]
   have h1:=Hd ps; have h2:=PM p.2
   unfold Ea
   simp only[List.length_append,List.length_cons,List.length_nil]; omega
theorem G9:∀ vs:List Str,(tailV vs).length≤dX vs
 | []=>by simp[tailV]
 | v :: vs=>by
   rw[show dX (v :: vs)=(v.length + 3) + dX vs by simp[dX],show tailV (v :: vs)=(44 :: qv v)++tailV vs from rfl]
   have:=G9 vs; have:=PV v
   simp; omega
theorem NG (vs:List Str) : (oJ vs).length≤dX vs:=by
 cases vs with
 | nil=>simp[oJ]
 | cons v vs =>
   rw[show dX (v :: vs)=(v.length + 3) + dX vs by simp[dX],show oJ (v :: vs)=qv v++tailV vs from rfl]
   have:=G9 vs; have:=PV v
   simp; omega
theorem He:∀ ps:List jA,(ps.flatMap vL).length≤iK ps
 | []=>by simp
 | p :: ps=>by
   rw[show iK (p :: ps)=(p.1.length + 3 + dX p.2) + iK ps by simp[iK],List.flatMap_cons]
   have h1:=He ps; have h2:=NG p.2
   rw[show vL p=[59]++p.1.map ql++[61]++oJ p.2 from rfl]
   simp only[List.length_append,List.length_cons,List.length_nil,List.length_map]; omega
structure qF (N:Nat) (L:Ln) : Prop where
 g:L.g.length≤N
 n:L.n.length≤N
 v:L.v.length≤N
 ps:iK L.ps≤N
theorem qF.mono {N K:Nat} {L:Ln} (h:qF N L) (hk:N≤K) : qF K L:=⟨by have:=h.g; omega,by have:=h.n; omega,by have:=h.v; omega,by have:=h.ps; omega⟩
theorem qF.lb {N:Nat} {L:Ln} (h:qF N L) : LB N L where
 g:=h.g
 n:=h.n
 v:=h.v
 ps:=Nat.le_trans (MV _) h.ps
 pn p hp:=by have:=Cg hp; have:=h.ps; omega
 pl p hp:=by have:=Cg hp; have:=h.ps; have:=Mj p.2; omega
 pv p hp v hv:=by have:=Cg hp; have:=h.ps; have:=Mt hv; omega
theorem qF.VH {N:Nat} {L:Ln} (h:qF N L) : (fU L).length≤3 * N + 1:=by
 have:=Hd L.ps
 have h1:=h.g; have h2:=h.n; have h3:=h.ps
 unfold fU nN
 split <;> simp <;> omega
theorem qF.laid {N:Nat} {L:Ln} (h:qF N L) : (jv L).length≤4 * N + 2:=by
 have:=He L.ps
 have h1:=h.g; have h2:=h.n; have h3:=h.ps; have h4:=h.v
 unfold jv yX nN
 split <;> simp only[List.length_append,List.length_cons,List.length_nil,List.length_map] at * <;> omega
theorem Tn (v:Str) : v.length≤(qv v).length:=by unfold qv; split <;> simp <;> omega
theorem Ku:∀ vs:List Str,dX vs≤3 * (tailV vs).length
 | []=>by simp[dX]
 | v :: vs=>by
   rw[show dX (v :: vs)=(v.length + 3) + dX vs by simp[dX],show tailV (v :: vs)=(44 :: qv v)++tailV vs from rfl]
   have:=Ku vs; have:=Tn v
   simp; omega
theorem Sa (vs:List Str) : dX vs≤3 * (oJ vs).length + 3:=by
 cases vs with
 | nil=>simp[dX]
 | cons v vs =>
   rw[show dX (v :: vs)=(v.length + 3) + dX vs by simp[dX],show oJ (v :: vs)=qv v++tailV vs from rfl]
   have:=Ku vs; have:=Tn v
   simp; omega
theorem KA:∀ ps:List jA,iK ps≤3 * (ps.flatMap vL).length
 | []=>by simp[iK]
 | p :: ps=>by
   rw[show iK (p :: ps)=(p.1.length + 3 + dX p.2) + iK ps by simp[iK],List.flatMap_cons]
   have h1:=KA ps; have h2:=Sa p.2
   rw[show vL p=[59]++p.1.map ql++[61]++oJ p.2 from rfl]
   simp only[List.length_append,List.length_cons,List.length_nil,List.length_map]; omega
theorem MZ {N:Nat} {L:Ln} (h:(jv L).length≤N) : qF (3 * N) L:=by
 have h1:=KA L.ps
 have h2:L.g.length≤(nN L).length:=by unfold nN; split <;> simp[*]
 unfold jv yX at h
 simp only[List.length_append,List.length_map,List.length_cons,List.length_nil] at h
 exact⟨by omega,by omega,by omega,by omega⟩
theorem CP {L:Ln} (h:(jw gP L).2=0) : CB gP L=true∧(jv L).length≤912∧(jw gP L).1=fo 0 (jv L)++[13,10]:=by
 unfold jw at h ⊢
 split at h
 ·rename_i hg
  rw[if_pos hg]
  split at h
  ·cases h
  ·rename_i hl; rw[if_neg hl]; exact⟨hg,by omega,rfl⟩
 ·cases h
def lK (p:Fd) : AV:=.agg [St p.1,St p.2]
theorem xV {M:RM} {cs:List AV} {L:Ln} {k:Int} {S:Nat→Prop} (h:gW.rel M cs (L,k) S) : ∃ v,cs=[St L.g,St L.n,v,St L.v,N .i64 k]∧bB iI M v L.ps S∧cs.all oneCell=true∧cs.length=5:=by
 obtain⟨v,rfl,h⟩:=h
 exact⟨v,rfl,h,by simp[eF,h.one],rfl⟩
theorem jN {M:RM} {v:AV} {L:Ln} {k:Int} {S:Nat→Prop} (h:bB iI M v L.ps S) : gW.rel M [St L.g,St L.n,v,St L.v,N .i64 k] (L,k) S:=⟨v,rfl,h⟩
theorem Ml (x:Str) : (lQ++[46]++x).length=4 + x.length:=by simp; omega
def EC (B:Base) (c:aj) : Prop:=∀ {M:RM} {cs:List AV} {L:Ln} {k:Int} {S:Nat→Prop} {Q:ai},M.base=B→gW.rel M cs (L,k) S→LB 1000000 L→(fU L).length≤140737488355328→(∀ M',ae [] M M'→Q (lK (bC L)) M')→c [.agg cs] M Q
theorem J5 {L:Ln} (h:LB 1000000 L) : LB 1000000000 L:=h.mono (by omega)
theorem PO {B:Base} {TL TP:Nat} {cn ct cu ce:aj} (hn:JQ B cn) (ht:IR ct) (hu:Jv (N .i64 14) (N .i64 0) cu) (he:Nw ce) : EC B fun args M Q=>∃ a0,args=[a0]∧sV TL TP cn ct cu ce a0 M Q:=by
 intro M cs L k S Q hBM hrel hB hPl hQ
 obtain⟨v,rfl,hps,hall,_⟩:=xV hrel
 refine⟨_,rfl, ?_⟩
 unfold sV
 rw[iC hall (by simp),aF]
 have k1:ae [] M (M.push (.row [St L.g,St L.n,v,St L.v,N .i64 k] false TL 0)):=(ae.refl _ _).push _
 have h1:(M.push (.row [St L.g,St L.n,v,St L.v,N .i64 k] false TL 0)).heap M.next=some (.row [St L.g,St L.n,v,St L.v,N .i64 k] false TL 0):=RM.aR _
 have n1:(M.push (.row [St L.g,St L.n,v,St L.v,N .i64 k] false TL 0)).next=M.next + 1:=bH _
 generalize M.push (.row [St L.g,St L.n,v,St L.v,N .i64 k] false TL 0)=M1 at *
 rw[aF]
 have k2:ae [] M1 (M1.push (.row [St [],St []] false TP 0)):=(ae.refl _ _).push _
 have h2:(M1.push (.row [St [],St []] false TP 0)).heap M1.next=some (.row [St [],St []] false TP 0):=RM.aR _
 have n2:(M1.push (.row [St [],St []] false TP 0)).next=M1.next + 1:=bH _
 generalize M1.push (.row [St [],St []] false TP 0)=M2 at *
 have h12:=k2.ax h1 (by omega) (by simp)
 rw[aN (n:=5) h12 rfl,aU,az h12 rfl,ML]
 have k3:ae [] M2 (M2.push (.row [St [],St []] false TP 0)):=(ae.refl _ _).push _
 have h3:(M2.push (.row [St [],St []] false TP 0)).heap M2.next=some (.row [St [],St []] false TP 0):=RM.aR _
 have n3:(M2.push (.row [St [],St []] false TP 0)).next=M2.next + 1:=bH _
 generalize M2.push (.row [St [],St []] false TP 0)=M3 at *
 have k03:=(k1.trans k2).trans k3
 refine hn (k03.base.trans hBM) (jN (hps.keep k03 (by simp))) (J5 hB) hPl fun M4 k4=>?_
 have h14:=(k3.trans k4).ax h12 (by omega) (by simp)
 have h24:=(k3.trans k4).ax h2 (by omega) (by simp)
 have h34:=k4.ax h3 (by omega) (by simp)
 have n4:=k4.next
 rw[az h14 rfl]
 refine⟨rfl,⟨h34,rfl⟩, ?_⟩
 rw[iJ]
 refine⟨[St (fU L),St L.v],by simp[mD,known,AV.cells,oneCell], ?_⟩
 have k04:=k03.trans k4
 rw[bK (n:=2) (x:=.agg [St (fU L),St L.v]) (l:=[St [],St []]) h34 rfl rfl rfl]
 have k5:ae [] M (M4.put M2.next (.row (AV.agg [St (fU L),St L.v]).cells false TP 0)):=k04.put _ (.inl (by omega))
 have h15:(M4.put M2.next (.row (AV.agg [St (fU L),St L.v]).cells false TP 0)).heap M.next=_:=dh h14 (by omega)
 have h25:(M4.put M2.next (.row (AV.agg [St (fU L),St L.v]).cells false TP 0)).heap M1.next=_:=dh h24 (by omega)
 have h35:(M4.put M2.next (.row (AV.agg [St (fU L),St L.v]).cells false TP 0)).heap M2.next=some (.row [St (fU L),St L.v] false TP 0):=ay _
 have n5:(M4.put M2.next (.row (AV.agg [St (fU L),St L.v]).cells false TP 0)).next=M4.next:=rfl
 generalize M4.put M2.next (.row (AV.agg [St (fU L),St L.v]).cells false TP 0)=M5 at *
 rw[aU,az h15 rfl]
 refine ht ?_
 rw[bQ]
 have fin:∀ {M6:RM} {p:Fd} {Q' : AV→RM→Prop},ae [] M M6→M6.heap M1.next=some (.row [St [],St []] false TP 0)→M6.heap M2.next=some (.row [St p.1,St p.2] false TP 0)→(∀ M',ae [] M M'→Q' (lK p) M') →
   aH M6 (.ptr M2.next 0) 2 fun t15=>aA M6 (.ptr M1.next 0) t15 2 fun M_5=>aH M_5 (.ptr M1.next 0) 2 fun res=>Q' res M_5:=by
  intro M6 p Q' k6 g1 g2 hQ'
  rw[aN (n:=2) g2 rfl,bK (n:=2) (x:=.agg [St p.1,St p.2]) (l:=[St [],St []]) g1 rfl rfl rfl,aN (n:=2) (ay _) rfl]
  exact hQ' _ (k6.put _ (.inl (by omega)))
 unfold bC at hQ
 refine aZ (fun h=>?_) (fun h=>?_)
 ·have h:xE L.n=false:=by simpa using h
  rw[h] at hQ
  exact fin (p:=(fU L,L.v)) k5 h25 h35 hQ
 ·have h:xE L.n=true:=by simpa using h
  rw[if_pos h] at hQ
  rw[aU,az h15 rfl]
  refine hu hB.v fun M6 k6=>?_
  have k06:=k5.trans k6
  have h16:=k6.ax h15 (by omega) (by simp)
  have h26:=k6.ax h25 (by omega) (by simp)
  have h36:=k6.ax h35 (by omega) (by simp)
  have n6:=k6.next
  unfold tQ
  cases hx:eU L.v with
  | none =>
    rw[hx] at hQ
    dsimp only at hQ ⊢
    rw[bG,bJ,dR,show((14:Int) == 0)=false from rfl]
    simp only[nU,u7,JE,iH,dx]
    rw[aU,az h36 rfl,bL]
    refine⟨by simp; omega, ?_⟩
    rw[aU,bM (l':=[St (lQ++[46]++fU L),St L.v]) h36 (by simp) rfl rfl rfl]
    exact fin (p:=(lQ++[46]++fU L,L.v)) (k06.put _ (.inl (by omega))) (dh h26 (by omega)) (ay _) hQ
  | some x =>
    rw[hx] at hQ
    dsimp only at hQ ⊢
    have hxl:=qA _ L.v x (Nat.le_refl _) hx
    have hvl:=hB.v
    rw[bG,bJ,dR,show((0:Int) == 0)=true from rfl]
    simp only[lS,qD,Pz,gD]
    rw[aU,az h16 rfl]
    refine he (by omega) fun M7 k7=>?_
    have k07:=k06.trans k7
    have h17:=k7.ax h16 (by omega) (by simp)
    have h27:=k7.ax h26 (by omega) (by simp)
    have h37:=k7.ax h36 (by omega) (by simp)
    have n7:=k7.next
    rw[az h17 rfl]
    refine⟨rfl, ?_⟩
    rw[fV]
    refine aZ (fun h=>?_) (fun h=>?_)
    ·have h:esc x=L.v:=by simpa using h
     rw[if_pos h] at hQ
     rw[aU,bM (l':=[St (fU L),St x]) h37 (by simp) rfl rfl rfl]
     exact fin (p:=(fU L,x)) (k07.put _ (.inl (by omega))) (dh h27 (by omega)) (ay _) hQ
    ·have h:¬ esc x=L.v:=by simpa using h
     rw[if_neg h] at hQ
     rw[aU,az h37 rfl,bL]
     refine⟨by simp; omega, ?_⟩
     rw[aU,bM (l':=[St (lQ++[46]++fU L),St L.v]) h37 (by simp) rfl rfl rfl]
     exact fin (p:=(lQ++[46]++fU L,L.v)) (k07.put _ (.inl (by omega))) (dh h27 (by omega)) (ay _) hQ
theorem Jg {L:Ln} (h:LB 1000000 L) : (bC L).1.length≤4 + (fU L).length∧(bC L).2.length≤1000000:=by
 have hv:=h.v
 unfold bC
 split
 ·split
  ·rename_i x hx
   have:=qA _ L.v x (Nat.le_refl _) hx
   split
   ·exact⟨by dsimp only; omega,by dsimp only; omega⟩
   ·exact⟨by dsimp only; rw[Ml]; omega,hv⟩
  ·exact⟨by dsimp only; rw[Ml]; omega,hv⟩
 ·exact⟨by dsimp only; omega,hv⟩
def FC (B:Base) (c:aj) : Prop:=∀ {M:RM} {cs:List AV} {L:Ln} {k j:Int} {S:Nat→Prop} {Q:ai},M.base=B→gW.rel M cs (L,k) S→LB 1000000000 L→(jv L).length≤140737488355328→(∀ M',ae [] M M'→Q (.tup [lK (iV L j).1,Bo (iV L j).2]) M')→c [.agg cs,N .i64 j] M Q
theorem NY {B:Base} {TL TP:Nat} {cp cr ca cn:aj} (hp:ED B (jw gP) cp) (hr:Jb cr) (ha:EC B ca) (hn:NN B cn) : FC B fun args M Q=>∃ a0 a1,args=[a0,a1]∧qK TL TP cp cr ca cn a0 a1 M Q:=by
 intro M cs L k j S Q hBM hrel hB9 hLl hQ
 obtain⟨v,rfl,hps,hall,_⟩:=xV hrel
 refine⟨_,_,rfl, ?_⟩
 unfold qK
 simp only[dJ]
 rw[iC hall (by simp),aF]
 have k1:ae [] M (M.push (.row [St L.g,St L.n,v,St L.v,N .i64 k] false TL 0)):=(ae.refl _ _).push _
 have h1:(M.push (.row [St L.g,St L.n,v,St L.v,N .i64 k] false TL 0)).heap M.next=some (.row [St L.g,St L.n,v,St L.v,N .i64 k] false TL 0):=RM.aR _
 have n1:(M.push (.row [St L.g,St L.n,v,St L.v,N .i64 k] false TL 0)).next=M.next + 1:=bH _
 generalize M.push (.row [St L.g,St L.n,v,St L.v,N .i64 k] false TL 0)=M1 at *
 rw[aF]
 have k2:ae [] M1 (M1.push (.row [St [],St []] false TP 0)):=(ae.refl _ _).push _
 have h2:(M1.push (.row [St [],St []] false TP 0)).heap M1.next=some (.row [St [],St []] false TP 0):=RM.aR _
 have n2:(M1.push (.row [St [],St []] false TP 0)).next=M1.next + 1:=bH _
 generalize M1.push (.row [St [],St []] false TP 0)=M2 at *
 have h12:=k2.ax h1 (by omega) (by simp)
 have k02:=k1.trans k2
 rw[aN (n:=5) h12 rfl]
 refine hp (k02.base.trans hBM) (jN (hps.keep k02 (by simp))) hB9 hLl fun M3 k3=>?_
 have h13:=k3.ax h12 (by omega) (by simp)
 have h23:=k3.ax h2 (by omega) (by simp)
 have n3:=k3.next
 have k03:=k02.trans k3
 rw[bG,bJ,dm]
 have hno:∀ {c:Bool},(iV L j=(([],[]),false))→c=true→∀ {M6:RM},ae [] M M6→M6.heap M1.next=some (.row [St [],St []] false TP 0) →
   dV [(St []),(St [])] [] fun t30=>aA M6 (.ptr M1.next 0) t30 2 fun VC=>aH VC (.ptr M1.next 0) 2 fun res=>Q (.tup [res,(Bo false)]) VC:=by
  intro c hf _ M6 k6 g1
  rw[iJ]
  refine⟨[St [],St []],rfl, ?_⟩
  rw[bK (n:=2) (x:=.agg [St [],St []]) (l:=[St [],St []]) g1 rfl rfl rfl,aN (n:=2) (ay _) rfl]
  rw[hf] at hQ
  exact hQ _ (k6.put _ (.inl (by omega)))
 refine mP (p:=L.g == lQ) (fun hc kk hk=>?_) ?_
 ·rw[aU,az h13 rfl,fV]; exact hk
 refine mP (p:=Gr L.n) (fun hc kk hk=>?_) ?_
 ·rw[aU,az h13 rfl]; exact hr hk
 refine mP (p:=decide (j<0)) (fun hc kk hk=>?_) ?_
 ·rw[lN]; exact hk
 refine aZ (fun h=>?_) (fun h=>?_)
 ·refine hno (c:=true) ?_ rfl k03 h23
  unfold iV
  rw[if_neg]
  rintro⟨a1,a2,a3,a4⟩
  have e1:((jw gP L).2 != 0)=false:=by simp[a1]
  have e2:(L.g == lQ)=false:=by simpa using a2
  have e4:decide (j<0)=false:=decide_eq_false (by omega)
  rw[e1,e2,a3,e4] at h
  cases h
 ·simp only[Bool.or_eq_false_iff] at h
  obtain⟨⟨⟨a1,a2⟩,a3⟩,a4⟩:=h
  have e1:(jw gP L).2=0:=by simpa using a1
  have e2:L.g≠lQ:=by simpa using a2
  have hsz:=MZ (CP e1).2.1
  have hB:LB 1000000 L:=(hsz.mono (by omega)).lb
  have hPl:=hsz.VH
  have e4:0≤j:=by have:=of_decide_eq_false a4; omega
  have ef:iV L j=((kJ (bC L).1 j,(bC L).2),true):=by unfold iV; rw[if_pos ⟨e1,e2,a3,e4⟩]
  rw[ef] at hQ
  rw[aN (n:=5) h13 rfl]
  refine ha (k03.base.trans hBM) (jN (hps.keep k03 (by simp))) hB (by omega) fun M4 k4=>?_
  have h24:=k4.ax h23 (by omega) (by simp)
  have n4:=k4.next
  have k04:=k03.trans k4
  unfold lK
  rw[aF,bK (n:=2) (x:=.agg [St (bC L).1,St (bC L).2]) (l:=[St [],St []]) (RM.aR _) rfl rfl rfl]
  have k5:ae [] M4 ((M4.push (.row [St [],St []] false TP 0)).put M4.next (.row (AV.agg [St (bC L).1,St (bC L).2]).cells false TP 0)):=((ae.refl _ _).push _).new _ (Nat.le_refl _)
  have h5:((M4.push (.row [St [],St []] false TP 0)).put M4.next (.row (AV.agg [St (bC L).1,St (bC L).2]).cells false TP 0)).heap M4.next=some (.row [St (bC L).1,St (bC L).2] false TP 0):=ay _
  have n5:((M4.push (.row [St [],St []] false TP 0)).put M4.next (.row (AV.agg [St (bC L).1,St (bC L).2]).cells false TP 0)).next=M4.next + 1:=rfl
  generalize (M4.push (.row [St [],St []] false TP 0)).put M4.next (.row (AV.agg [St (bC L).1,St (bC L).2]).cells false TP 0)=M5 at *
  have h25:=k5.ax h24 (by omega) (by simp)
  rw[aU,az h5 rfl]
  have hpl:=Jg hB
  refine hn ((k04.trans k5).base.trans hBM) (by omega) fun M6 k6=>?_
  have h26:=k6.ax h25 (by omega) (by simp)
  have h56:=k6.ax h5 (by omega) (by simp)
  have n6:=k6.next
  have k06:=(k04.trans k5).trans k6
  rw[aU,bM (l':=[St (kJ (bC L).1 j),St (bC L).2]) h56 (by simp) rfl rfl rfl,aN (n:=2) (ay _) rfl,
   bK (n:=2) (x:=.agg [St (kJ (bC L).1 j),St (bC L).2]) (l:=[St [],St []]) (dh h26 (by omega)) rfl rfl rfl,aN (n:=2) (ay _) rfl]
  exact hQ _ ((k06.put _ (.inl (by omega))).put _ (.inl (by omega)))
def F7 (B:Base) (c:aj) : Prop:=∀ {M:RM} {s:Str} {Q:ai},M.base=B→s.length≤1000000000→(∀ M' b,ae [] M M'→(b && decide (s.length=5))=decide (s.map dw=bX)→Q (Bo b) M')→c [St s,St bX] M Q
def JK (B:Base) (c:aj) : Prop:=∀ {M:RM} {cs:List AV} {L:Ln} {k:Int} {S:Nat→Prop} {n:Str} {Q:ai},M.base=B→gW.rel M cs (L,k) S→LB 1000000000 L→(∀ M',ae [] M M'→Q (Bo (fI L n)) M')→c [.agg cs,St n] M Q
theorem OA {B:Base} {TL:Nat} {ce:aj} (he:F7 B ce) : JK B fun args M Q=>∃ a0 a1,args=[a0,a1]∧oM TL ce a0 a1 M Q:=by
 intro M cs L k S n Q hBM hrel hB hQ
 obtain⟨v,rfl,hps,hall,_⟩:=xV hrel
 refine⟨_,_,rfl, ?_⟩
 unfold oM
 simp only[dJ]
 rw[iC hall (by simp),aF]
 have k1:ae [] M (M.push (.row [St L.g,St L.n,v,St L.v,N .i64 k] false TL 0)):=(ae.refl _ _).push _
 have h1:(M.push (.row [St L.g,St L.n,v,St L.v,N .i64 k] false TL 0)).heap M.next=some (.row [St L.g,St L.n,v,St L.v,N .i64 k] false TL 0):=RM.aR _
 have n1:(M.push (.row [St L.g,St L.n,v,St L.v,N .i64 k] false TL 0)).next=M.next + 1:=bH _
 generalize M.push (.row [St L.g,St L.n,v,St L.v,N .i64 k] false TL 0)=M1 at *
 rw[aU,az h1 rfl,mh]
 refine mP (p:=L.g != []) (fun hc kk hk=>?_) ?_
 ·rw[aU,az h1 rfl,mh]; exact hk
 refine mP (p:=decide (L.ps.length > 0)) (fun hc kk hk=>?_) ?_
 ·rw[aU,az h1 rfl,(hps.keep k1 (by simp)).len,show(N .i64 (0:Int))=N .i64 ((0:Nat) : Int) from rfl,AP]; exact hk
 refine aZ (fun h=>?_) (fun h=>?_)
 ·have:fI L n=false:=by
   unfold fI
   simp only[Bool.or_eq_true] at h
   rcases h with(h | h) | h
   ·have:¬ L.n=n:=by simpa using h
    rw[decide_eq_false this]; simp
   ·have:¬ L.g=[]:=by simpa using h
    rw[decide_eq_false this]; simp
   ·have:=of_decide_eq_true h
    rw[decide_eq_false (show ¬ L.ps.length=0 by omega)]; simp
  rw[this] at hQ
  exact hQ _ k1
 ·simp only[Bool.or_eq_false_iff] at h
  obtain⟨⟨a1,a2⟩,a3⟩:=h
  have e1:L.n=n:=by simpa using a1
  have e2:L.g=[]:=by simpa using a2
  have e3:L.ps.length=0:=by have:=of_decide_eq_false a3; omega
  have:fI L n=(if n=iB then decide (L.v=TM) else decide (L.v.map dw=bX)):=by
   unfold fI
   rw[decide_eq_true e1,decide_eq_true e2,decide_eq_true e3]; rfl
  rw[this] at hQ
  rw[fV]
  refine aZ (fun h=>?_) (fun h=>?_)
  ·have h:n=iB:=by simpa using h
   rw[if_pos h] at hQ
   rw[aU,az h1 rfl,fV]
   have:(L.v == [52,46,48])=decide (L.v=TM):=by by_cases h:L.v=TM <;> simp[h]
   rw[this]
   exact hQ _ k1
  ·have h:¬ n=iB:=by simpa using h
   rw[if_neg h] at hQ
   rw[aU,az h1 rfl]
   refine he (k1.base.trans hBM) hB.v fun M2 b k2 hb=>?_
   have h12:=k2.ax h1 (by omega) (by simp)
   refine uY (p:=decide (L.v.length=5)) (fun hc kk hk=>?_) ?_
   ·rw[aU,az h12 rfl,bu,dR]
    have:((L.v.length:Int) == 5)=decide (L.v.length=5):=by by_cases h:L.v.length=5 <;> simp[h]; omega
    rw[this]; exact hk
   rw[hb]
   exact hQ _ (k1.trans k2)
theorem zW {α:Type} (p:α→Bool) (s:List α) : s.length - (s.dropWhile p).length=(s.takeWhile p).length:=by
 have:=congrArg List.length (List.takeWhile_append_dropWhile (p:=p) (l:=s))
 rw[List.length_append] at this; omega
def Kh (B:Base) (c:aj) : Prop:=∀ {M:RM} {s:Str} {Q:ai},M.base=B→s.length≤1000000000→(∀ M',ae [] M M'→Q (.tup [St (dU s).1,St (dU s).2]) M')→c [St s] M Q
theorem Ph {B:Base} {ct:aj} (ht:Kj B ct) : Kh B fun args M Q=>∃ a0,args=[a0]∧uk ct a0 M Q:=by
 intro M s Q hBM hl hQ
 refine⟨_,rfl, ?_⟩
 unfold uk
 rw[bu]
 refine ht hBM hl fun M1 k1=>?_
 have hd:=qQ (gN.contains ·) s
 rw[bu,SL hd (by omega),zW]
 have ht:=nZ (gN.contains ·) s
 have hle:(s.takeWhile (gN.contains ·)).length≤s.length:=by rw[← zW]; omega
 rw[gq hle,dI,bD hle,dI,ht.1,ht.2]
 exact hQ M1 k1
def O1 (B:Base) (c:aj) : Prop:=∀ {M:RM} {s:Str} {Q:ai},M.base=B→s.length≤1000000000→(∀ M',ae [] M M'→Q (.tup [St (qL s).1,St (qL s).2.1,Bo (qL s).2.2]) M')→c [St s] M Q
theorem QX {B:Base} {cp cc ci:aj} (hp:jo cp) (hc:zG 34 cc) (hi:lW mi B ci) : O1 B fun args M Q=>∃ a0,args=[a0]∧qU cp cc ci a0 M Q:=by
 intro M s Q hBM hl hQ
 refine⟨_,rfl, ?_⟩
 unfold qU
 simp only[dB]
 refine hp hl ?_
 unfold AY
 unfold qL at hQ
 cases hh:bE 34 s with
 | true =>
   rw[if_pos rfl,bG,bJ,eZ]
   rw[if_pos hh] at hQ
   refine hc (by simp; omega) ?_
   unfold ER
   cases hb:brk 34 (s.drop 1) with
   | none =>
     rw[hb] at hQ
     dsimp only at hQ ⊢
     rw[bG,bJ,gF]
     exact hQ _ (ae.refl _ _)
   | some x =>
     rw[hb] at hQ
     dsimp only at hQ ⊢
     rw[bG,bJ,gF]
     exact hQ _ (ae.refl _ _)
 | false =>
   rw[if_neg (by simp),bG,bJ,dx]
   rw[if_neg (by rw[hh]; simp)] at hQ
   refine hi hBM hl fun M1 k1=>?_
   have hlt:=wE s mi
   have hge : -1≤Lib.indexAny s mi:=by
    rcases Hq s with⟨e,_⟩ | ⟨a,c,b,_,e,_⟩ <;> omega
   refine bI (fun ys M'=>M'=M1∧ys=[N .i64 (if Lib.indexAny s mi<0 then(s.length:Int) else Lib.indexAny s mi)]) ?_ ?_
   ·rintro _ _ ⟨rfl,rfl⟩
    dsimp only[ag]
    by_cases h:Lib.indexAny s mi<0
    ·rw[if_pos h,gq (Nat.le_refl _),dI,bD (Nat.le_refl _),dI,List.take_length,List.drop_length]
     rw[if_pos h] at hQ
     exact hQ _ k1
    ·rw[if_neg h] at hQ ⊢
     obtain⟨i,hi⟩ : ∃ i:Nat,Lib.indexAny s mi=(i:Int):=⟨(Lib.indexAny s mi).toNat,by omega⟩
     rw[hi] at hQ hlt ⊢
     have hil:i≤s.length:=by omega
     rw[gq hil,dI,bD hil,dI]
     rw[Int.toNat_natCast] at hQ
     exact hQ _ k1
   intro J hJ
   rw[lN]
   refine aZ (fun h=>?_) (fun h=>?_)
   ·have h:=of_decide_eq_true h
    rw[if_pos h] at hJ
    rw[bu]; exact hJ _ _ ⟨rfl,rfl⟩
   ·have h:=of_decide_eq_false h
    rw[if_neg h] at hJ
    exact hJ _ _ ⟨rfl,rfl⟩
theorem sG (s:Str) : (dU s).1.length + (dU s).2.length=s.length:=by
 have:=congrArg List.length (List.takeWhile_append_dropWhile (p:=(gN.contains ·)) (l:=s))
 rw[List.length_append] at this; exact this
theorem MB {x:UInt8} {s a b:Str} (h:brk x s=some (a,b)) : a.length + b.length + 1=s.length:=by
 rcases sw x s with⟨h1,_⟩ | ⟨a',b',h1,_,h3,_⟩
 ·rw[h1] at h; cases h
 ·rw[h1] at h; cases h
  have:=congrArg List.length h3; simp at this; omega
theorem zA (s:Str) : (qL s).1.length + (qL s).2.1.length≤s.length:=by
 unfold qL
 cases hh:bE 34 s with
 | true =>
   have:=bg hh
   rw[if_pos rfl]
   cases hb:brk 34 (s.drop 1) with
   | none=>simp
   | some x =>
     have:=MB (a:=x.1) (b:=x.2) (by rw[hb])
     simp at this ⊢; omega
 | false =>
   rw[if_neg (by simp)]
   split
   ·simp
   ·simp; omega
theorem yP:∀ (k:Nat) (s:Str) (acc vs:List Str) (r:Str),1≤s.length→iE k s acc=some (vs,r)→dX vs + 3 * r.length≤dX acc + 3 * s.length
 | 0,_,_,_,_,_,h=>by cases h
 | k + 1,s,acc,vs,r,h1,h=>by
   rw[iE] at h
   have hl:=zA (s.drop 1)
   rw[List.length_drop] at hl
   generalize qL (s.drop 1)=x at *
   obtain⟨v,q,ok⟩:=x
   cases ok with
   | false=>cases h
   | true =>
     dsimp only at h hl
     split at h
     ·rename_i hh
      have:=yP k q _ vs r (bg hh) h
      rw[BU] at this
      omega
     ·cases h
      rw[BU]; omega
theorem vY:∀ (k:Nat) (s:Str) (acc vs:List Str) (r:Str),1≤s.length→iE k s acc=some (vs,r)→r.length + 1≤s.length
 | 0,_,_,_,_,_,h=>by cases h
 | k + 1,s,acc,vs,r,h1,h=>by
   rw[iE] at h
   have hl:=zA (s.drop 1)
   rw[List.length_drop] at hl
   generalize qL (s.drop 1)=x at *
   obtain⟨v,q,ok⟩:=x
   cases ok with
   | false=>cases h
   | true =>
     dsimp only at h hl
     split at h
     ·rename_i hh
      have:=vY k q _ vs r (bg hh) h
      omega
     ·cases h
      omega
theorem vG:∀ (n:Nat) (s:Str) (acc:List Str) (k:Nat),s.length≤n→1≤s.length→s.length≤k→iE k s acc=iE s.length s acc
 | 0,s,acc,k,h1,h2,h3=>by omega
 | n + 1,s,acc,k,h1,h2,h3=>by
   obtain⟨i,rfl⟩ : ∃ i,k=i + 1:=⟨k - 1,by omega⟩
   obtain⟨j,hj⟩ : ∃ j,s.length=j + 1:=⟨s.length - 1,by omega⟩
   rw[hj,iE,iE]
   have hl:=zA (s.drop 1)
   rw[List.length_drop] at hl
   generalize qL (s.drop 1)=x at *
   obtain⟨v,q,ok⟩:=x
   cases ok with
   | false=>rfl
   | true =>
     dsimp only at hl ⊢
     split
     ·rename_i hh
      have h4:=bg hh
      rw[vG n q _ i (by omega) h4 (by omega),vG n q _ j (by omega) h4 (by omega)]
     ·rfl
theorem EJ:∀ (k:Nat) (s:Str) (acc ps:List jA) (r:Str),jQ k s acc=some (ps,r)→iK ps + 3 * r.length≤iK acc + 3 * s.length
 | 0,_,_,_,_,h=>by cases h
 | k + 1,s,acc,ps,r,h=>by
   rw[jQ] at h
   split at h
   ·rename_i h59
    have hp:=bg h59
    have hw:=sG (s.drop 1)
    rw[List.length_drop] at hw
    split at h
    ·rename_i h61
     have hq:=bg h61
     cases hv:iE (dU (s.drop 1)).2.length (dU (s.drop 1)).2 [] with
     | none=>rw[hv] at h; cases h
     | some x =>
       obtain⟨vs,q⟩:=x
       rw[hv] at h
       dsimp only at h
       have h1:=yP _ _ _ _ _ hq hv
       have h2:=EJ k q _ ps r h
       rw[Nf] at h2
       dsimp only at h2
       simp only[show dX []=0 from rfl] at h1
       omega
    ·cases h
   ·cases h; omega
theorem wG:∀ (n:Nat) (s:Str) (acc:List jA) (k:Nat),s.length≤n→s.length + 1≤k→jQ k s acc=jQ (s.length + 1) s acc
 | n,s,acc,k,h1,h3=>by
   obtain⟨i,rfl⟩ : ∃ i,k=i + 1:=⟨k - 1,by omega⟩
   rw[jQ,jQ]
   split
   ·rename_i h59
    have hp:=bg h59
    have hw:=sG (s.drop 1)
    rw[List.length_drop] at hw
    split
    ·rename_i h61
     have hq:=bg h61
     cases hv:iE (dU (s.drop 1)).2.length (dU (s.drop 1)).2 [] with
     | none=>rfl
     | some x =>
       obtain⟨vs,q⟩:=x
       have h1:=yP _ _ _ _ _ hq hv
       have h4:q.length<s.length:=by
        have:=vY _ _ _ _ _ hq hv
        omega
       dsimp only
       cases n with
       | zero=>omega
       | succ n=>rw[wG n q _ i (by omega) (by omega),wG n q _ s.length (by omega) (by omega)]
    ·rfl
   ·rfl
def TN (B:Base) (c:aj) : Prop:=∀ {M:RM} {s:Str} {Q:ai},M.base=B→s.length≤1000000000 →
 (∀ M' e,ae [] M M'→(∀ K:AV→Prop,K (Bo (yG s).2)→FN false e (.sc .nilIface) K)→Q (.tup [N .i64 (yG s).1,e]) M')→c [St s] M Q
theorem Yb (a b:Int) {K:AV→Prop} : af .sub (N .i64 a) (N .i64 b) K=K (N .i64 (IntKind.wrap .i64 (a - b))):=lY ..
def Wi (B:Base) (c:aj) : Prop:=∀ {M:RM} {s:Str} {Q:ai},M.base=B→s.length≤10000000 →
 (∀ M' v,ae [] M M'→bB iI M' v (CZ s).1.ps (fun b=>M.next≤b)→Q (.tup [.agg [St (CZ s).1.g,St (CZ s).1.n,v,St [],N .i64 0],N .i64 (CZ s).2.1,Bo (CZ s).2.2]) M')→c [St s] M Q
def hd4 (s:Str) : Str × Str × Str:=if bE 46 (dU s).2 then((dU s).1,(dU ((dU s).2.drop 1)).1,(dU ((dU s).2.drop 1)).2) else([],(dU s).1,(dU s).2)
theorem Pp (s:Str) : CZ s=match jQ ((hd4 s).2.2.length + 1) (hd4 s).2.2 [] with
 | none=>(MN,0,false)
 | some (ps,r)=>if r=[] then(⟨(hd4 s).1,(hd4 s).2.1,ps,[]⟩,0,true) else(⟨(hd4 s).1,(hd4 s).2.1,ps,[]⟩,mM r):=rfl
theorem MX (s:Str) : (hd4 s).1.length + (hd4 s).2.1.length + (hd4 s).2.2.length≤s.length:=by
 have h1:=sG s
 unfold hd4
 split
 ·rename_i h
  have:=bg h
  have h2:=sG ((dU s).2.drop 1)
  rw[List.length_drop] at h2
  dsimp only; omega
 ·dsimp only[List.length_nil]; simp; omega
theorem UT (s:Str) : qF (3 * s.length) { (CZ s).1 with v:=[] } := by
 have h1:=MX s
 rw[Pp]
 cases hp:jQ ((hd4 s).2.2.length + 1) (hd4 s).2.2 [] with
 | none=>exact⟨by simp[MN],by simp[MN],by simp,by simp[MN,iK]⟩
 | some x =>
   obtain⟨ps,r⟩:=x
   have h2:=EJ _ _ _ _ _ hp
   simp only[show iK []=0 from rfl] at h2
   dsimp only
   split
   ·exact⟨by dsimp only; omega,by dsimp only; omega,by simp,by dsimp only; omega⟩
   ·exact⟨by dsimp only; omega,by dsimp only; omega,by simp,by dsimp only; omega⟩
theorem Yu {M:RM} {b T:Nat} {l:List AV} {Q:ai} (h:M.heap b=some (.row l false T 0)) (hl:l.length=5) (hQ:∀ M',ae [b] M M'→Q (.tup [.agg [St [],St [],aB,St [],N .i64 0],N .i64 0,Bo false]) M') :
  dV [(St []),(St []),(.sc (.slice none 0 0)),(St []),(N .i64 0)] [] fun t48=>aA M (.ptr b 0) t48 5 fun KZ=>aH KZ (.ptr b 0) 5 fun res=>Q (.tup [res,(N .i64 0),(Bo false)]) KZ:=by
 rw[iJ]
 refine⟨_,rfl, ?_⟩
 rw[bK (n:=5) (x:=.agg [St [],St [],aB,St [],N .i64 0]) h rfl hl rfl,aN (n:=5) (ay _) rfl]
 exact hQ _ ((ae.refl _ _).put _ (.inr (by simp)))
theorem UL {B:Base} {TL TP TS:Nat} {cw cc ch cv ca:aj} (hw:Kh B cw) (hc:jo cc) (hh:mH ch) (hv:O1 B cv) (ha:TN B ca) :
  Wi B fun args M Q=>∃ a0,args=[a0]∧oD TL cw cc ch TP cv TS ca a0 M Q:=by
 intro M s Q hM hl hQ
 refine⟨_,rfl, ?_⟩
 unfold oD
 simp only[dJ,Nr,dB]
 rw[aF]
 have k1:ae [] M (M.push (.row [St [],St [],aB,St [],N .i64 0] false TL 0)):=(ae.refl _ _).push _
 have h1:(M.push (.row [St [],St [],aB,St [],N .i64 0] false TL 0)).heap M.next=some (.row [St [],St [],aB,St [],N .i64 0] false TL 0):=RM.aR _
 have n1:(M.push (.row [St [],St [],aB,St [],N .i64 0] false TL 0)).next=M.next + 1:=bH _
 generalize M.push (.row [St [],St [],aB,St [],N .i64 0] false TL 0)=M1 at *
 have hw1:=sG s
 refine hw (k1.base.trans hM) (by omega) fun M2 k2=>?_
 have h2:=k2.ax h1 (by omega) (by simp)
 have n2:=k2.next
 have k02:=k1.trans k2
 rw[bG,bJ,aU,bM (l':=[St [],St (dU s).1,aB,St [],N .i64 0]) h2 (by simp) rfl rfl rfl]
 have k3:ae [] M (M2.put M.next (.row [St [],St (dU s).1,aB,St [],N .i64 0] false TL 0)):=k02.put _ (.inl (by omega))
 have h3:(M2.put M.next (.row [St [],St (dU s).1,aB,St [],N .i64 0] false TL 0)).heap M.next=some (.row [St [],St (dU s).1,aB,St [],N .i64 0] false TL 0):=ay _
 have n3:(M2.put M.next (.row [St [],St (dU s).1,aB,St [],N .i64 0] false TL 0)).next=M2.next:=rfl
 generalize M2.put M.next (.row [St [],St (dU s).1,aB,St [],N .i64 0] false TL 0)=M3 at *
 have hdl:=MX s
 refine bI (fun ys M'=>ys=[St (hd4 s).2.2]∧ae [] M M'∧M.next + 1≤M'.next∧M'.heap M.next=some (.row [St (hd4 s).1,St (hd4 s).2.1,aB,St [],N .i64 0] false TL 0)) ?_ ?_
 rotate_left 1
 ·intro J hJ
  refine hc (by omega) ?_
  unfold AY
  unfold hd4 at hJ
  cases hd:bE 46 (dU s).2 with
  | false =>
    rw[if_neg (by simp),bG,bJ,dx]
    rw[if_neg (by rw[hd]; simp)] at hJ
    exact hJ _ _ ⟨rfl,k3,by omega,h3⟩
  | true =>
    rw[if_pos rfl,bG,bJ,eZ]
    rw[if_pos hd] at hJ
    have hpos:=bg hd
    rw[aU,az h3 rfl,aU,bM (l':=[St (dU s).1,St (dU s).1,aB,St [],N .i64 0]) h3 (by simp) rfl rfl rfl]
    have k4:ae [] M (M3.put M.next (.row [St (dU s).1,St (dU s).1,aB,St [],N .i64 0] false TL 0)):=k3.put _ (.inl (by omega))
    have h4:(M3.put M.next (.row [St (dU s).1,St (dU s).1,aB,St [],N .i64 0] false TL 0)).heap M.next=some (.row [St (dU s).1,St (dU s).1,aB,St [],N .i64 0] false TL 0):=ay _
    have n4:(M3.put M.next (.row [St (dU s).1,St (dU s).1,aB,St [],N .i64 0] false TL 0)).next=M3.next:=rfl
    generalize M3.put M.next (.row [St (dU s).1,St (dU s).1,aB,St [],N .i64 0] false TL 0)=M4 at *
    refine hw (k4.base.trans hM) (by simp; omega) fun M5 k5=>?_
    have h5:=k5.ax h4 (by omega) (by simp)
    have n5:=k5.next
    rw[bG,bJ,aU,bM (l':=[St (dU s).1,St (dU ((dU s).2.drop 1)).1,aB,St [],N .i64 0]) h5 (by simp) rfl rfl rfl]
    exact hJ _ _ ⟨rfl,(k4.trans k5).put _ (.inl (by omega)),by rw[jG]; omega,ay _⟩
 rintro _ M4 ⟨rfl,k4,n4,h4⟩
 dsimp only[ag]
 rw[Pp] at hQ
 generalize hd4 s=hd at *
 obtain⟨g,n,s0⟩:=hd
 dsimp only at hQ hdl h4 ⊢
 generalize hP:jQ (s0.length + 1) s0 []=P at *
 refine aP (fun m ys M5=>∃ (t:Str) (v:AV) (acc:List jA),m=t.length∧ys=[St t]∧acc.length + t.length≤s0.length∧ae [] M M5∧M.next + 1≤M5.next∧M5.heap M.next=some (.row [St g,St n,v,St [],N .i64 0] false TL 0) ∧
   eG iI M5 (M.next + 1) TP v acc (fun b=>M.next + 1≤b∧b<M5.next∧b ∉ aD v)∧jQ (t.length + 1) t acc=P) _
  ⟨s0,aB,[],rfl,rfl,by simp,k4,n4,h4,.nil,hP⟩ ?_
 rintro next m ys M5 hnext ⟨t,v,acc,rfl,rfl,hal,k5,n5,h5,ho,hp⟩
 have hM5:M5.base=B:=k5.base.trans hM
 rw[jQ] at hp
 dsimp only[ag]
 refine hh (by omega) ?_
 have hvl:=ho.blk
 cases h59:bE 59 t with
 | false =>
   simp only[h59,Bool.false_eq_true,if_false] at hp
   rw[dx]
   rw[← hp] at hQ
   dsimp only at hQ
   have hsl:bB iI M5 v acc (fun b=>M.next + 1≤b):=(ho.mono (fun b h=>h.1)).CR (fun b hb _=>hb)
   have hall:([St g,St n,v,St [],N .i64 0] : List AV).all oneCell=true:=by simp[eF,ho.one]
   have fin:∀ {M6:RM} {Q' : AV→RM→Prop},ae [] M5 M6→(∀ M',ae [] M M'→bB iI M' v acc (fun b=>M.next≤b)→Q' (.agg [St g,St n,v,St [],N .i64 0]) M') →
     aA M6 (.ptr M.next 0) (.agg [St g,St n,v,St [],N .i64 0]) 5 fun VN=>aH VN (.ptr M.next 0) 5 fun res=>Q' res VN:=by
    intro M6 Q' k6 hq
    have h6:=k6.ax h5 (by omega) (by simp)
    rw[bK (n:=5) (x:=.agg [St g,St n,v,St [],N .i64 0]) h6 rfl rfl hall,aN (n:=5) (ay _) rfl]
    refine hq _ ((k5.trans k6).put _ (.inl (Nat.le_refl _))) ?_
    exact(((hsl.keep k6 (by simp)).keep (bs:=[M.next]) ((ae.refl _ _).put _ (.inr (by simp))) (fun b hb h=>by simp at hb; omega)).mono fun b hb=>by omega)
   rw[fV]
   refine aZ (fun he=>?_) (fun he=>?_)
   ·have he:t=[]:=by simpa using he
    rw[if_pos he] at hQ
    rw[aN (n:=5) h5 rfl]
    exact fin (Q':=fun res M'=>Q (.tup [res,(N .i64 0),(Bo true)]) M') (ae.refl _ _) fun M' k' h'=>hQ M' v k' h'
   ·have he:¬ t=[]:=by simpa using he
    rw[if_neg he] at hQ
    refine hc (by omega) ?_
    have hcut:AY 35 t=.tup [St (if bE 35 t then t.drop 1 else t),Bo (bE 35 t)]:=by
     unfold AY
     cases bE 35 t with
     | true=>rfl
     | false=>rfl
    rw[hcut,bG,bJ]
    unfold mM at hQ
    dsimp only at hQ
    generalize hd:(if bE 35 t then t.drop 1 else t)=d at *
    have hdl' : d.length≤t.length:=by
     rw[← hd]; split
     ·simp
     ·exact Nat.le_refl _
    refine ha hM5 (by omega) fun M6 e k6 hE=>?_
    rw[bG,bJ,aN (n:=5) (k6.ax h5 (by omega) (by simp)) rfl,Yb]
    have done:∀ r:Bool,r=(bE 35 t && (yG d).2 && decide ((yG d).1 ≥ 2)) →
      aA M6 (.ptr M.next 0) (.agg [St g,St n,v,St [],N .i64 0]) 5 fun U9=>aH U9 (.ptr M.next 0) 5 fun V9=>Q (.tup [V9,N .i64 (IntKind.wrap .i64 ((yG d).1 - 1)),Bo r]) U9:=by
     intro r hr
     refine fin (Q':=fun res M'=>Q (.tup [res,N .i64 (IntKind.wrap .i64 ((yG d).1 - 1)),Bo r]) M') k6 fun M' k' h'=>?_
     rw[hr]; exact hQ M' v k' h'
    cases hb:bE 35 t with
    | false =>
      simp only[nU,iH]
      exact done false (by rw[hb]; rfl)
    | true =>
      simp only[lS]
      refine hE _ ?_
      rw[gD]
      cases hb2:(yG d).2 with
      | false =>
        simp only[nU,iH]
        exact done false (by rw[hb,hb2]; rfl)
      | true =>
        simp only[lS]
        rw[fq,gD]
        exact done _ (by rw[hb,hb2]; rfl)
 | true =>
   simp only[h59,if_true] at hp
   have htl:=bg h59
   rw[eZ,aF,show aS (St t) (some (N .i64 1)) none=some (St (t.drop 1)) from bD (l:=1) (by omega) .i64,dI]
   have h6:(M5.push (.row [St [],aB] false TP 0)).heap M5.next=some (.row [St [],aB] false TP 0):=RM.aR _
   have k6:ae [] M5 (M5.push (.row [St [],aB] false TP 0)):=(ae.refl _ _).push _
   have n6:(M5.push (.row [St [],aB] false TP 0)).next=M5.next + 1:=rfl
   generalize M5.push (.row [St [],aB] false TP 0)=M6 at *
   refine hw (k6.base.trans hM5) (by simp; omega) fun M7 k7=>?_
   have h7:=k7.ax h6 (by omega) (by simp)
   have n7:=k7.next
   have hw4:=sG (t.drop 1)
   rw[List.length_drop] at hw4
   generalize dU (t.drop 1)=w4 at *
   obtain⟨nm,t2⟩:=w4
   dsimp only at hp hw4 ⊢
   rw[bG,bJ,aU,bM (l':=[St nm,aB]) h7 (by simp) rfl rfl rfl]
   have k8:ae [] M5 (M7.put M5.next (.row [St nm,aB] false TP 0)):=(k6.trans k7).put _ (.inl (Nat.le_refl _))
   have h8:(M7.put M5.next (.row [St nm,aB] false TP 0)).heap M5.next=some (.row [St nm,aB] false TP 0):=ay _
   have n8:(M7.put M5.next (.row [St nm,aB] false TP 0)).next=M7.next:=rfl
   generalize M7.put M5.next (.row [St nm,aB] false TP 0)=M8 at *
   refine hh (by omega) ?_
   rw[bQ]
   have T9:P=none→∀ {M9:RM},ae [] M5 M9→dV [(St []),(St []),(.sc (.slice none 0 0)),(St []),(N .i64 0)] [] fun t48=>aA M9 (.ptr M.next 0) t48 5 fun KZ=>aH KZ (.ptr M.next 0) 5 fun res=>Q (.tup [res,(N .i64 0),(Bo false)]) KZ:=by
    intro hn M9 k9
    rw[hn] at hQ
    refine Yu (k9.ax h5 (by omega) (by simp)) rfl fun M' k'=>?_
    exact hQ M' aB ((k5.trans k9).eD k' (fun c hc=>.inl (by simp at hc; omega))) bB.nil
   cases h61:bE 61 t2 with
   | false =>
     simp only[h61,Bool.false_eq_true,if_false] at hp
     rw[Bool.not_false,eZ]
     exact T9 hp.symm k8
   | true =>
   simp only[h61,if_true] at hp
   rw[Bool.not_true,dx]
   refine aP (fun m zs M9=>∃ (u:Str) (vs:List Str) (w:AV) (more:Bool),m=2 * u.length + (if more then 1 else 0)∧zs=[St u,Bo more]∧u.length + vs.length≤t2.length∧ae [] M5 M9∧M8.next≤M9.next ∧
     M9.heap M5.next=some (.row [St nm,w] false TP 0)∧eG jd.iU M9 M8.next TS w vs (fun _=>False) ∧
     (more=true→1≤u.length∧iE u.length u vs=iE t2.length t2 [])∧(more=false→iE t2.length t2 []=some (vs,u))) _
    ⟨t2,[],aB,true,rfl,rfl,by simp,k8,Nat.le_refl _,h8,.nil,fun _=>⟨bg h61,rfl⟩,fun h=>by cases h⟩ ?_
   rintro Cf m zs M9 kZ ⟨u,vs,w,more,rfl,rfl,hul,k9,n9,h9,how,hm1,hm2⟩
   dsimp only[ag]
   have hM9:M9.base=B:=k9.base.trans hM5
   cases more with
   | true =>
     obtain⟨hu1,hvf⟩:=hm1 rfl
     obtain⟨j,hj⟩ : ∃ j,u.length=j + 1:=⟨u.length - 1,by omega⟩
     rw[hj,iE] at hvf
     rw[eZ,show aS (St u) (some (N .i64 1)) none=some (St (u.drop 1)) from bD (l:=1) (by omega) .i64,dI]
     have YL:=zA (u.drop 1)
     refine hv hM9 (by simp; omega) fun Ma ka=>?_
     generalize qL (u.drop 1)=x at *
     obtain⟨a,after,ok⟩:=x
     simp only[List.length_drop] at YL hvf
     rw[bG,bJ,gF,bQ]
     dsimp only
     cases ok with
     | false =>
       rw[Bool.not_false,eZ]
       refine T9 ?_ (k9.trans ka)
       dsimp only at hvf
       rw[← hvf] at hp
       exact hp.symm
     | true =>
     dsimp only at hvf
     have ha:=ka.ax h9 (by omega) (by simp)
     rw[Bool.not_true,dx,aU,az ha rfl,jg (x:=St a) (size:=1) rfl rfl rfl,aF]
     have X0:=how.keep ka (by simp) (by simp)
     have na:=ka.next
     refine eG.app (R:=jd.iU) (a:=a) (cs:=[St a]) X0 rfl (by omega) (Nat.le_refl _) (by simp) (by simp) (by omega) (by omega) ?_
     intro w' Mb ob kb nb hwb _
     have V6:∀ b∈aD w,M8.next≤b:=fun b hb=>(how.blk b hb).1
     have hb:=kb.ax ha (by omega) (fun h=>by have:=V6 _ h; omega)
     have Rn:∀ b∈aD w',M8.next≤b:=fun b hb=>(ob.blk b hb).1
     rw[aU,bM (l':=[St nm,w']) hb (by simp) ob.cells ob.one rfl]
     refine hh (by omega) ?_
     have kc:ae [] M5 (Mb.put M5.next (.row [St nm,w'] false TP 0)):=ae.new ((k9.trans ka).eD kb fun c hc=>.inl (by have:=V6 c hc; omega)) _ (Nat.le_refl _)
     refine kZ _ _ _ ?_ ⟨after,vs++[a],w',bE 44 after,rfl,rfl,by simp; omega,kc,by rw[jG]; omega,ay _, ?_, ?_, ?_⟩
     ·split <;> simp <;> omega
     ·refine ob.keep (bs:=[M5.next]) ((ae.refl _ _).put _ (.inr (by simp))) (by simp) fun b hb=>?_
      have:=Rn b hb
      simp; omega
     ·intro hmo
      rw[if_pos hmo] at hvf
      refine⟨bg hmo, ?_⟩
      rw[← hvf,vG after.length after _ j (Nat.le_refl _) (bg hmo) (by omega)]
     ·intro hmo
      rw[hmo] at hvf
      simp only[Bool.false_eq_true,if_false] at hvf
      exact hvf.symm
   | false =>
     have hv4:=hm2 rfl
     rw[hv4] at hp
     simp only at hp
     rw[dx,aU,az (k9.ax h5 (by omega) (by simp)) rfl,aN (n:=2) h9 rfl,jg (x:=.agg [St nm,w]) (size:=2) rfl (by show([St nm,w] : List AV).all oneCell=true; simp[eF,how.one]) rfl,aF]
     let S' : Nat→Prop:=fun b=>M.next + 1≤b∧b<M9.next∧b ∉ aD v
     have n9':=k9.next
     have ho9:eG iI M9 (M.next + 1) TP v acc S':=(ho.keep k9 (by simp) (by simp)).mono fun b h=>⟨h.1,by omega,h.2.2⟩
     have hel:iI.rel M9 [St nm,w] (nm,vs) S':=JR ((how.mono (S':=S') (fun _ h=>h.elim)).CR (fun b h1 h2=>⟨by omega,h2,fun hb=>by have:=(hvl b hb).2; omega⟩))
     refine eG.app (R:=iI) ho9 hel (by omega) (by decide) (fun b hb h=>h.2.2 hb) (fun b h=>h.2.1) (by omega) (by omega) ?_
     intro v' Mb ob kb nb hvb hdb
     have hvs:=vY _ _ _ _ _ (bg h61) hv4
     have hb5:=kb.ax (k9.ax h5 (by omega) (by simp)) (by omega) (fun h=>by have:=(hvl _ h).1; omega)
     have hob:=ob.blk
     rw[aU,bM (l':=[St g,St n,v',St [],N .i64 0]) hb5 (by simp) ob.cells ob.one rfl]
     refine hnext _ _ _ (by omega) ⟨u,v',acc++[(nm,vs)],rfl,rfl,by simp; omega, ?_,by rw[jG]; omega,ay _, ?_, ?_⟩
     ·exact ae.new ((k5.trans k9).eD kb fun c hc=>.inl (by have:=(hvl c hc).1; omega)) _ (Nat.le_refl _)
     ·refine(ob.keep (bs:=[M.next]) ((ae.refl _ _).put _ (.inr (by simp))) (fun b hb h=>by simp at hb; have:=h.1; omega) fun b hb=>?_).mono fun b h=>⟨h.1,by rw[jG]; omega,fun hb=>hdb b hb h⟩
      have:=(hob b hb).1
      simp; omega
     ·rw[← hp,wG u.length u _ t.length (Nat.le_refl _) (by omega)]
def Bl (p s:Str) : Bool:=decide (p.length≤s.length) && (s.take p.length == p)
def Ri (c:aj) : Prop:=∀ {M:RM} {s p:Str} {Q:ai},Q (Bo (Bl p s)) M→c [St s,St p] M Q
theorem IG:Ri fun args M Q=>∃ a0 a1,args=[a0,a1]∧Vl.cO a0 a1 M Q:=by
 intro M s p Q hQ
 refine⟨_,_,rfl, ?_⟩
 unfold Go.Ab.Vl.cO
 simp only[dJ,bu,fq]
 unfold Bl at hQ
 by_cases h:p.length≤s.length
 ·have e:decide ((s.length:Int) ≥ (p.length:Int))=true:=by simp[h]
  rw[e]
  simp only[go_sem,if_true]
  rw[gq h]
  simpa only[go_sem,h,decide_true,Bool.true_and,if_true] using hQ
 ·have e:decide ((s.length:Int) ≥ (p.length:Int))=false:=by simp; omega
  rw[e]
  simpa [go_sem,h] using hQ
def Bi (p s:Str) : AV:=if Bl p s then .tup [St (s.drop p.length),Bo true] else .tup [St s,Bo false]
def sD (c:aj) : Prop:=∀ {M:RM} {s p:Str} {Q:ai},Q (Bi p s) M→c [St s,St p] M Q
theorem D6 {ch:aj} (hh:Ri ch) : sD fun args M Q=>∃ a0 a1,args=[a0,a1]∧Vl.cZ ch a0 a1 M Q:=by
 intro M s p Q hQ
 refine⟨_,_,rfl, ?_⟩
 unfold Go.Ab.Vl.cZ
 refine hh ?_
 unfold Bi at hQ
 cases h:Bl p s
 ·rw[h] at hQ; simpa [go_sem] using hQ
 ·rw[h] at hQ
  have hl:p.length≤s.length:=by unfold Bl at h; simp at h; exact h.1
  simp only[bQ,Bool.not_true,dx,bu]
  rw[bD hl]
  simpa [go_sem] using hQ
theorem Lv {ch:aj} (hh:sD ch) : sD fun args M Q=>∃ a0 a1,args=[a0,a1]∧Vl.gJ ch a0 a1 M Q:=by
 intro M s p Q hQ
 refine⟨_,_,rfl, ?_⟩
 unfold Go.Ab.Vl.gJ
 refine hh ?_
 unfold Bi at hQ ⊢
 cases h:Bl p s <;> rw[h] at hQ <;> simpa [go_sem] using hQ
theorem VM (s:Str) : Bl gm s=decide (s.take 4=gm):=by
 unfold Bl
 rw[show gm.length=4 from rfl]
 by_cases h:s.take 4=gm
 ·have:=congrArg List.length h
  simp[gm] at this
  rw[decide_eq_true h,decide_eq_true (show 4≤s.length by omega),h]; rfl
 ·rw[decide_eq_false h,Bool.and_eq_false_iff]
  right; simpa using h
theorem UZ {b:Bool} {x y:Str} {N:Nat} (hx:x.length≤N) (hy:y.length≤N) : (if b then x else y).length≤N:=by cases b <;> simpa
theorem UX {p:Fd} {N:Nat} (h1:3 * p.1.length≤N) (h2:2 * p.2.length≤N) : qF N (dN p).1:=by
 have hs:=UT (if decide (p.1.take 4=gm) then p.1.drop 4 else p.1)
 have hl:(if decide (p.1.take 4=gm) then p.1.drop 4 else p.1).length≤p.1.length:=by
  split
  ·simp
  ·exact Nat.le_refl _
 have he:=Mm p.2
 unfold dN
 refine⟨?_, ?_, ?_, ?_⟩
 ·have:=hs.g; dsimp only at this ⊢; omega
 ·have:=hs.n; dsimp only at this ⊢; omega
 ·dsimp only; exact UZ (by omega) (by omega)
 ·have:=hs.ps; dsimp only at this ⊢; omega
def IU (B:Base) (c:aj) : Prop:=∀ {M:RM} {p:Fd} {Q:ai},M.base=B→p.1.length≤10000000→p.2.length≤10000000 →
 (∀ M' cs,ae [] M M'→gW.rel M' cs ((dN p).1,0) (fun b=>M.next≤b)→Q (.tup [.agg cs,N .i64 (dN p).2.1,Bo (dN p).2.2]) M')→c [lK p] M Q
theorem Fa (p q:Fd) : bV [2,2] [St p.1,St p.2] [St q.1,St q.2]=some (decide (p=q)):=by
 rw[yL,yL,EM]
 by_cases h1:p.1=q.1
 ·by_cases h2:p.2=q.2
  ·rw[if_pos h1,if_pos h2,decide_eq_true (Prod.ext h1 h2)]
  ·rw[if_pos h1,if_neg h2,decide_eq_false (fun e=>h2 (by rw[e]))]
 ·rw[if_neg h1,decide_eq_false (fun e=>h1 (by rw[e]))]
theorem P9 {B:Base} {TP TL:Nat} {cc cu ct ce cf:aj} (hc:sD cc) (hu:Wi B cu) (ht:IR ct) (he:Nw ce) (hf:FC B cf) : IU B fun args M Q=>∃ a0,args=[a0]∧tC TP TL cc cu ct ce cf a0 M Q:=by
 intro M p Q hM hp1 hp2 hQ
 refine⟨_,rfl, ?_⟩
 unfold tC lK
 simp only[dJ,dB]
 rw[iC (cs:=[St p.1,St p.2]) rfl (by simp),aF]
 have k1:ae [] M (M.push (.row [St p.1,St p.2] false TP 0)):=(ae.refl _ _).push _
 have h1:(M.push (.row [St p.1,St p.2] false TP 0)).heap M.next=some (.row [St p.1,St p.2] false TP 0):=RM.aR _
 have n1:(M.push (.row [St p.1,St p.2] false TP 0)).next=M.next + 1:=bH _
 generalize M.push (.row [St p.1,St p.2] false TP 0)=M1 at *
 rw[aF]
 have k2:ae [] M1 (M1.push (.row [St [],St [],aB,St [],N .i64 0] false TL 0)):=(ae.refl _ _).push _
 have h2:(M1.push (.row [St [],St [],aB,St [],N .i64 0] false TL 0)).heap M1.next=some (.row [St [],St [],aB,St [],N .i64 0] false TL 0):=RM.aR _
 have n2:(M1.push (.row [St [],St [],aB,St [],N .i64 0] false TL 0)).next=M1.next + 1:=bH _
 generalize M1.push (.row [St [],St [],aB,St [],N .i64 0] false TL 0)=M2 at *
 have h12:=k2.ax h1 (by omega) (by simp)
 have k02:=k1.trans k2
 rw[aU,az h12 rfl]
 refine hc ?_
 have hcut:Bi gm p.1=.tup [St (if decide (p.1.take 4=gm) then p.1.drop 4 else p.1),Bo (decide (p.1.take 4=gm))]:=by
  unfold Bi
  rw[VM]
  cases decide (p.1.take 4=gm) with
  | true=>rfl
  | false=>rfl
 rw[show([114,97,119,46] : Str)=gm from rfl,hcut,bG,bJ]
 have hlen:(if decide (p.1.take 4=gm) then p.1.drop 4 else p.1).length≤p.1.length:=by
  split
  ·simp
  ·exact Nat.le_refl _
 have hsz:=UX (p:=p) (N:=30000000) (by omega) (by omega)
 unfold dN at hQ hsz
 dsimp only at hQ hsz
 generalize hraw:decide (p.1.take 4=gm)=raw at *
 generalize (if raw then p.1.drop 4 else p.1)=s at *
 refine hu (k02.base.trans hM) (by omega) fun M3 v k3 hv=>?_
 generalize CZ s=u at *
 obtain⟨u,j,uok⟩:=u
 dsimp only at hQ hsz hv ⊢
 rw[bG,bJ,gF]
 have k03:=k02.trans k3
 have h13:=k3.ax h12 (by omega) (by simp)
 have h23:=k3.ax h2 (by omega) (by simp)
 have n3:=k3.next
 have hall:∀ x:Str,([St u.g,St u.n,v,St x,N .i64 0] : List AV).all oneCell=true:=fun x=>by simp[eF,hv.one]
 rw[aF,bK (n:=5) (x:=.agg [St u.g,St u.n,v,St [],N .i64 0]) (l:=[St [],St [],aB,St [],N .i64 0]) (RM.aR _) rfl rfl (hall [])]
 have k4:ae [] M3 ((M3.push (.row [St [],St [],aB,St [],N .i64 0] false TL 0)).put M3.next (.row (AV.agg [St u.g,St u.n,v,St [],N .i64 0]).cells false TL 0)):=((ae.refl _ _).push _).new _ (Nat.le_refl _)
 have h4:((M3.push (.row [St [],St [],aB,St [],N .i64 0] false TL 0)).put M3.next (.row (AV.agg [St u.g,St u.n,v,St [],N .i64 0]).cells false TL 0)).heap M3.next=some (.row [St u.g,St u.n,v,St [],N .i64 0] false TL 0):=ay _
 have n4:((M3.push (.row [St [],St [],aB,St [],N .i64 0] false TL 0)).put M3.next (.row (AV.agg [St u.g,St u.n,v,St [],N .i64 0]).cells false TL 0)).next=M3.next + 1:=rfl
 generalize (M3.push (.row [St [],St [],aB,St [],N .i64 0] false TL 0)).put M3.next (.row (AV.agg [St u.g,St u.n,v,St [],N .i64 0]).cells false TL 0)=M4 at *
 have h14:=k4.ax h13 (by omega) (by simp)
 have h24:=k4.ax h23 (by omega) (by simp)
 rw[aU,az h14 rfl,aU,bM (l':=[St u.g,St u.n,v,St p.2,N .i64 0]) h4 (by simp) rfl rfl rfl]
 have k5:ae [] M3 (M4.put M3.next (.row [St u.g,St u.n,v,St p.2,N .i64 0] false TL 0)):=k4.put _ (.inl (Nat.le_refl _))
 have h5:(M4.put M3.next (.row [St u.g,St u.n,v,St p.2,N .i64 0] false TL 0)).heap M3.next=some (.row [St u.g,St u.n,v,St p.2,N .i64 0] false TL 0):=ay _
 have n5:(M4.put M3.next (.row [St u.g,St u.n,v,St p.2,N .i64 0] false TL 0)).next=M4.next:=rfl
 generalize M4.put M3.next (.row [St u.g,St u.n,v,St p.2,N .i64 0] false TL 0)=M5 at *
 have h15:=k5.ax h13 (by omega) (by simp)
 have h25:=k5.ax h23 (by omega) (by simp)
 generalize hx:(if !raw && xE u.n then esc p.2 else p.2)=x at *
 refine bI (fun ys M'=>ae [] M3 M'∧M3.next<M'.next∧M'.heap M3.next=some (.row [St u.g,St u.n,v,St x,N .i64 0] false TL 0)) ?_ ?_
 rotate_left 1
 ·intro J hJ
  rw[bQ]
  refine uY (p:=xE u.n) (fun hc' kk hk=>?_) ?_
  ·rw[aU,az h5 rfl]; exact ht hk
  refine aZ (fun hb=>?_) (fun hb=>?_)
  ·rw[hb] at hx
   rw[if_pos rfl] at hx
   rw[aU,az h15 rfl]
   refine he (by omega) fun M6 k6=>?_
   have h6:=k6.ax h5 (by omega) (by simp)
   have n6:=k6.next
   rw[aU,bM (l':=[St u.g,St u.n,v,St x,N .i64 0]) h6 (by simp) rfl rfl (by rw[← hx]; rfl)]
   exact hJ _ _ ⟨(k5.trans k6).put _ (.inl (Nat.le_refl _)),by rw[jG]; omega,ay _⟩
  ·rw[hb] at hx
   rw[if_neg (by simp)] at hx
   rw[← hx] at hJ
   exact hJ _ _ ⟨k5,by omega,h5⟩
 rintro _ M6 ⟨k6,n6,h6⟩
 have h16:=k6.ax h13 (by omega) (by simp)
 have h26:=k6.ax h23 (by omega) (by simp)
 have k06:=k03.trans k6
 rw[aN (n:=5) h6 rfl]
 have hv6:=hv.keep k6 (by simp)
 have hrel:gW.rel M6 [St u.g,St u.n,v,St x,N .i64 0] ({ u with v:=x },0) (fun b=>M2.next≤b):=⟨v,rfl,hv6⟩
 have hla:=hsz.laid
 refine hf (k06.base.trans hM) hrel (hsz.mono (by omega)).lb (by omega) fun M7 k7=>?_
 have h17:=k7.ax h16 (by omega) (by simp)
 have h27:=k7.ax h26 (by omega) (by simp)
 have h67:=k7.ax h6 (by omega) (by simp)
 have n7:=k7.next
 generalize iV { u with v:=x } j=f at *
 obtain⟨f,fok⟩:=f
 dsimp only at hQ ⊢
 unfold lK
 rw[bG,bJ,aF,bK (n:=2) (x:=.agg [St f.1,St f.2]) (l:=[St [],St []]) (RM.aR _) rfl rfl rfl]
 have k8:ae [] M7 ((M7.push (.row [St [],St []] false TP 0)).put M7.next (.row (AV.agg [St f.1,St f.2]).cells false TP 0)):=((ae.refl _ _).push _).new _ (Nat.le_refl _)
 have h8:((M7.push (.row [St [],St []] false TP 0)).put M7.next (.row (AV.agg [St f.1,St f.2]).cells false TP 0)).heap M7.next=some (.row [St f.1,St f.2] false TP 0):=ay _
 have n8:((M7.push (.row [St [],St []] false TP 0)).put M7.next (.row (AV.agg [St f.1,St f.2]).cells false TP 0)).next=M7.next + 1:=rfl
 generalize (M7.push (.row [St [],St []] false TP 0)).put M7.next (.row (AV.agg [St f.1,St f.2]).cells false TP 0)=M8 at *
 have h18:=k8.ax h17 (by omega) (by simp)
 have h28:=k8.ax h27 (by omega) (by simp)
 have h68:=k8.ax h67 (by omega) (by simp)
 have k08:=(k06.trans k7).trans k8
 rw[aN (n:=5) h68 rfl]
 have fin:∀ r:Bool,r=(uok && fok && decide (f=p)) →
   ∀ {M9:RM},M9=M8.put M1.next (.row (AV.agg [St u.g,St u.n,v,St x,N .i64 0]).cells false TL 0)→aH M9 (.ptr M1.next 0) 5 fun res=>Q (.tup [res,N .i64 j,Bo r]) M9:=by
  intro r hr M9 e
  have k9:ae [M1.next] M8 M9:=by rw[e]; exact(ae.refl _ _).put _ (.inr (by simp))
  rw[aN (n:=5) (l:=[St u.g,St u.n,v,St x,N .i64 0]) (by rw[e]; exact ay _) rfl,hr]
  refine hQ _ _ (k08.eD k9 (fun c hc=>.inl (by simp at hc; omega))) ⟨v,rfl, ?_⟩
  refine((hv6.keep (k7.trans k8) (by simp)).keep k9 fun b hb h=>?_).mono fun b hb=>by omega
  simp at hb; omega
 have hst:∀ {K:RM→Prop},aA M8 (.ptr M1.next 0) (.agg [St u.g,St u.n,v,St x,N .i64 0]) 5 K=K (M8.put M1.next (.row (AV.agg [St u.g,St u.n,v,St x,N .i64 0]).cells false TL 0)):=fun {K} => bK (n:=5) (x:=.agg [St u.g,St u.n,v,St x,N .i64 0]) h28 rfl rfl (hall x)
 cases uok with
 | false =>
   simp only[nU,JE,iH]
   rw[hst]
   exact fin false rfl rfl
 | true =>
   simp only[lS,gD]
   cases fok with
   | false =>
     simp only[nU,JE,iH]
     rw[hst]
     exact fin false rfl rfl
   | true =>
     simp only[lS,Pz,gD]
     rw[aN (n:=2) h8 rfl,aN (n:=2) h18 rfl,qJ (r:=decide (f=p)) rfl rfl (Fa f p),hst]
     have h9a:(M8.put M1.next (.row (AV.agg [St u.g,St u.n,v,St x,N .i64 0]).cells false TL 0)).heap M7.next=some (.row [St f.1,St f.2] false TP 0):=dh h8 (by omega)
     have h9b:(M8.put M1.next (.row (AV.agg [St u.g,St u.n,v,St x,N .i64 0]).cells false TL 0)).heap M.next=some (.row [St p.1,St p.2] false TP 0):=dh h18 (by omega)
     rw[aN (n:=2) h9a rfl]
     refine⟨rfl, ?_⟩
     rw[aN (n:=2) h9b rfl]
     refine⟨rfl, ?_⟩
     refine fin _ ?_ rfl
     cases decide (f=p) <;> rfl
def oV:Enc Fd where
 size:=2
 cells p:=[St p.1,St p.2]
 len _:=rfl
 one _:=rfl
theorem Co {M:RM} {v:AV} {xs:List Fd} (h:Sl oV M v xs) {i:Nat} (hi:i<xs.length) {K:AV→Prop} : (bf v (N .i64 (i:Int)) 2 fun p=>aH M p 2 K)=K (lK xs[i]):=by
 obtain⟨b,o,hb,_,hidx,hld⟩:=Sl.elem h hi
 rw[show(2:Nat)=oV.size from rfl,hidx,qz,hld]
 simp[oV,lK]
theorem zv {M:RM} {b T:Nat} {x:AV} {cs:List AV} (n:Nat) (h:x=.agg cs) (hl:cs.length=n) (zs:List AV) (hz:zs.length=n) (h1:cs.all oneCell=true) {K:RM→Prop} (hc:x.cells.length=n)
  (hK:∀ M',ae [] M M'→M'.next=M.next + 1→M'.heap M.next=some (.row cs false T 0)→K M') : aA (M.push (.row zs false T 0)) (.ptr M.next 0) x n K:=by
 subst h
 rw[bK (n:=n) (x:=.agg cs) (l:=zs) (RM.aR _) hc hz h1]
 exact hK _ (((ae.refl _ _).push _).new _ (Nat.le_refl _)) rfl (ay _)
def Er (B:Base) (c:aj) : Prop:=∀ {M:RM} {p:Fd} {Q:ai},M.base=B→p.1.length≤10000000→p.2.length≤10000000 →
 (∀ M' cs,ae [] M M'→gW.rel M' cs (if (dN p).2.2 then(dN p).1 else MN,0) (fun b=>M.next≤b)→Q (.tup [.agg cs,N .i64 (if (dN p).2.2 then 0 else 1)]) M')→c [lK p] M Q
theorem OD {B:Base} {TP TL:Nat} {cl:aj} (hl:IU B cl) : Er B fun args M Q=>∃ a0,args=[a0]∧uI TP TL cl a0 M Q:=by
 intro M p Q hM hp1 hp2 hQ
 refine⟨_,rfl, ?_⟩
 unfold uI lK
 rw[iC (cs:=[St p.1,St p.2]) rfl (by simp),aF]
 have k1:ae [] M (M.push (.row [St p.1,St p.2] false TP 0)):=(ae.refl _ _).push _
 have h1:(M.push (.row [St p.1,St p.2] false TP 0)).heap M.next=some (.row [St p.1,St p.2] false TP 0):=RM.aR _
 have n1:(M.push (.row [St p.1,St p.2] false TP 0)).next=M.next + 1:=bH _
 generalize M.push (.row [St p.1,St p.2] false TP 0)=M1 at *
 rw[aF]
 have k2:ae [] M1 (M1.push (.row [St [],St [],aB,St [],N .i64 0] false TL 0)):=(ae.refl _ _).push _
 have h2:(M1.push (.row [St [],St [],aB,St [],N .i64 0] false TL 0)).heap M1.next=some (.row [St [],St [],aB,St [],N .i64 0] false TL 0):=RM.aR _
 have n2:(M1.push (.row [St [],St [],aB,St [],N .i64 0] false TL 0)).next=M1.next + 1:=bH _
 generalize M1.push (.row [St [],St [],aB,St [],N .i64 0] false TL 0)=M2 at *
 have k02:=k1.trans k2
 rw[aN (n:=2) (k2.ax h1 (by omega) (by simp)) rfl]
 refine hl (p:=p) (k02.base.trans hM) hp1 hp2 fun M3 cs k3 hrel=>?_
 have h23:=k3.ax h2 (by omega) (by simp)
 have n3:=k3.next
 rw[bG,bJ,gF,aF]
 obtain⟨v,rfl,hv,hall,_⟩:=xV hrel
 refine zv (b:=0) 5 rfl rfl _ rfl hall rfl fun M4 k4 n4 h4=>?_
 have h24:=k4.ax h23 (by omega) (by simp)
 have k04:=(k02.trans k3).trans k4
 rw[bQ]
 cases hok:(dN p).2.2 with
 | false =>
   rw[hok] at hQ
   rw[Bool.not_false,eZ,iJ]
   refine⟨_,rfl, ?_⟩
   rw[bK (n:=5) (x:=.agg [St [],St [],aB,St [],N .i64 0]) h24 rfl rfl rfl,aN (n:=5) (ay _) rfl]
   exact hQ _ _ (k04.put _ (.inl (by omega))) ⟨aB,rfl,bB.nil⟩
 | true =>
   rw[hok] at hQ
   rw[Bool.not_true,dx,aN (n:=5) h4 rfl,bK (n:=5) (x:=.agg [St (dN p).1.g,St (dN p).1.n,v,St (dN p).1.v,N .i64 0]) h24 rfl rfl hall,aN (n:=5) (ay _) rfl]
   refine hQ _ _ (k04.put _ (.inl (by omega))) ⟨v,rfl, ?_⟩
   refine((hv.keep k4 (by simp)).keep (bs:=[M1.next]) ((ae.refl _ _).put _ (.inr (by simp))) fun b hb h=>?_).mono fun b hb=>by omega
   simp at hb; omega
def IK (B:Base) (c:aj) : Prop:=∀ {M:RM} {p:Fd} {Q:ai},M.base=B→p.1.length≤10000000→p.2.length≤10000000→(∀ M',ae [] M M'→Q (Bo (Cz p)) M')→c [lK p] M Q
theorem O8 {i j:Nat} {K:AV→Prop} : af .leq (N .i64 (i:Int)) (N .i64 (j:Int)) K=K (Bo (decide (i≤j))):=by rw[nL,show decide ((i:Int)≤(j:Int))=decide (i≤j) by simp]
theorem AB {B:Base} {TP TL:Nat} {cl:aj} (hl:Er B cl) : IK B fun args M Q=>∃ a0,args=[a0]∧uA TP cl TL a0 M Q:=by
 intro M p Q hM hp1 hp2 hQ
 refine⟨_,rfl, ?_⟩
 unfold uA lK
 simp only[dJ]
 rw[iC (cs:=[St p.1,St p.2]) rfl (by simp),aF]
 have k1:ae [] M (M.push (.row [St p.1,St p.2] false TP 0)):=(ae.refl _ _).push _
 have h1:(M.push (.row [St p.1,St p.2] false TP 0)).heap M.next=some (.row [St p.1,St p.2] false TP 0):=RM.aR _
 have n1:(M.push (.row [St p.1,St p.2] false TP 0)).next=M.next + 1:=bH _
 generalize M.push (.row [St p.1,St p.2] false TP 0)=M1 at *
 rw[aN (n:=2) h1 rfl]
 refine hl (p:=p) (k1.base.trans hM) hp1 hp2 fun M3 cs k3 hrel=>?_
 rw[bG,bJ,aF]
 obtain⟨v,rfl,hv,hall,_⟩:=xV hrel
 refine zv (b:=0) 5 rfl rfl _ rfl hall rfl fun M4 k4 n4 h4=>?_
 have h14:=(k3.trans k4).ax h1 (by omega) (by simp)
 have k04:=(k1.trans k3).trans k4
 rw[dR]
 have e:(((if (dN p).2.2=true then(0:Int) else 1)) == 0)=(dN p).2.2:=by cases(dN p).2.2 <;> rfl
 rw[e]
 refine uY (p:=decide (p.1.length≤64)) (fun hc kk hk=>?_) ?_
 ·rw[aU,az h14 rfl,bu,show(N .i64 (64:Int))=N .i64 ((64:Nat) : Int) from rfl,O8]; exact hk
 refine uY (p:=decide (p.2.length≤512)) (fun hc kk hk=>?_) ?_
 ·rw[aU,az h14 rfl,bu,show(N .i64 (512:Int))=N .i64 ((512:Nat) : Int) from rfl,O8]; exact hk
 exact hQ _ k04
theorem GU (ns:List Str) (n x:Str) : eQ (ns++[n]) x=if x=n then eQ ns n + 1 else eQ ns x:=by
 unfold eQ
 rw[List.countP_append,List.countP_singleton]
 by_cases h:x=n
 ·subst h; simp
 ·have h' : ¬ n=x:=fun e=>h e.symm
  rw[if_neg h,if_neg (by simpa using h')]; rfl
theorem MQ (ns:List Str) (n:Str) : eQ ns n≤ns.length:=List.countP_le_length
def Sw (B:Base) (c:aj) : Prop:=∀ {M:RM} {v:AV} {xs:List Fd} {ct:Str} {k:Int} {Q:ai},M.base=B→Sl oV M v xs→xs.length≤1000000→(∀ p∈xs,p.1.length≤10000000∧p.2.length≤10000000) →
 (∀ M',ae [] M M'→Q (match Pb xs with | some s=>.tup [St s,N .i64 0] | none=>.tup [St [],N .i64 1]) M')→c [.agg [St ct,v,N .i64 k]] M Q
theorem UW {p:Fd} (h:(dN p).2.2=true) : iV (dN p).1 (dN p).2.1=(p,true):=by
 have e:(dN p).2.2=((CZ (if decide (p.1.take 4=gm) then p.1.drop 4 else p.1)).2.2 && (iV (dN p).1 (dN p).2.1).2 && decide ((iV (dN p).1 (dN p).2.1).1=p)):=rfl
 rw[e] at h
 obtain⟨h1,h2⟩:=(Bool.and_eq_true ..).mp h
 obtain⟨_,h3⟩:=(Bool.and_eq_true ..).mp h1
 exact Prod.ext (of_decide_eq_true h2) h3
theorem Te {L:Ln} {k:Int} {p:Fd} (h:iV L k=(p,true)) : (jw gP L).2=0∧L.g≠lQ∧Gr L.n=false∧0≤k∧p=(kJ (bC L).1 k,(bC L).2):=by
 unfold iV at h
 split at h
 ·rename_i hc
  injection h with h1 h2
  exact⟨hc.1,hc.2.1,hc.2.2.1,hc.2.2.2,h1.symm⟩
 ·injection h with h1 h2
  cases h2
theorem Rc {B:Base} {TC TP TL:Nat} {cl cg cp cr:aj} (hl:IU B cl) (hg:IK B cg) (hp:EC B cp) (hr:ED B (jw gP) cr) : Sw B fun args M Q=>∃ a0,args=[a0]∧pK TC TP cl TL cg cp cr a0 M Q:=by
 intro M v xs ct k Q hM hv hlen hps hQ
 refine⟨_,rfl, ?_⟩
 unfold pK
 simp only[dJ]
 have hall:([St ct,v,N .i64 k] : List AV).all oneCell=true:=by simp[eF,dK.one hv]
 rw[iC hall (by simp),aF]
 have k1:ae [] M (M.push (.row [St ct,v,N .i64 k] false TC 0)):=(ae.refl _ _).push _
 have h1:(M.push (.row [St ct,v,N .i64 k] false TC 0)).heap M.next=some (.row [St ct,v,N .i64 k] false TC 0):=RM.aR _
 have n1:(M.push (.row [St ct,v,N .i64 k] false TC 0)).next=M.next + 1:=bH _
 generalize M.push (.row [St ct,v,N .i64 k] false TC 0)=M1 at *
 rw[aF]
 have k2:ae [] M1 (M1.push (.map [] 0)):=(ae.refl _ _).push _
 have c2:=jT.new M1
 have n2:(M1.push (.map [] 0)).next=M1.next + 1:=bH _
 generalize M1.push (.map [] 0)=M2 at *
 have k02:=k1.trans k2
 have hv2:=dK.keep hv k02 (by simp)
 rw[aU,az (k2.ax h1 (by omega) (by simp)) rfl,dK.len hv2]
 refine aP (fun m ys M3=>∃ (i:Nat) (acc:Str) (ns:List Str),m=xs.length - i∧ys=[St acc,N .i64 (i:Int)]∧i≤xs.length∧ae [] M M3∧M1.next<M3.next∧jT M3 M1.next (eQ ns)∧ns.length=i∧acc.length≤26 + 4000 * i∧EA (xs.drop i) ns acc=Pb xs) _
  ⟨0,TE,[],rfl,rfl,Nat.zero_le _,k02,by omega,c2,rfl,by simp,rfl⟩ ?_
 rintro next m ys M3 hnext ⟨i,acc,ns,rfl,rfl,hi,k3,n3,c3,hns,hacc,he⟩
 dsimp only[ag]
 have hv3:=dK.keep hv k3 (by simp)
 have hM3:M3.base=B:=k3.base.trans hM
 rw[jC]
 refine aZ (fun h=>?_) (fun h=>?_)
 ·have h:i<xs.length:=of_decide_eq_true h
  have hm:=hps _ (List.getElem_mem h)
  rw[Co hv3 h,aF]
  rw[List.drop_eq_getElem_cons h,EA] at he
  generalize xs[i]=p at *
  refine zv (b:=0) 2 rfl rfl _ rfl rfl rfl fun M4 k4 n4 h4=>?_
  rw[aN (n:=2) h4 rfl]
  refine hl (p:=p) (k4.base.trans hM3) hm.1 hm.2 fun M5 cs k5 hrel=>?_
  rw[bG,bJ,gF,aF]
  obtain⟨w,rfl,hw,WA,_⟩:=xV hrel
  refine zv (b:=0) 5 rfl rfl _ rfl WA rfl fun M6 k6 n6 h6=>?_
  have n5:=k5.next
  have k46:=k5.trans k6
  have h46:=k46.ax h4 (by omega) (by simp)
  have k36:ae [] M3 M6:=k4.trans k46
  have c6:jT M6 M1.next (eQ ns):=c3.keep k36 (by simp)
  have hw6:=hw.keep k6 (by simp)
  rw[bQ]
  refine Oz (P:=fun M'=>ae [] M6 M') (p:=!Cz p) (ae.refl _ _) (fun hc kk hk=>?_) fun M7 k7=>?_
  ·rw[aN (n:=2) h46 rfl]
   refine hg (p:=p) (k36.base.trans hM3) hm.1 hm.2 fun M7 k7=>?_
   rw[bQ]
   exact hk _ k7
  refine aZ (fun hb=>?_) (fun hb=>?_)
  ·have hb:Cz p=false:=by
    simp only[Bool.or_eq_true,Bool.not_eq_true'] at hb
    rcases hb with hb | hb
    ·unfold Cz; rw[hb]; rfl
    ·exact hb
   rw[if_pos hb] at he
   rw[← he] at hQ
   exact hQ _ ((k3.trans k36).trans k7)
  ·simp only[Bool.or_eq_false_iff,Bool.not_eq_false'] at hb
   have hgd:=hb.2
   rw[if_neg (by rw[hgd]; simp)] at he
   have hfo:=Te (UW hb.1)
   have hpr:=CP hfo.1
   have hsz:=MZ hpr.2.1
   have hLB:LB 1000000 (dN p).1:=(hsz.mono (by omega)).lb
   have XY:=hsz.VH
   generalize dN p=lf at *
   obtain⟨L,j,ok⟩:=lf
   dsimp only at *
   have h67:=k7.ax h6 (by omega) (by simp)
   have k37:=k36.trans k7
   have n7:=k7.next
   rw[aN (n:=5) h67 rfl]
   refine hp (k37.base.trans hM3) (jN (hw6.keep k7 (by simp))) hLB (by omega) fun M8 k8=>?_
   have c8:=(c6.keep k7 (by simp)).keep k8 (by simp)
   have n8:=k8.next
   rw[lK,PP]
   refine⟨St (bC L).1,rfl, ?_⟩
   refine c8.look ?_
   rw[dm]
   refine aZ (fun hb=>?_) (fun hb=>?_)
   ·have hb:(eQ ns (bC L).1:Int)≠j:=by simpa using hb
    rw[if_pos hb] at he
    rw[← he] at hQ
    exact hQ _ ((k3.trans k37).trans k8)
   ·have hb:(eQ ns (bC L).1:Int)=j:=by simpa using hb
    rw[if_neg (fun h=>h hb)] at he
    refine c8.look ?_
    have hcl:=MQ ns (bC L).1
    rw[add1 (by omega)]
    refine c8.upd fun M9 c9 k9 n9=>?_
    have k09:ae [] M M9:=((k3.trans k37).trans k8).eD k9 fun c hc=>.inl (by simp at hc; have:=k1.next; omega)
    have c9' : jT M9 M1.next (eQ (ns++[(bC L).1])):=by
     have:eQ (ns++[(bC L).1])=fun x=>if x=(bC L).1 then eQ ns (bC L).1 + 1 else eQ ns x:=funext fun x=>GU ns _ x
     rw[this]; exact c9
    have h69:=k9.ax (k8.ax h67 (by omega) (by simp)) (by omega) (by simp; omega)
    rw[aN (n:=5) h69 rfl]
    have hw9:bB iI M9 w L.ps (fun b=>M4.next≤b):=((hw6.keep k7 (by simp)).keep k8 (by simp)).keep k9 fun b hb h=>by simp at hb; omega
    refine hr (k09.base.trans hM) (jN hw9) (J5 hLB) (by omega) fun Ma ka=>?_
    have na:=ka.next
    rw[bG,bJ,hfo.1,Y6,dx,bL]
    have hfl:=Ua (jv L)
    have hpl:(jw gP L).1.length≤4000:=by rw[hpr.2.2]; simp; omega
    refine⟨by omega, ?_⟩
    rw[add1 (by omega)]
    exact hnext _ _ _ (by omega) ⟨i + 1,_,ns++[(bC L).1],rfl,rfl,by omega,k09.trans ka,by omega,c9'.keep ka (by simp),by simp[hns],by simp; omega,he⟩
 ·have h:¬ i<xs.length:=of_decide_eq_false h
  rw[List.drop_eq_nil_of_le (by omega),EA] at he
  rw[← he] at hQ
  rw[bL]
  refine⟨by simp; omega, ?_⟩
  exact hQ _ k3
end Go.Ab.Vc
