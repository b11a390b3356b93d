/- Part 4 of the ground of the proofs of this seat (texts VlG3 to N5). By an AI agent. -/
import Derived.Test.YtoikjkmmdpdkbaaGreatDoorVca3
import Derived.Lib.ValidLaws
import Derived.Lib.IndexAny
import Derived.Lib.SlTrimSet
import Derived.Lib.ItoaLen
import Derived.Lib.AtoiAll
import Derived.RangeFuncRecord
import Derived.RangeFuncSeq
import Derived.OrdersIn
import Derived.LoopNIn
set_option maxRecDepth 10000
set_option linter.unusedVariables false
set_option linter.unusedSimpArgs false
namespace Go.Ab.Vl
open Go Go.Ab
def bV (c:UInt8) : UInt8:=if 65≤c.toNat∧c.toNat≤90 then UInt8.ofNat (c.toNat + 32) else c
def La (c:aj) : Prop:=∀ {M:RM} {s:List UInt8} {Q:ai},s.length≤1000000000→(∀ M',ae [] M M'→Q (St (s.map bV)) M')→c [St s] M Q
theorem PE {s:List UInt8} {i:Nat} (hi:i<s.length) : ((s.take i).map bV).length=i:=by simp; omega
theorem Vt {s:List UInt8} {i:Nat} (hi:i<s.length) (x:UInt8) : ((s.take i).map bV++s.drop i).set i x=(s.take i).map bV++x :: s.drop (i + 1):=by
 have hl:=PE hi
 rw[List.drop_eq_getElem_cons hi,List.set_append_right _ _ (by omega),hl,Nat.sub_self,List.set_cons_zero]
theorem Mv {s:List UInt8} {i:Nat} (hi:i<s.length) : (s.take (i + 1)).map bV++s.drop (i + 1)=(s.take i).map bV++bV s[i] :: s.drop (i + 1):=by
 rw[List.take_succ_eq_append_getElem hi,List.map_append,List.append_assoc]
 rfl
theorem XQ {s:List UInt8} {i:Nat} (hi:i<s.length) (h:i<((s.take i).map bV++s.drop i).length) : ((s.take i).map bV++s.drop i)[i]=s[i]:=by
 have hl:=PE hi
 rw[List.getElem_append_right (by omega)]
 simp only[hl,Nat.sub_self,List.getElem_drop,Nat.add_zero]
theorem PX {T8:Nat} : La fun args M Q=>∃ a0,args=[a0]∧sZ T8 a0 M Q:=by
 intro M s Q hl hQ
 refine⟨_,rfl, ?_⟩
 unfold sZ
 simp only[dS,aG,sw,vU]
 have hk1:ae [] M (M.push (.row (BY.row s) true T8 0)):=(ae.refl _ _).push _
 have hr1:Rw BY (M.push (.row (BY.row s) true T8 0)) M.next true T8 s:=Rw.new M s
 generalize M.push (.row (BY.row s) true T8 0)=M1 at *
 refine aP (fun m ys M3=>∃ i:Nat,m=s.length - i∧ys=[N .i64 i]∧i≤s.length∧Rw BY M3 M.next true T8 ((s.take i).map bV++s.drop i)∧ae [] M M3) _
  ⟨0,rfl,rfl,Nat.zero_le _,by simpa using hr1,hk1⟩ ?_
 rintro next m ys M3 hnext ⟨i,rfl,rfl,hi,hR,hK⟩
 simp only[go_sem]
 refine⟨fun hlt=>?_,fun hge=>?_⟩
 ·have hlt:i<s.length:=by simpa using hlt
  have hlen:i<((s.take i).map bV++s.drop i).length:=by simp; omega
  have hc:=hR.ak hlen
  have w1:=nz (show i<9223372036854775807 by omega)
  rw[XQ hlt hlen] at hc
  refine⟨by omega,_,hc, ?_⟩
  have same:bV s[i]=s[i]→next [N .i64 ((i + 1:Nat) : Int)] M3:=fun h=>by
   refine hnext _ _ _ (by omega) ⟨i + 1,rfl,rfl,by omega, ?_,hK⟩
   rw[Mv hlt,h,← List.drop_eq_getElem_cons hlt]
   exact hR
  have cb:=Kz s[i]
  simp only[w1]
  by_cases h1:65≤s[i].toNat
  ·have e1:((s[i].toNat:Int) ≥ 65):=by omega
   by_cases h2:s[i].toNat≤90
   ·have e2:((s[i].toNat:Int)≤90):=by omega
    have hlow:bV s[i]=UInt8.ofNat (s[i].toNat + 32):=by rw[bV,if_pos ⟨h1,h2⟩]
    have wv:N IntKind.u8 (IntKind.u8.wrap (IntKind.u8.wrap ((s[i].toNat:Int) + 97) - 65))=By (bV s[i]):=by
     rw[hlow,By,Uk,Nat.mod_eq_of_lt (by omega)]
     congr 1
     rw[show IntKind.u8.wrap ((s[i].toNat:Int) + 97)=(s[i].toNat:Int) + 97 from tJ (by omega) (by omega)]
     rw[tJ (by omega) (by omega)]; omega
    obtain⟨hs,hR'⟩:=hR.Uy hlen (bV s[i])
    simp only[e1,e2,decide_true,go_sem]
    rw[Vt hlt] at hs hR'
    refine⟨by omega,_,(congrArg (fun x=>M3.stores M.next i [x]) wv).trans hs, ?_⟩
    refine hnext _ _ _ (by omega) ⟨i + 1,rfl,rfl,by omega, ?_,hK.put _ (.inl (Nat.le_refl _))⟩
    rw[Mv hlt]
    exact hR'
   ·have e2:¬ ((s[i].toNat:Int)≤90):=by omega
    simp only[e1,e2,decide_true,decide_false,go_sem]
    exact same (by rw[bV,if_neg (by omega)])
  ·have e1:¬ ((s[i].toNat:Int) ≥ 65):=by omega
   simp only[e1,decide_false,go_sem]
   exact same (by rw[bV,if_neg (by omega)])
 ·have:i=s.length:=by simp at hge; omega
  subst this
  rw[List.take_length,List.drop_length,List.append_nil] at hR
  have:=hR.sl (cap:=.op 1)
  rw[List.length_map] at this
  rw[Sl.str this]
  exact hQ M3 hK
theorem Og (s:List UInt8) (h:s≠[]) : Lib.decodeL s=dec s:=by
 have hp:=List.length_pos_iff.2 h
 have g:∀ i,((⟨⟨s⟩⟩ : ByteArray).get! i).toNat=bt s i:=fun i=>by
  simp only[ByteArray.get!,bt,List.getD_eq_getElem?_getD]
  simp[getElem!_def]
  cases s[i]? <;> rfl
 first
  | (rw[Lib.decodeL]; rw[Lib.decode_at,g,g,g,g]; rfl)
  | (simp only[Lib.decodeL,dec,bt])
theorem FD:∀ (n:Nat) (s:List UInt8),s.length≤n→Lib.validD s=dX s
 | n,s,hn=>by
   by_cases hne:s=[]
   ·subst hne; rw[Lib.validD_nil,qD]
   have hrk:rk s=if dec s=(65533,1) then 0 else(dec s).2:=by rw[rk,if_neg hne]; rfl
   rw[Lib.validD_step s hne,Og s hne]
   have h1:=uI s
   by_cases hb:(dec s).1=65533∧(dec s).2=1
   ·rw[if_pos hb,Pt hne (by rw[hrk,if_pos (Prod.ext hb.1 hb.2)])]
   ·rw[if_neg hb]
    have h0:rk s=(dec s).2:=by
     rw[hrk,if_neg]
     intro e; rw[e] at hb; exact hb ⟨rfl,rfl⟩
    rw[qU (by omega),h0]
    cases n with
    | zero=>exact absurd (List.eq_nil_of_length_eq_zero (by omega)) hne
    | succ n =>
      refine FD n _ ?_
      have:=zB hne h1
      omega
def NT (B:Base) (c:aj) : Prop:=∀ {M:RM} {s:List UInt8} {Q:ai},M.base=B→s.length≤1000000000→Q (Bo (dX s)) M→c [St s] M Q
def okB (x:List UInt8) (c:UInt8) : Bool:=dz c && !(decide (c∈x))
def gm (x s:List UInt8) : Bool:=s.all (okB x) && dX s
def nI (B:Base) (c:aj) : Prop:=∀ {M:RM} {s x:List UInt8} {Q:ai},M.base=B→s.length≤1000000000→(∀ M',ae [] M M'→Q (Bo (gm x s)) M')→c [St s,St x] M Q
theorem Iu {B:Base} {T8:Nat} {cp ci cv:aj} (hp:Nw cp) (hi:qy ci) (hv:NT B cv) : nI B fun args M Q=>∃ a0 a1,args=[a0,a1]∧nS T8 cp ci cv a0 a1 M Q:=by
 intro M s x Q hM hl hQ
 refine⟨_,_,rfl, ?_⟩
 unfold nS
 simp only[dS,aG,sw,vU]
 have hk1:ae [] M (M.push (.row (BY.row s) true T8 0)):=(ae.refl _ _).push _
 have hr1:Rw BY (M.push (.row (BY.row s) true T8 0)) M.next true T8 s:=Rw.new M s
 generalize M.push (.row (BY.row s) true T8 0)=M1 at *
 refine aP (fun m ys M3=>M3=M1∧∃ i:Nat,m=s.length - i∧ys=[N .i64 i]∧i≤s.length∧(s.take i).all (okB x)=true) _
  ⟨rfl,0,rfl,rfl,Nat.zero_le _,by simp⟩ ?_
 rintro next m ys M3 hnext ⟨hM3,i,rfl,rfl,hile,hall⟩
 subst hM3
 simp only[go_sem]
 refine⟨fun hlt=>?_,fun hge=>?_⟩
 ·have hlt:i<s.length:=by simpa using hlt
  have hc:=hr1.ak hlt
  have htk:=List.take_succ_eq_append_getElem hlt
  have hmem:=List.getElem_mem hlt
  generalize s[i]=c at *
  have w1:=nz (show i<9223372036854775807 by omega)
  have bad:okB x c=false→Q (Bo false) M3:=fun h=>by
   have:gm x s=false:=by
    have h2:s.all (okB x)=false:=by
     rw[List.all_eq_false]
     exact⟨c,hmem,by rw[h]; simp⟩
    rw[gm,h2]; rfl
   rw[← this]; exact hQ M3 hk1
  have good:okB x c=true→next [N .i64 ((i + 1:Nat) : Int)] M3:=fun h=>by
   refine hnext _ _ _ (by omega) ⟨rfl,i + 1,rfl,rfl,by omega, ?_⟩
   rw[htk,List.all_append,hall]
   simp[h]
  refine⟨by omega,By c,hc,hp ?_⟩
  cases hpl:dz c with
  | false =>
    simp only[go_sem]
    exact bad (by simp[okB,hpl])
  | true =>
    simp only[go_sem]
    refine hi ?_
    have hge:=qO x c
    by_cases hcx:c∈x
    ·have e1:decide (Lib.indexByte x c ≥ 0)=true:=decide_eq_true (hge.2 hcx)
     simp only[go_sem,e1]
     exact bad (by simp[okB,hcx])
    ·have e1:decide (Lib.indexByte x c ≥ 0)=false:=decide_eq_false fun h=>hcx (hge.1 h)
     simp only[go_sem,e1,w1]
     exact good (by simp[okB,hcx,hpl])
 ·have:i=s.length:=by simp at hge; omega
  subst this
  rw[List.take_length] at hall
  refine hv (by rw[hk1.base,hM]) hl ?_
  have:=hQ M3 hk1
  rw[gm,hall,Bool.true_and] at this
  exact this
def CG (x:UInt8) (s:List UInt8) : AV:=if aN x s then .tup [St (s.drop 1),Bo true] else .tup [St s,Bo false]
def ku (c:aj) : Prop:=∀ {M:RM} {s:List UInt8} {x:UInt8} {Q:ai},s.length≤1000000000→Q (CG x s) M→c [St s,St [x]] M Q
theorem BF {ch:aj} (hh:nG ch) : ku fun args M Q=>∃ a0 a1,args=[a0,a1]∧dw ch a0 a1 M Q:=by
 intro M s x Q hl hQ
 refine⟨_,_,rfl, ?_⟩
 unfold dw
 refine hh hl ?_
 unfold CG at hQ
 cases h:aN x s with
 | false =>
   simp only[h,Bool.false_eq_true,if_false] at hQ
   simp only[go_sem]
   exact hQ
 | true =>
   simp only[h,if_true] at hQ
   have hne:s≠[]:=by intro e; subst e; cases h
   have hp:=List.length_pos_iff.2 hne
   simp only[go_sem]
   rw[show aU (St s) (some (N .i64 ((1:Nat) : Int))) none=some (St (s.drop 1)) from bD (by omega) .i64]
   simp only[go_sem]
   exact hQ
theorem IZ {ch:aj} (hh:ku ch) : ku fun args M Q=>∃ a0 a1,args=[a0,a1]∧iw ch a0 a1 M Q:=by
 intro M s x Q hl hQ
 refine⟨_,_,rfl, ?_⟩
 unfold iw
 refine hh hl ?_
 unfold CG at hQ ⊢
 cases h:aN x s with
 | false=>rw[h] at hQ; simpa only[go_sem,Bool.false_eq_true,if_false] using hQ
 | true=>rw[h] at hQ; simpa only[go_sem,if_true] using hQ
def cO:List UInt8:=[97,98,99,100,101,102,103,104,105,106,107,108,109,110,111,112,113,114,115,116,117,118,119,120,121,122,48,49,50,51,52,53,54,55,56,57,45]
def Ld (B:Base) (c:aj) : Prop:=∀ {M:RM} {s:List UInt8} {Q:ai},M.base=B→s.length≤1000000000→(∀ M',ae [] M M'→Q (St (s.dropWhile (cO.contains ·))) M')→c [St s,St cO] M Q
theorem sJ {α:Type} (p:α→Bool) : ∀ l:List α,(l.dropWhile p).length≤l.length
 | []=>by simp
 | x :: l=>by
   rw[List.dropWhile_cons]
   have:=sJ p l
   split
   ·simp; omega
   ·exact Nat.le_refl _
def wk (s:List UInt8) : Nat:=s.length - ((s.map bV).dropWhile (cO.contains ·)).length
theorem wM (s:List UInt8) : wk s≤s.length:=Nat.sub_le _ _
def Qk (s:List UInt8) : AV:=.tup [St ((s.take (wk s)).map bV),St (s.drop (wk s))]
def KM (B:Base) (c:aj) : Prop:=∀ {M:RM} {s:List UInt8} {Q:ai},M.base=B→s.length≤1000000000→(∀ M',ae [] M M'→Q (Qk s) M')→c [St s] M Q
theorem Sn {B:Base} {cs ct:aj} (hs:La cs) (ht:Ld B ct) : KM B fun args M Q=>∃ a0,args=[a0]∧vE cs ct a0 M Q:=by
 intro M s Q hM hl hQ
 refine⟨_,rfl, ?_⟩
 unfold vE
 rw[bC]
 refine hs hl fun M1 k1=>?_
 refine ht (by rw[k1.base,hM]) (by simpa using hl) fun M2 k2=>?_
 have hd:=sJ (cO.contains ·) (s.map bV)
 rw[List.length_map] at hd
 rw[bC,mM]
 rw[show IntKind.wrap .i64 ((s.length:Int) - (((s.map bV).dropWhile (cO.contains ·)).length:Int))=((wk s:Nat) : Int) by rw[zL (by omega) (by omega)]; unfold wk; omega]
 rw[gZ (wM s),bD (wM s)]
 simp only[go_sem]
 have:=wM s
 refine hs (by simp; omega) fun M3 k3=>?_
 exact hQ M3 ((k1.trans k2).trans k3)
def LG (B:Base) (f:List UInt8→List UInt8) (c:aj) : Prop:=∀ {M:RM} {s:List UInt8} {Q:ai},M.base=B→s.length≤1000000000→(∀ M',ae [] M M'→Q (St (f s)) M')→c [St s,St cO] M Q
def fB (f:List UInt8→List UInt8) (s:List UInt8) : Bool:=decide (1≤s.length) && decide (s.length≤20) && (f s == [])
def rV (B:Base) (f:List UInt8→List UInt8) (c:aj) : Prop:=∀ {M:RM} {s:List UInt8} {Q:ai},M.base=B→s.length≤1000000000→(∀ M',ae [] M M'→Q (Bo (fB f s)) M')→c [St s] M Q
theorem Kv {B:Base} {f:List UInt8→List UInt8} {ct:aj} (ht:LG B f ct) : rV B f fun args M Q=>∃ a0,args=[a0]∧ow ct a0 M Q:=by
 intro M s Q hM hl hQ
 refine⟨_,rfl, ?_⟩
 unfold ow
 simp only[dS]
 rw[bC,fK]
 unfold fB at hQ
 by_cases h1:1≤s.length
 ·have e1:decide ((s.length:Int) ≥ 1)=true:=by simp; omega
  rw[e1]
  by_cases h2:s.length≤20
  ·have e2:decide ((s.length:Int)≤20)=true:=by simp; omega
   simp only[go_sem,e2]
   refine ht hM hl fun M1 k1=>?_
   simp only[go_sem]
   have:=hQ M1 k1
   simpa [h1,h2] using this
  ·have e2:decide ((s.length:Int)≤20)=false:=by simp; omega
   simp only[go_sem,e2]
   simpa [h1,h2] using hQ M (ae.refl _ _)
 ·have e1:decide ((s.length:Int) ≥ 1)=false:=by simp; omega
  rw[e1]
  simp only[go_sem]
  simpa [h1] using hQ M (ae.refl _ _)
def brk (x:UInt8) : List UInt8→Option (List UInt8 × List UInt8)
 | []=>none
 | c :: t=>if c=x then some ([],t) else(brk x t).map fun p=>(c :: p.1,p.2)
theorem qp (x:UInt8) : ∀ s:List UInt8,(brk x s=none∧Lib.indexByte s x=-1∧x ∉ s)∨∃ a b,brk x s=some (a,b)∧Lib.indexByte s x=(a.length:Int)∧s=a++x :: b∧x ∉ a
 | []=>.inl ⟨rfl,rfl,by simp⟩
 | c :: t=>by
   by_cases h:c=x
   ·subst h
    exact .inr ⟨[],t,by simp[brk],by simp[Lib.indexByte],rfl,by simp⟩
   ·have hc:(c == x)=false:=by simpa using h
    rcases qp x t with⟨h1,h2,h4⟩ | ⟨a,b,h1,h2,h3,h4⟩
    ·exact .inl ⟨by simp[brk,h,h1],by simp[Lib.indexByte,hc,h2],by simp[h4,Ne.symm h]⟩
    ·refine .inr ⟨c :: a,b,by simp[brk,h,h1], ?_,by rw[h3]; rfl,by simp[h4,Ne.symm h]⟩
     have:((a.length:Int) == -1)=false:=by simp
     simp[Lib.indexByte,hc,h2,this]
def Ib (x:UInt8) (c:aj) : Prop:=∀ {M:RM} {s:List UInt8} {Q:ai},Q (N .i64 (Lib.indexByte s x)) M→c [St s,St [x]] M Q
def FR (x:UInt8) (s:List UInt8) : AV:=match brk x s with
 | some (a,b)=>.tup [St a,St b,Bo true]
 | none=>.tup [St s,St [],Bo false]
def zX (x:UInt8) (c:aj) : Prop:=∀ {M:RM} {s:List UInt8} {Q:ai},s.length≤1000000000→Q (FR x s) M→c [St s,St [x]] M Q
theorem IG {x:UInt8} {ci:aj} (hi:Ib x ci) : zX x fun args M Q=>∃ a0 a1,args=[a0,a1]∧eG ci a0 a1 M Q:=by
 intro M s Q hl hQ
 refine⟨_,_,rfl, ?_⟩
 unfold eG
 refine hi ?_
 unfold FR at hQ
 rcases qp x s with⟨h1,h2,_⟩ | ⟨a,b,h1,h2,h3,_⟩
 ·rw[h1] at hQ
  simp only[go_sem,h2]
  exact⟨fun h=>absurd h (by decide),fun _=>hQ⟩
 ·rw[h1] at hQ
  have hsl:=congrArg List.length h3
  simp at hsl
  rw[h2,fK,show decide ((a.length:Int) ≥ 0)=true by simp]
  refine⟨fun _=>?_,fun h=>by cases h⟩
  rw[gZ (by omega)]
  simp only[go_sem]
  rw[show IntKind.wrap .i64 ((a.length:Int) + ((1:Nat) : Int))=((a.length + 1:Nat) : Int) by rw[zL (by omega) (by omega)]; omega]
  rw[bD (by omega)]
  simp only[go_sem]
  rw[h3]
  rw[show(a++x :: b).take a.length=a by simp,show(a++x :: b).drop (a.length + 1)=b by rw[← List.drop_drop]; simp]
  exact hQ
theorem Ta {x:UInt8} {ci:aj} (hi:zX x ci) : zX x fun args M Q=>∃ a0 a1,args=[a0,a1]∧mf ci a0 a1 M Q:=by
 intro M s Q hl hQ
 refine⟨_,_,rfl, ?_⟩
 unfold mf
 refine hi hl ?_
 unfold FR at hQ ⊢
 cases h:brk x s with
 | none=>rw[h] at hQ; simpa only[go_sem] using hQ
 | some p=>rw[h] at hQ; simpa only[go_sem] using hQ
theorem get_bt (s:List UInt8) (i:Nat) : ((⟨⟨s⟩⟩ : ByteArray).get! i).toNat=bt s i:=by
 unfold bt
 show((⟨s⟩ : Array UInt8)[i]!).toNat=_
 simp only[getElem!_def]
 rw[List.getElem?_toArray]
 cases h:s[i]? with
 | none=>simp only[List.getD_eq_getElem?_getD,h]; rfl
 | some x=>simp[List.getD_eq_getElem?_getD,h]
theorem vO {s:List UInt8} {i:Nat} (hi:i<s.length) :
  (bt s i<128∧Utf8.decode ⟨⟨s⟩⟩ i=(bt s i,1))∨(128≤bt s i∧128≤(Utf8.decode ⟨⟨s⟩⟩ i).1∧(Utf8.decode ⟨⟨s⟩⟩ i).1<2147483648∧1≤(Utf8.decode ⟨⟨s⟩⟩ i).2∧i + (Utf8.decode ⟨⟨s⟩⟩ i).2≤s.length∧∀ k,i≤k→k<i + (Utf8.decode ⟨⟨s⟩⟩ i).2→128≤bt s k):=by
 have hs:(⟨⟨s⟩⟩ : ByteArray).size=s.length:=rfl
 unfold Utf8.decode
 simp only[get_bt,hs,Nat.add_zero,Utf8.runeError]
 by_cases h0:bt s i<128
 ·exact .inl ⟨h0,by rw[if_pos h0]⟩
 right
 have h8:bt s i<256:=by unfold bt; exact(s.getD i 0).toNat_lt
 refine⟨by omega, ?_⟩
 rw[if_neg h0]
 have one:∀ k,i≤k→k<i + 1→128≤bt s k:=fun k h1 h2=>by
  have:k=i:=by omega
  subst this; omega
 split
 ·rename_i h2
  simp only[Bool.and_eq_true,beq_iff_eq,decide_eq_true_eq] at h2
  split
  ·refine⟨by simpa using ‹_›,by simp; omega,by simp,by simp; omega,fun k h3 h4=>?_⟩
   simp at h4
   rcases Nat.lt_or_ge k (i + 1) with h5 | h5
   ·exact one k h3 h5
   ·have:k=i + 1:=by omega
    subst this; omega
  ·exact⟨by simp,by simp,by simp,by simp; omega,fun k h3 h4=>one k h3 (by simpa using h4)⟩
 ·split
  ·rename_i h3
   simp only[Bool.and_eq_true,beq_iff_eq,decide_eq_true_eq] at h3
   split
   ·rename_i h4
    simp only[Bool.and_eq_true,decide_eq_true_eq,ge_iff_le] at h4
    refine⟨by simp; omega,by simp; omega,by simp,by simp; omega,fun k h5 h6=>?_⟩
    simp at h6
    rcases Nat.lt_or_ge k (i + 1) with h7 | h7
    ·exact one k h5 h7
    ·rcases Nat.lt_or_ge k (i + 2) with h7 | h7
     ·have:k=i + 1:=by omega
      subst this; omega
     ·have:k=i + 2:=by omega
      subst this; omega
   ·exact⟨by simp,by simp,by simp,by simp; omega,fun k h3 h4=>one k h3 (by simpa using h4)⟩
  ·split
   ·rename_i h3
    simp only[Bool.and_eq_true,beq_iff_eq,decide_eq_true_eq] at h3
    split
    ·rename_i h4
     simp only[Bool.and_eq_true,decide_eq_true_eq,ge_iff_le] at h4
     refine⟨by simp; omega,by simp; omega,by simp,by simp; omega,fun k h5 h6=>?_⟩
     simp at h6
     rcases Nat.lt_or_ge k (i + 1) with h7 | h7
     ·exact one k h5 h7
     ·rcases Nat.lt_or_ge k (i + 2) with h7 | h7
      ·have:k=i + 1:=by omega
       subst this; omega
      ·rcases Nat.lt_or_ge k (i + 3) with h7 | h7
       ·have:k=i + 2:=by omega
        subst this; omega
       ·have:k=i + 3:=by omega
        subst this; omega
    ·exact⟨by simp,by simp,by simp,by simp; omega,fun k h3 h4=>one k h3 (by simpa using h4)⟩
   ·exact⟨by simp,by simp,by simp,by simp; omega,fun k h3 h4=>one k h3 (by simpa using h4)⟩
theorem Oj {r:Nat} (h:128≤r) : ∃ a x,(Utf8.encode (r:Int)).data.toList=a++[x]∧128≤x.toNat∧1≤a.length∧a.length≤3:=by
 have key:∀ c:Nat,128≤c→∃ a x,(if c<0x80 then(⟨#[UInt8.ofNat c]⟩ : ByteArray) else if c<0x800 then⟨#[UInt8.ofNat (0xC0 + c / 64),UInt8.ofNat (0x80 + c % 64)]⟩
   else if c<0x10000 then⟨#[UInt8.ofNat (0xE0 + c / 4096),UInt8.ofNat (0x80 + c / 64 % 64),UInt8.ofNat (0x80 + c % 64)]⟩
   else⟨#[UInt8.ofNat (0xF0 + c / 262144),UInt8.ofNat (0x80 + c / 4096 % 64),UInt8.ofNat (0x80 + c / 64 % 64),UInt8.ofNat (0x80 + c % 64)]⟩).data.toList=a++[x]∧128≤x.toNat∧1≤a.length∧a.length≤3:=by
  intro c hc
  rw[if_neg (by omega)]
  have hx:128≤(UInt8.ofNat (0x80 + c % 64)).toNat:=by simp; omega
  split
  ·exact⟨[_],_,rfl,hx,by simp,by simp⟩
  ·split
   ·exact⟨[_,_],_,rfl,hx,by simp,by simp⟩
   ·exact⟨[_,_,_],_,rfl,hx,by simp,by simp⟩
 have h2:128≤(if Utf8.valid (r:Int)=true then(r:Int).toNat else Utf8.runeError):=by
  split
  ·simpa using h
  ·decide
 simp only[Utf8.encode]
 generalize (if Utf8.valid (r:Int)=true then(r:Int).toNat else Utf8.runeError)=c at h2 ⊢
 exact key c h2
theorem Ko {s:List UInt8} {x:UInt8} (h:x ∉ s) : Lib.indexByte s x=-1:=by
 rcases qp x s with⟨_,h2,_⟩ | ⟨a,b,_,_,h3,_⟩
 ·exact h2
 ·exact absurd (by rw[h3]; simp) h
def Asc (cs:List UInt8) : Prop:=∀ x∈cs,x.toNat<128
theorem Asc.bt {cs:List UInt8} (h:Asc cs) {i:Nat} (hi:i<cs.length) : bt cs i<128:=by
 rw[← KP hi]; exact h _ (List.getElem_mem hi)
def A8 (c:aj) : Prop:=∀ {M:RM} {r:Nat} {Q:ai},(∀ b,Q (Bo b) M)→c [N .i32 (r:Int)] M Q
theorem Ig:A8 fun args M Q=>∃ a0,args=[a0]∧jB a0 M Q:=by
 intro M r Q hQ
 refine⟨_,rfl, ?_⟩
 unfold jB
 simp only[dS,oJ]
 simp only[go_sem,decide_true]
 refine⟨fun _=>hQ _,fun _=>?_⟩
 cases decide ((57343:Int)<(r:Int)) with
 | true=>simp only[go_sem]; exact⟨fun _=>hQ _,fun _=>hQ _⟩
 | false=>simp only[go_sem]; exact hQ _
def DC (cs:List UInt8) (r:Nat) : Int:=if r<128 then Lib.indexByte cs (UInt8.ofNat r) else -1
def AP (cs:List UInt8) (c:aj) : Prop:=∀ {M:RM} {r:Nat} {Q:ai},r<2147483648→(∀ M',ae [] M M'→Q (N .i64 (DC cs r)) M')→c [St cs,N .i32 (r:Int)] M Q
def mO (cs:List UInt8) (B:Base) (c:aj) : Prop:=∀ {M:RM} {s:List UInt8} {Q:ai},M.base=B→s.length≤1000000000→(∀ M',ae [] M M'→Q (N .i64 (Lib.indexAny s cs)) M')→c [St s,St cs] M Q
theorem IU {cs:List UInt8} {T:Nat} {cr cu cm ct:aj} {M:RM} {s:List UInt8} {Q:ai} (hcs:Asc cs) (h2:2≤cs.length) (hl:cs.length≤1000) (hs:s.length≤8) (hr:AP cs cr)
  (hu:∀ {M:RM} {n:Nat} {Q:ai},Q (Bo (decide (8<n))) M→cu [N .i64 (n:Int)] M Q) (hQ:∀ M',ae [] M M'→Q (N .i64 (Lib.indexAny s cs)) M') : nk cr cu cm T ct (St s) (St cs) M Q:=by
 unfold nk
 have e0:(cs == ([] : List UInt8))=false:=by
  cases cs with
  | nil=>simp at h2
  | cons=>rfl
 have e1:((cs.length:Int) == 1)=false:=by simp; omega
 simp only[dK,go_sem,e0,e1]
 refine zQ ?_
 refine hu ?_
 rw[show decide (8<s.length)=false by simp; omega]
 simp only[go_sem]
 refine⟨s,rfl, ?_⟩
 simp only[go_sem]
 refine aP (fun m ys M3=>∃ pos:Nat,m=s.length - pos∧ys=[]∧M3.heap M.next=some (.gT s pos)∧ae [] M M3∧M.next<M3.next∧pos≤s.length∧Lib.NoAny s cs pos) _
  ⟨0,rfl,rfl,RM.aS _,(ae.refl _ _).push _,by simp[RM.push],Nat.zero_le _,Lib.NoAny.zero _ _⟩ ?_
 rintro next m ys M3 hnext ⟨pos,rfl,rfl,hh,hk,hlt,hple,hno⟩
 refine⟨_,_,_,rfl,hh, ?_⟩
 have VT:∀ y,ae [] M (M3.put M.next y):=fun y=>hk.put y (.inl (Nat.le_refl _))
 split
 ·rename_i hp
  rcases vO hp with⟨d1,d2⟩ | ⟨d1,d2,d3,d4,d5,d6⟩
  ·rw[d2]
   simp only[go_sem]
   refine hr (by omega) fun M4 k4=>?_
   rw[DC,if_pos d1]
   have hx:UInt8.ofNat (bt s pos)=s[pos]:=by rw[← KP hp]; simp
   rw[hx]
   have hc:=Lib.contains_iff_indexByte cs s[pos]
   simp only[go_sem]
   refine⟨fun h=>?_,fun h=>?_⟩
   ·have h:(0:Int)≤Lib.indexByte cs s[pos]:=by simpa using h
    rw[decide_eq_true h] at hc
    have:=hQ M4 ((VT _).trans k4)
    rw[Lib.indexAny_hit hno (List.getElem?_eq_getElem hp) hc] at this
    exact this
   ·have h:¬ (0:Int)≤Lib.indexByte cs s[pos]:=by simpa using h
    rw[decide_eq_false h] at hc
    refine hnext _ _ _ (by omega) ⟨pos + 1,rfl,rfl,k4.ax (RM.kI _ _) (by simpa [RM.nX] using hlt) (by simp),(VT _).trans k4, ?_,by omega,hno.succ (List.getElem?_eq_getElem hp) hc⟩
    have:=k4.next
    simp[RM.nX] at this; omega
  ·generalize Utf8.decode ⟨⟨s⟩⟩ pos=d at *
   obtain⟨r,n⟩:=d
   simp only at d2 d3 d4 d5 d6
   simp only[go_sem]
   refine hr d3 fun M4 k4=>?_
   rw[DC,if_neg (by omega)]
   simp only[go_sem,show decide ((-1:Int) ≥ 0)=false from rfl]
   refine hnext _ _ _ (by omega) ⟨pos + n,rfl,rfl,k4.ax (RM.kI _ _) (by simpa [RM.nX] using hlt) (by simp),(VT _).trans k4, ?_,by omega,fun j b hj hb=>?_⟩
   ·have:=k4.next
    simp[RM.nX] at this; omega
   ·rcases Nat.lt_or_ge j pos with h | h
    ·exact hno j b h hb
    ·have hjl:j<s.length:=(List.getElem?_eq_some_iff.1 hb).1
     have h7:=d6 j h hj
     rw[← KP hjl] at h7
     have h8:s[j]=b:=(List.getElem?_eq_some_iff.1 hb).2
     rw[h8] at h7
     cases hcb:cs.contains b with
     | false=>rfl
     | true =>
       have:=hcs b (by simpa using hcb)
       omega
 ·simp only[go_sem]
  have:pos=s.length:=by omega
  subst this
  rw[Lib.indexAny_none hno] at hQ
  exact hQ M3 hk
def iN:List UInt8:=[44,59,58]
def iD (s:List UInt8) : List UInt8 × List UInt8 × Bool :=
 if aN 34 s then match brk 34 (s.drop 1) with
  | some (a,b)=>(a,b,gm [] a)
  | none=>(s.drop 1,[],false)
 else if Lib.indexAny s iN<0 then([],[],false)
 else(s.take (Lib.indexAny s iN).toNat,s.drop (Lib.indexAny s iN).toNat,gm [34] (s.take (Lib.indexAny s iN).toNat))
theorem xW:∀ (s cs:List UInt8),Lib.indexAny s cs<(s.length:Int)∨Lib.indexAny s cs=-1
 | [],cs=>.inr rfl
 | b :: s,cs=>by
   have:=xW s cs
   rw[Lib.indexAny]
   split
   ·left; simp only[List.length_cons]; omega
   ·split
    ·right; rfl
    ·rename_i h1 h2
     left
     rcases this with h | h
     ·simp only[List.length_cons]; omega
     ·rw[h] at h2; simp at h2
theorem uW (s:List UInt8) : (iD s).1.length≤s.length∧(iD s).2.1.length≤s.length:=by
 unfold iD
 split
 ·rcases qp 34 (s.drop 1) with⟨h1,_⟩ | ⟨a,b,h1,_,h3,_⟩
  ·rw[h1]; simp
  ·rw[h1]
   have:=congrArg List.length h3
   simp at this ⊢; omega
 ·split
  ·simp
  ·simp; omega
def NF (B:Base) (c:aj) : Prop:=∀ {M:RM} {s:List UInt8} {Q:ai},M.base=B→s.length≤1000000→(∀ M',ae [] M M'→Q (.tup [St (iD s).1,St (iD s).2.1,Bo (iD s).2.2]) M')→c [St s] M Q
theorem Qs {B:Base} {cp cc cg ci:aj} (hp:ku cp) (hc:zX 34 cc) (hg:nI B cg) (hi:mO iN B ci) : NF B fun args M Q=>∃ a0,args=[a0]∧sP cp cc cg ci a0 M Q:=by
 intro M s Q hM hl hQ
 refine⟨_,rfl, ?_⟩
 unfold sP
 refine hp (by omega) ?_
 unfold CG
 unfold iD at hQ
 cases hh:aN 34 s with
 | true =>
   simp only[hh,if_true] at hQ
   simp only[go_sem,dS]
   refine hc (by simp; omega) ?_
   unfold FR
   cases hb:brk 34 (s.drop 1) with
   | none =>
     simp only[hb] at hQ
     simp only[go_sem]
     exact hQ M (ae.refl _ _)
   | some p =>
     obtain⟨a,b⟩:=p
     simp only[hb] at hQ
     have:=uW s
     unfold iD at this
     simp only[hh,if_true,hb] at this
     simp only[go_sem]
     refine hg hM (by omega) fun M1 k1=>?_
     exact hQ M1 k1
 | false =>
   simp only[hh,Bool.false_eq_true,if_false] at hQ
   simp only[go_sem,Bool.false_eq_true,if_false]
   refine hi hM (by omega) fun M1 k1=>?_
   have hlt:=xW s iN
   generalize Lib.indexAny s iN=n at *
   simp only[go_sem]
   refine⟨fun h=>?_,fun h=>?_⟩
   ·have h:n<0:=by simpa using h
    simp only[h,if_true] at hQ
    exact hQ M1 k1
   ·have h:¬ n<0:=by simpa using h
    simp only[h,if_false] at hQ
    obtain⟨k,rfl⟩ : ∃ k:Nat,n=(k:Int):=⟨n.toNat,by omega⟩
    simp only[Int.toNat_natCast] at hQ
    have hk:k≤s.length:=by omega
    rw[gZ hk,bD hk]
    simp only[go_sem]
    refine hg (by rw[k1.base,hM]) (by simp; omega) fun M2 k2=>?_
    exact hQ M2 (k1.trans k2)
abbrev gF:=List UInt8 × List (List UInt8)
def jl:kg gF:=kg.pre jO jO.ko.slice
theorem KZ {M:RM} {n:List UInt8} {v:AV} {vs:List (List UInt8)} {S:Nat→Prop} (h:bE jO.ko M v vs S) : jl.rel M [St n,v] (n,vs) S:=⟨[v],rfl,v,rfl,h⟩
def gH:Nat→List UInt8→List (List UInt8)→Option (List (List UInt8) × List UInt8)
 | 0,_,_=>none
 | k + 1,s,acc=>match iD (s.drop 1) with
   | (v,after,ok)=>if ok then(if aN 44 after then gH k after (acc++[v]) else some (acc++[v],after)) else none
def kY (f:List UInt8→List UInt8) : Nat→List UInt8→List gF→Option (List gF × List UInt8)
 | 0,_,_=>none
 | k + 1,s,acc=>if aN 59 s then
     (if fB f (((s.drop 1).take (wk (s.drop 1))).map bV) && aN 61 ((s.drop 1).drop (wk (s.drop 1))) then
      match gH ((s.drop 1).drop (wk (s.drop 1))).length ((s.drop 1).drop (wk (s.drop 1))) [] with
      | some (vs,s3)=>kY f k s3 (acc++[(((s.drop 1).take (wk (s.drop 1))).map bV,vs)])
      | none=>none
     else none)
   else some (acc,s)
theorem aW {x:UInt8} {s:List UInt8} (h:aN x s=true) : 1≤s.length:=by
 cases s with
 | nil=>cases h
 | cons=>simp
theorem rW:∀ (k:Nat) (s:List UInt8) (acc vs:List (List UInt8)) (r:List UInt8),1≤s.length→gH k s acc=some (vs,r)→r.length + vs.length≤s.length + acc.length
 | 0,_,_,_,_,_,h=>by cases h
 | k + 1,s,acc,vs,r,h1,h=>by
   rw[gH] at h
   have hl:=uW (s.drop 1)
   generalize iD (s.drop 1)=x at *
   obtain⟨v,after,ok⟩:=x
   simp only[List.length_drop] at hl h
   split at h
   ·split at h
    ·rename_i hh
     have:=rW k after _ vs r (aW hh) h
     simp at this; omega
    ·cases h; simp; omega
   ·cases h
theorem A7:∀ (n:Nat) (s:List UInt8) (acc:List (List UInt8)) (k:Nat),s.length≤n→1≤s.length→s.length≤k→gH k s acc=gH s.length s acc
 | 0,s,acc,k,h1,h2,h3=>by omega
 | n + 1,s,acc,k,h1,h2,h3=>by
   obtain⟨j,hj⟩ : ∃ j,s.length=j + 1:=⟨s.length - 1,by omega⟩
   obtain⟨i,rfl⟩ : ∃ i,k=i + 1:=⟨k - 1,by omega⟩
   rw[hj,gH,gH]
   have hl:=uW (s.drop 1)
   generalize iD (s.drop 1)=x at *
   obtain⟨v,after,ok⟩:=x
   simp only[List.length_drop] at hl ⊢
   split
   ·split
    ·rename_i hh
     have h4:=aW hh
     rw[A7 n after _ i (by omega) h4 (by omega),A7 n after _ j (by omega) h4 (by omega)]
    ·rfl
   ·rfl
theorem BV (f:List UInt8→List UInt8) : ∀ (n:Nat) (s:List UInt8) (acc:List gF) (k:Nat),s.length≤n→s.length + 1≤k→kY f k s acc=kY f (s.length + 1) s acc
 | n,s,acc,k,h1,h3=>by
   obtain⟨i,rfl⟩ : ∃ i,k=i + 1:=⟨k - 1,by omega⟩
   rw[kY,kY]
   split
   ·rename_i h59
    have hpos:=aW h59
    split
    ·rename_i hc
     simp only[Bool.and_eq_true] at hc
     have h61:=aW hc.2
     cases hv:gH ((s.drop 1).drop (wk (s.drop 1))).length ((s.drop 1).drop (wk (s.drop 1))) [] with
     | none=>rfl
     | some p =>
       obtain⟨vs,s3⟩:=p
       have:=rW _ _ _ _ _ h61 hv
       simp at this
       simp only
       cases n with
       | zero=>omega
       | succ n =>
         rw[BV f n s3 _ i (by omega) (by omega),BV f n s3 _ s.length (by omega) (by omega)]
    ·rfl
   ·rfl
def ou (f:List UInt8→List UInt8) (s:List UInt8) : Option (List gF × List UInt8):=kY f (s.length + 1) s []
def H9 (B:Base) (f:List UInt8→List UInt8) (TP:Nat) (c:aj) : Prop:=∀ {M:RM} {s:List UInt8} {Q:ai},M.base=B→s.length≤100000 →
 (∀ M',ae [] M M'→ou f s=none→Q (.tup [aB,St [],Bo false]) M') →
 (∀ v M' ps r,ae [] M M'→ou f s=some (ps,r)→bE jl M' v ps (fun b=>M.next≤b)→ps.length + r.length≤s.length→Q (.tup [v,St r,Bo true]) M')→c [St s] M Q
theorem OI {B:Base} {f:List UInt8→List UInt8} {TP TS:Nat} {ch cw cg cv:aj} (hh:nG ch) (hw:KM B cw) (hg:rV B f cg) (hv:NF B cv) :
  H9 B f TP fun args M Q=>∃ a0,args=[a0]∧qV ch TP cw cg cv TS a0 M Q:=by
 intro M s Q hM hl hN hS
 refine⟨_,rfl, ?_⟩
 unfold qV
 simp only[dS,dK]
 refine aP (fun m ys M3=>∃ (t:List UInt8) (v:AV) (acc:List gF),m=t.length∧ys=[St t,v]∧acc.length + t.length≤s.length∧ae [] M M3 ∧
   fe jl M3 M.next TP v acc (fun b=>M.next≤b∧b<M3.next∧b ∉ aC v)∧kY f (t.length + 1) t acc=ou f s) _
  ⟨s,aB,[],rfl,rfl,by simp,ae.refl _ _,.nil,rfl⟩ ?_
 rintro next m ys M3 hnext ⟨t,v,acc,rfl,rfl,hal,hK,ho,hp⟩
 have hM3:M3.base=B:=by rw[hK.base,hM]
 rw[kY] at hp
 dsimp only[ag]
 refine hh (by omega) ?_
 cases h59:aN 59 t with
 | false =>
   simp only[h59,Bool.false_eq_true,if_false] at hp
   rw[dI]
   refine hS v M3 acc t hK hp.symm ((ho.mono (fun b h=>h.1)).Ev (fun b hb _=>hb)) hal
 | true =>
   simp only[h59,if_true] at hp
   have htl:=aW h59
   rw[eU,aG,show aU (St t) (some (N .i64 1)) none=some (St (t.drop 1)) from bD (l:=1) (by omega) .i64,dR]
   have hb5:(M3.push (.row [St [],aB] false TP 0)).heap M3.next=some (.row [St [],aB] false TP 0):=RM.aS _
   refine hw (by rw[RM.Tv,hM3]) (by simp; omega) fun M4 k4=>?_
   have hb5:=k4.ax hb5 (by simp[RM.push]) (by simp)
   have hn4:M3.next<M4.next:=by have:=k4.next; simp[RM.push] at this; omega
   have kk4:ae [] M3 M4:=((ae.refl _ _).push _).trans k4
   unfold Qk
   rw[bI,bJ,ja,Nat.zero_add,Co hb5 (by decide) rfl rfl,ja,Nat.zero_add,az (ay _) rfl]
   generalize ht1:t.drop 1=t1 at *
   have ht1l:t1.length + 1=t.length:=by rw[← ht1]; simp; omega
   have hwk:=wM t1
   generalize wk t1=k at *
   refine hg (by rw[RM.Vi,kk4.base,hM3]) (by simp; omega) fun M5 k5=>?_
   rw[bP]
   have fail:ou f s=none→Q (.tup [aB,St [],Bo false]) M5:=fun h=>hN M5 ((hK.trans kk4).new _ hK.next |>.trans k5) h
   cases hgn:fB f ((t1.take k).map bV) with
   | false =>
     simp only[hgn,Bool.false_and,Bool.false_eq_true,if_false] at hp
     rw[Bool.not_false,iM]
     dsimp only
     rw[gU,eU]
     exact fail hp.symm
   | true =>
   rw[Bool.not_true,lG]
   refine hh (by simp; omega) ?_
   rw[bP]
   cases h61:aN 61 (t1.drop k) with
   | false =>
     simp only[h61,Bool.and_false,Bool.false_eq_true,if_false] at hp
     rw[Bool.not_false,jd,eU]
     exact fail hp.symm
   | true =>
   simp only[hgn,h61,Bool.and_self,if_true] at hp
   rw[Bool.not_true,jd,dI]
   generalize ht2:t1.drop k=t2 at *
   have ht2l:t2.length≤t1.length:=by rw[← ht2]; simp
   generalize hnm:(t1.take k).map bV=nm at *
   -- the block of this parameter
   have hb5:M5.heap M3.next=some (.row [St nm,aB] false TP 0):=k5.ax (ay _) (by rw[kH]; exact hn4) (by simp)
   have kk5:ae [] M3 M5:=(kk4.new _ (Nat.le_refl _)).trans k5
   have hn5:M3.next<M5.next:=by have:=k5.next; rw[kH] at this; omega
   refine aP (fun m zs M6=>∃ (u:List UInt8) (vs:List (List UInt8)) (w:AV) (more:Bool),m=2 * u.length + (if more then 1 else 0)∧zs=[St u,v,Bo more]∧u.length + vs.length≤t2.length∧ae [] M3 M6∧M5.next≤M6.next ∧
     M6.heap M3.next=some (.row [St nm,w] false TP 0)∧fe jO.ko M6 M5.next TS w vs (fun _=>False) ∧
     (more=true→1≤u.length∧gH u.length u vs=gH t2.length t2 [])∧(more=false→gH t2.length t2 []=some (vs,u))) _
    ⟨t2,[],aB,true,rfl,rfl,by simp,kk5,Nat.le_refl _,hb5,.nil,fun _=>⟨aW h61,rfl⟩,fun h=>by cases h⟩ ?_
   rintro Dr m zs M6 mg ⟨u,vs,w,more,rfl,rfl,hul,hk6,hn6,hb6,how,hm1,hm2⟩
   dsimp only[ag]
   have hM6:M6.base=B:=by rw[hk6.base,hM3]
   cases more with
   | true =>
     obtain⟨hu1,hvf⟩:=hm1 rfl
     obtain⟨j,hj⟩ : ∃ j,u.length=j + 1:=⟨u.length - 1,by omega⟩
     rw[hj,gH] at hvf
     rw[eU,show aU (St u) (some (N .i64 1)) none=some (St (u.drop 1)) from bD (l:=1) (by omega) .i64,dR]
     have hvl:=uW (u.drop 1)
     refine hv hM6 (by simp; omega) fun M7 k7=>?_
     generalize iD (u.drop 1)=x at *
     obtain⟨a,after,ok⟩:=x
     simp only[List.length_drop] at hvl hvf
     rw[bI,bJ,jf,bP]
     dsimp only
     cases ok with
     | false =>
       simp only[Bool.false_eq_true,if_false] at hvf
       rw[Bool.not_false,eU]
       refine hN M7 (hK.trans (hk6.trans k7)) ?_
       rw[← hp,← hvf]
     | true =>
     simp only[if_true] at hvf
     have hb7:=k7.ax hb6 (by omega) (by simp)
     rw[Bool.not_true,dI,ja,Nat.zero_add,az hb7 rfl,kE (x:=St a) (size:=1) rfl rfl rfl,aG]
     have abR:=how.keep k7 (by simp) (by simp)
     refine fe.app (R:=jO.ko) (a:=a) (cs:=[St a]) abR rfl (by have:=k7.next; omega) (Nat.le_refl _) (by simp) (by simp) (by omega) (by omega) ?_
     intro w' M8 o8 k8 n8 hw8 _
     have hwb:∀ b∈aC w,M5.next≤b:=fun b hb=>(how.blk b hb).1
     have hb8:=k8.ax hb7 (by have:=k7.next; omega) (fun h=>by have:=hwb _ h; omega)
     have UX:∀ b∈aC w',M5.next≤b:=fun b hb=>(o8.blk b hb).1
     rw[ja,Nat.zero_add,Co hb8 (by simp) o8.cells o8.one]
     refine hh (by omega) ?_
     have k9:ae [] M3 (M8.put M3.next (.row [St nm,w'] false TP 0)):=ae.new ((hk6.trans k7).fI k8 fun c hc=>.inl (by have:=hwb c hc; omega)) _ (Nat.le_refl _)
     refine mg _ _ _ ?_ ⟨after,vs++[a],w',aN 44 after,rfl,rfl,by simp; omega,k9,by rw[kH]; have:=k7.next; omega,ay _, ?_, ?_, ?_⟩
     ·split <;> simp <;> omega
     ·refine o8.keep (bs:=[M3.next]) ((ae.refl _ _).put _ (.inr (by simp))) (by simp) fun b hb=>?_
      have:=UX b hb
      simp; omega
     ·intro hmo
      rw[if_pos hmo] at hvf
      refine⟨aW hmo, ?_⟩
      rw[← hvf,A7 after.length after _ j (Nat.le_refl _) (aW hmo) (by omega)]
     ·intro hmo
      rw[hmo] at hvf
      simp only[Bool.false_eq_true,if_false] at hvf
      exact hvf.symm
   | false =>
     rw[hm2 rfl] at hp
     simp only at hp
     rw[dI,aO (n:=2) hb6 rfl,kE (x:=.agg [St nm,w]) (size:=2) rfl (by simp[AV.cells,how.one]; rfl) rfl,aG]
     have hvl:=ho.blk
     let S' : Nat→Prop:=fun b=>M.next≤b∧b<M6.next∧b ∉ aC v
     have ho6:fe jl M6 M.next TP v acc S':=(ho.keep hk6 (by simp) (by simp)).mono fun b h=>⟨h.1,by have:=hk6.next; omega,h.2.2⟩
     have hel:jl.rel M6 [St nm,w] (nm,vs) S':=KZ ((how.mono (S':=S') (fun _ h=>h.elim)).Ev (fun b h1 h2=>⟨by have:=hK.next; omega,h2,fun hb=>by have:=(hvl b hb).2; omega⟩))
     refine fe.app (R:=jl) ho6 hel (by have:=hK.next; have:=hk6.next; omega) (by decide) (fun b hb h=>h.2.2 hb) (fun b h=>h.2.1) (by omega) (by omega) ?_
     intro v' M7 o7 k7 n7 hv7 hd7
     have hvs:=rW _ _ _ _ _ (aW h61) (hm2 rfl)
     simp at hvs
     refine hnext _ _ _ (by omega) ⟨u,v',acc++[(nm,vs)],rfl,rfl,by simp; omega, ?_, ?_, ?_⟩
     ·exact(hK.trans hk6).fI k7 fun c hc=>.inl (hvl c hc).1
     ·exact o7.mono fun b h=>⟨h.1,by omega,fun hb=>hd7 b hb h⟩
     ·rw[← hp,BV f u.length u _ t.length (Nat.le_refl _) (by omega)]
structure Ln where
 g:List UInt8
 n:List UInt8
 ps:List gF
 v:List UInt8
 deriving DecidableEq
def iO:kg (Ln × Int) where
 size:=5
 rel M cs a S:=∃ v,cs=[St a.1.g,St a.1.n,v,St a.1.v,N .i64 a.2]∧bE jl M v a.1.ps S
 len h:=by obtain⟨v,rfl,h⟩:=h; rfl
 one h:=by obtain⟨v,rfl,h⟩:=h; simp[h.one,fF]
 mono h hs:=by obtain⟨v,rfl,h⟩:=h; exact⟨v,rfl,h.mono hs⟩
 lt h:=by obtain⟨v,rfl,h⟩:=h; exact⟨v,rfl,h.lt⟩
 keep h hk hb:=by obtain⟨v,rfl,h⟩:=h; exact⟨v,rfl,h.keep hk hb⟩
abbrev lz:List AV:=[St [],St [],aB,St [],N .i64 0]
def bY (s:List UInt8) : List UInt8:=(s.take (wk s)).map bV
theorem Mg (s:List UInt8) : Qk s=.tup [St (bY s),St (s.drop (wk s))]:=rfl
def pE (f:List UInt8→List UInt8) (s:List UInt8) : Option (List UInt8 × List UInt8 × List UInt8) :=
 if aN 46 (s.drop (wk s)) then
  (if fB f (bY s) then some (bY s,bY ((s.drop (wk s)).drop 1),((s.drop (wk s)).drop 1).drop (wk ((s.drop (wk s)).drop 1))) else none)
 else some ([],bY s,s.drop (wk s))
def wZ (f:List UInt8→List UInt8) (g n s:List UInt8) : Option Ln :=
 match ou f s with
 | none=>none
 | some (ps,r)=>if fB f n && aN 58 r && gm [] (r.drop 1) then some ⟨g,n,ps,r.drop 1⟩ else none
def iH (f:List UInt8→List UInt8) (s:List UInt8) : Option Ln :=
 if dX s then(match pE f s with
  | none=>none
  | some (g,n,r)=>wZ f g n r)
 else none
def Yz (B:Base) (f:List UInt8→List UInt8) (c:aj) : Prop:=∀ {M:RM} {s:List UInt8} {Q:ai},M.base=B→s.length≤10000 →
 (∀ M',ae [] M M'→iH f s=none→Q (.tup [.agg lz,Bo false]) M') →
 (∀ cs M' L,ae [] M M'→iH f s=some L→iO.rel M' cs (L,0) (fun b=>M.next≤b)→Q (.tup [.agg cs,Bo true]) M')→c [St s] M Q
theorem QN {M:RM} {b T:Nat} {l:List AV} {Q:ai} (h:M.heap b=some (.row l false T 0)) (hl:l.length=5) (hQ:Q (.tup [.agg lz,Bo false]) (M.put b (.row lz false T 0))) :
  eQ lz [] fun t=>aA M (.ptr b 0) t 5 fun M1=>aH M1 (.ptr b 0) 5 fun res=>Q (.tup [res,Bo false]) M1:=by
 rw[jX]
 refine⟨_,rfl, ?_⟩
 rw[bK (n:=5) h rfl hl rfl,aO (n:=5) (ay _) rfl]
 exact hQ
theorem CO {B:Base} {f:List UInt8→List UInt8} {TP TL:Nat} {cvs cw ch cg cp cv:aj} (hvs:NT B cvs) (hw:KM B cw) (hh:nG ch) (hg:rV B f cg) (hp:H9 B f TP cp) (hv:nI B cv) :
  Yz B f fun args M Q=>∃ a0,args=[a0]∧vT TL cvs cw ch cg cp cv a0 M Q:=by
 intro M s Q hM hl hN hS
 refine⟨_,rfl, ?_⟩
 unfold vT
 simp only[dS,dK]
 rw[aG]
 have h2:(M.push (.row lz false TL 0)).heap M.next=some (.row lz false TL 0):=RM.aS _
 have k1:ae [] M (M.push (.row lz false TL 0)):=(ae.refl _ _).push _
 have n1:(M.push (.row lz false TL 0)).next=M.next + 1:=rfl
 generalize M.push (.row lz false TL 0)=M1 at *
 refine hvs (by rw[k1.base,hM]) (by omega) ?_
 rw[bP]
 unfold iH at hN hS
 cases hf:dX s with
 | false =>
   rw[Bool.not_false,eU]
   exact QN h2 rfl (hN _ (k1.new _ (Nat.le_refl _)) (by simp[hf]))
 | true =>
 simp only[hf,if_true] at hN hS
 rw[Bool.not_true,dI,aG]
 have h4:(M1.push (.row lz false TL 0)).heap (M.next + 1)=some (.row lz false TL 0):=by rw[← n1]; exact RM.aS _
 have h2:(M1.push (.row lz false TL 0)).heap M.next=some (.row lz false TL 0):=uS h2 (by omega)
 have k2:ae [] M (M1.push (.row lz false TL 0)):=k1.push _
 have n2:(M1.push (.row lz false TL 0)).next=M.next + 2:=by rw[bH,n1]
 rw[n1]
 generalize M1.push (.row lz false TL 0)=M2 at *
 refine hw (by rw[k2.base,hM]) (by omega) fun M3 k3=>?_
 rw[Mg]
 have h2:=k3.ax h2 (by omega) (by simp)
 have h4:=k3.ax h4 (by omega) (by simp)
 have n3:=k3.next
 rw[bI,bJ,bi,bN [St [],St (bY s),aB,St [],N .i64 0] h4 (by simp) rfl rfl rfl]
 have k4:ae [] M (M3.put (M.next + 1) (.row [St [],St (bY s),aB,St [],N .i64 0] false TL 0)):=(k2.trans k3).new _ (by omega)
 have h2:=dC (z:=.row [St [],St (bY s),aB,St [],N .i64 0] false TL 0) h2 (show M.next≠M.next + 1 by omega)
 have h4:(M3.put (M.next + 1) (.row [St [],St (bY s),aB,St [],N .i64 0] false TL 0)).heap (M.next + 1)=some (.row [St [],St (bY s),aB,St [],N .i64 0] false TL 0):=ay _
 have n4:M.next + 2≤(M3.put (M.next + 1) (.row [St [],St (bY s),aB,St [],N .i64 0] false TL 0)).next:=by rw[kH]; omega
 generalize M3.put (M.next + 1) (.row [St [],St (bY s),aB,St [],N .i64 0] false TL 0)=M4 at *
 have hdl:=wM s
 refine bQ (fun xs M'=>∃ g n r,xs=[St r]∧pE f s=some (g,n,r)∧r.length≤s.length∧n.length≤s.length∧ae [] M M'∧M.next + 2≤M'.next∧M'.heap M.next=some (.row lz false TL 0) ∧
   M'.heap (M.next + 1)=some (.row [St g,St n,aB,St [],N .i64 0] false TL 0)) ?_ ?_
 ·rintro _ M5 ⟨g,n,r,rfl,hhd,hrl,hnl,k5,n5,h2,h4⟩
  rw[hhd] at hN hS
  simp only at hN hS
  unfold wZ at hN hS
  dsimp only[ag]
  have stop:∀ M',ae [] M5 M'→ou f r=none∨(∃ ps q,ou f r=some (ps,q)∧(fB f n && aN 58 q && gm [] (q.drop 1))=false)→eQ lz [] fun t=>aA M' (.ptr M.next 0) t 5 fun M1=>aH M1 (.ptr M.next 0) 5 fun res=>Q (.tup [res,Bo false]) M1:=by
   intro M' k' hc
   refine QN (k'.ax h2 (by omega) (by simp)) rfl (hN _ ((k5.trans k').new _ (Nat.le_refl _)) ?_)
   rcases hc with hc | ⟨ps,q,hc,hc2⟩
   ·simp[hc]
   ·rw[hc]; simp only[hc2,Bool.false_eq_true,if_false]
  refine hp (by rw[k5.base,hM]) (by omega) ?_ ?_
  ·intro M6 k6 hpn
   rw[bI,bJ,jf,bP,Bool.not_false,iM]
   dsimp only
   rw[gU,iM]
   dsimp only
   rw[gU,iM]
   dsimp only
   rw[gU,eU]
   exact stop M6 k6 (.inl hpn)
  ·intro v M6 ps q k6 hps hsl hlen
   have h4:=k6.ax h4 (by omega) (by simp)
   have n6:=k6.next
   rw[bI,bJ,jf,bP,Bool.not_true,lG,bi,az h4 rfl]
   refine hg (by rw[k6.base,k5.base,hM]) (by omega) fun M7 k7=>?_
   have h4:=k7.ax h4 (by omega) (by simp)
   have n7:=k7.next
   have k67:=k6.trans k7
   rw[bP]
   dsimp only
   rw[jd]
   cases hgn:fB f n with
   | false =>
     rw[Bool.not_false,iM]
     dsimp only
     rw[gU,iM]
     dsimp only
     rw[gU,eU]
     exact stop M7 k67 (.inr ⟨ps,q,hps,by rw[hgn]; rfl⟩)
   | true =>
   rw[Bool.not_true,lG]
   refine hh (by omega) ?_
   rw[bP]
   dsimp only
   rw[jd]
   cases h58:aN 58 q with
   | false =>
     rw[Bool.not_false,iM]
     dsimp only
     rw[gU,eU]
     exact stop M7 k67 (.inr ⟨ps,q,hps,by rw[hgn,h58]; rfl⟩)
   | true =>
   have hq1:=aW h58
   rw[Bool.not_true,lG,show aU (St q) (some (N .i64 1)) none=some (St (q.drop 1)) from bD (l:=1) hq1 .i64,dR]
   refine hv (by rw[k7.base,k6.base,k5.base,hM]) (by simp; omega) fun M8 k8=>?_
   have h4:=k8.ax h4 (by omega) (by simp)
   have n8:=k8.next
   have k68:=k67.trans k8
   rw[bP]
   dsimp only
   rw[jd]
   cases hgv:gm [] (q.drop 1) with
   | false =>
     rw[Bool.not_false,eU]
     exact stop M8 k68 (.inr ⟨ps,q,hps,by rw[hgn,h58,hgv]; rfl⟩)
   | true =>
   have hs8:=hsl.keep (k7.trans k8) (by simp)
   rw[Bool.not_true,dI,dR,bi,bN [St g,St n,v,St [],N .i64 0] h4 (by simp) hs8.cells hs8.one rfl,dR]
   refine⟨rfl, ?_⟩
   rw[bi,bN [St g,St n,v,St (q.drop 1),N .i64 0] (ay _) (by simp) rfl rfl rfl,aO (n:=5) (ay _) rfl]
   have h2:=dC (z:=.row [St g,St n,v,St (q.drop 1),N .i64 0] false TL 0) (dC (z:=.row [St g,St n,v,St [],N .i64 0] false TL 0) (k68.ax h2 (by omega) (by simp)) (show M.next≠M.next + 1 by omega)) (show M.next≠M.next + 1 by omega)
   rw[bK (n:=5) h2 rfl rfl (by simp[AV.cells,fF,hs8.one]),aO (n:=5) (ay _) rfl]
   refine hS _ _ ⟨g,n,ps,q.drop 1⟩ ?_ (by rw[hps]; simp only[hgn,h58,hgv,Bool.and_self,if_true]) ⟨v,rfl, ?_⟩
   ·exact(((k5.trans k68).new _ (by omega)).new _ (by omega)).new _ (Nat.le_refl _)
   ·refine(hs8.keep (bs:=[M.next,M.next + 1]) ((((ae.refl _ _).put _ (.inr (by simp))).put _ (.inr (by simp))).put _ (.inr (by simp))) ?_).mono fun b hb=>by omega
    intro b hb h
    simp at hb
    omega
 ·intro J hJ
  refine hh (by simp; omega) ?_
  unfold pE at hJ hN
  cases h46:aN 46 (s.drop (wk s)) with
  | false =>
    rw[dI]
    simp only[h46,Bool.false_eq_true,if_false] at hJ
    exact hJ _ _ ⟨[],bY s,_,rfl,rfl,by simp,by simp[bY]; omega,k4,n4,h2,h4⟩
  | true =>
    simp only[h46,if_true] at hJ hN
    rw[eU,bi,az h4 rfl,bi,bN [St (bY s),St (bY s),aB,St [],N .i64 0] h4 (by simp) rfl rfl rfl,bi,az (ay _) rfl]
    have k5:ae [] M (M4.put (M.next + 1) (.row [St (bY s),St (bY s),aB,St [],N .i64 0] false TL 0)):=k4.new _ (by omega)
    have h2:=dC (z:=.row [St (bY s),St (bY s),aB,St [],N .i64 0] false TL 0) h2 (show M.next≠M.next + 1 by omega)
    have h4:(M4.put (M.next + 1) (.row [St (bY s),St (bY s),aB,St [],N .i64 0] false TL 0)).heap (M.next + 1)=some (.row [St (bY s),St (bY s),aB,St [],N .i64 0] false TL 0):=ay _
    have n5:M.next + 2≤(M4.put (M.next + 1) (.row [St (bY s),St (bY s),aB,St [],N .i64 0] false TL 0)).next:=n4
    generalize M4.put (M.next + 1) (.row [St (bY s),St (bY s),aB,St [],N .i64 0] false TL 0)=M5 at *
    refine hg (by rw[k5.base,hM]) (by simp[bY]; omega) fun M6 k6=>?_
    have h2:=k6.ax h2 (by omega) (by simp)
    have h4:=k6.ax h4 (by omega) (by simp)
    have n6:=k6.next
    rw[bP]
    cases hgn:fB f (bY s) with
    | false =>
      rw[Bool.not_false,eU]
      refine QN h2 rfl (hN _ ((k5.trans k6).new _ (Nat.le_refl _)) (by simp[hgn]))
    | true =>
      simp only[hgn,if_true] at hJ
      rw[Bool.not_true,dI,show aU (St (s.drop (wk s))) (some (N .i64 1)) none=some (St ((s.drop (wk s)).drop 1)) from bD (l:=1) (aW h46) .i64,dR]
      refine hw (by rw[k6.base,k5.base,hM]) (by simp; omega) fun M7 k7=>?_
      have h2:=k7.ax h2 (by omega) (by simp)
      have h4:=k7.ax h4 (by omega) (by simp)
      have n7:=k7.next
      rw[Mg,bI,bJ,bi,bN [St (bY s),St (bY ((s.drop (wk s)).drop 1)),aB,St [],N .i64 0] h4 (by simp) rfl rfl rfl]
      have hdl2:=wM ((s.drop (wk s)).drop 1)
      refine hJ _ _ ⟨bY s,bY ((s.drop (wk s)).drop 1),_,rfl,rfl,by simp,by simp[bY]; omega,((k5.trans k6).trans k7).new _ (by omega),by rw[kH]; omega,dC h2 (by omega),ay _⟩
inductive Rds where
 | ok (l:List (Ln × Int))
 | bad (k:Int) (e:Int)
def gu (f:List UInt8→List UInt8) : List (List UInt8 × Int)→List (Ln × Int)→Rds
 | [],acc=>.ok acc
 | (s,k) :: r,acc=>if s=[] then gu f r acc else if 912<s.length then .bad k 2 else match iH f s with
   | none=>.bad k 3
   | some L=>gu f r (acc++[(L,k)])
def Nr (s:List UInt8) : List (List UInt8 × Int):=(kR [] [] 1 (bU [] s)).1.zip (kR [] [] 1 (bU [] s)).2
def wH (f:List UInt8→List UInt8) (s:List UInt8) : Rds:=gu f (Nr s) []
theorem Ov (acc:List (List UInt8)) (x:List UInt8) : (glue acc x).length=if acc≠[]∧isSp x=true then acc.length else acc.length + 1:=by
 unfold glue
 split
 ·rename_i h; simp
 ·rename_i h; simp
theorem EI:∀ (xs:List (List UInt8)) (acc:List (List UInt8)) (ns:List Int) (k:Int),acc.length=ns.length→(kR acc ns k xs).1.length=(kR acc ns k xs).2.length
 | [],acc,ns,k,h=>h
 | x :: xs,acc,ns,k,h=>by
   rw[kR]
   refine EI xs _ _ _ ?_
   rw[Ov]
   split <;> simp[h]
theorem Ia:∀ (xs:List (List UInt8)) (acc:List (List UInt8)) (ns:List Int) (k:Int),(kR acc ns k xs).1.length≤acc.length + xs.length
 | [],acc,ns,k=>by simp[kR]
 | x :: xs,acc,ns,k=>by
   rw[kR]
   have:=Ia xs (glue acc x) (if acc≠[]∧isSp x=true then ns else ns++[k]) (IntKind.i64.wrap (k + 1))
   have h:=V8 acc x
   simp only[List.length_cons]
   omega
def vY (B:Base) (f:List UInt8→List UInt8) (c:aj) : Prop:=∀ {M:RM} {s:List UInt8} {Q:ai},M.base=B→s.length≤100000000 →
 (∀ v M' ls,ae [] M M'→wH f s=.ok ls→bE iO M' v ls (fun b=>M.next≤b)→ls.length≤s.length + 1→Q (.tup [v,N .i64 0,N .i64 0]) M') →
 (∀ M' k e,ae [] M M'→wH f s=.bad k e→Q (.tup [aB,N .i64 k,N .i64 e]) M')→c [St s] M Q
theorem Lv {B:Base} {f:List UInt8→List UInt8} {T TI TL:Nat} {cu cr:aj} (hu:EG T TI cu) (hr:Yz B f cr) : vY B f fun args M Q=>∃ a0,args=[a0]∧vM cu cr TL a0 M Q:=by
 intro M s Q hM hl hS hN
 refine⟨_,rfl, ?_⟩
 unfold vM
 simp only[dS,dK]
 refine hu (by omega) fun v u M1 ho1 ho2 hd k1=>?_
 have s1:=ho1.uK
 have s2:=ho2.uK
 have hlen:=EI (bU [] s) [] [] 1 rfl
 have hle:=Ia (bU [] s) [] [] 1
 have hrl:=vN s []
 simp only[List.length_nil,Nat.zero_add] at hle
 unfold wH Nr at hS hN
 generalize (kR [] [] 1 (bU [] s)).1=xs at *
 generalize (kR [] [] 1 (bU [] s)).2=ns at *
 rw[bI,bJ,dQ.len s1]
 refine aP (fun m ys M3=>∃ (i:Nat) (w:AV) (acc:List (Ln × Int)),m=xs.length - i∧ys=[w,N .i64 i]∧i≤xs.length∧acc.length≤i∧ae [] M1 M3 ∧
   fe iO M3 M1.next TL w acc (fun b=>M1.next≤b∧b<M3.next∧b ∉ aC w)∧gu f ((xs.zip ns).drop i) acc=gu f (xs.zip ns) []) _
  ⟨0,aB,[],rfl,rfl,Nat.zero_le _,Nat.le_refl _,ae.refl _ _,.nil,rfl⟩ ?_
 rintro next m ys M3 hnext ⟨i,w,acc,rfl,rfl,hi,hal,hK,ho,hp⟩
 dsimp only[ag]
 rw[mP]
 refine bg (fun hlt=>?_) (fun hge=>?_)
 ·have hlt:i<xs.length:=by simpa using hlt
  have t1:=dQ.keep s1 hK (by simp)
  have t2:=dQ.keep s2 hK (by simp)
  have hz:(xs.zip ns).drop i=(xs[i],ns[i]'(by omega)) :: (xs.zip ns).drop (i + 1):=by
   rw[List.drop_eq_getElem_cons (by simp; omega)]; simp
  rw[hz,gu] at hp
  refine bQ (fun zs M'=>∃ (w' : AV) (acc' : List (Ln × Int)),zs=[w']∧acc'.length≤i + 1∧ae [] M1 M'∧fe iO M' M1.next TL w' acc' (fun b=>M1.next≤b∧b<M'.next∧b ∉ aC w')∧gu f ((xs.zip ns).drop (i + 1)) acc'=gu f (xs.zip ns) []) ?_ ?_
  ·rintro _ M4 ⟨w',acc',rfl,h1,h2,h3,h4⟩
   dsimp only[ag]
   rw[fq,nz (by omega)]
   exact hnext _ _ _ (by omega) ⟨i + 1,w',acc',rfl,rfl,by omega,h1,h2,h3,h4⟩
  ·intro J hJ
   obtain⟨b,o,hb,hbm,hidx,hc⟩:=Sl.Wu (E:=jO) t1 (i:Int) hlt
   have hc:=hc _ rfl
   rw[hidx,eZ]
   refine⟨_,hc, ?_⟩
   rw[gP]
   obtain⟨b2,o2,hb2,hbm2,RL,hc2⟩:=Sl.Wu (E:=INT) t2 (i:Int) (show i<ns.length by omega)
   have hc2:=hc2 _ rfl
   generalize hxi:xs[i]=x at *
   generalize hni:ns[i]'(by omega)=k at *
   refine bg (fun he=>?_) (fun hne=>?_)
   ·have he:x=[]:=by simpa using he
    rw[if_pos he] at hp
    exact hJ _ _ ⟨w,acc,rfl,by omega,hK,ho,hp⟩
   ·have hne:¬ x=[]:=by simpa using hne
    rw[if_neg hne] at hp
    rw[bC,uL]
    refine bg (fun hg=>?_) (fun hg=>?_)
    ·have hg:912<x.length:=by simp at hg; omega
     rw[if_pos hg] at hp
     rw[RL,eZ]
     exact⟨_,hc2,hN M3 k 2 (k1.trans hK) hp.symm⟩
    ·have hg:¬ 912<x.length:=by simp at hg; omega
     rw[if_neg hg] at hp
     have hM3:M3.base=B:=by rw[hK.base,k1.base,hM]
     refine hr hM3 (by omega) ?_ ?_
     ·intro M4 k4 hrd
      rw[hrd] at hp
      rw[bI,bJ,aG,bK (n:=5) (RM.aS _) rfl rfl rfl,bP,Bool.not_false,eU,RL,eZ]
      have kk:ae [] M3 ((M4.push (.row lz false TL 0)).put M4.next (.row lz false TL 0)):=(k4.push _).new _ k4.next
      exact⟨_,(kk.cell hb2 (by simp)).trans hc2,hN _ k 3 ((k1.trans hK).trans kk) hp.symm⟩
     ·intro cs M4 L k4 hrd hrel
      rw[hrd] at hp
      obtain⟨pv,rfl,hpv⟩:=hrel
      simp only at hpv hp
      have abe:([St L.g,St L.n,pv,St L.v,N .i64 0] : List AV).all oneCell=true:=by simp[fF,hpv.one]
      have aaZ:([St L.g,St L.n,pv,St L.v,N .i64 k] : List AV).all oneCell=true:=by simp[fF,hpv.one]
      rw[bI,bJ,aG,bK (n:=5) (x:=.agg [St L.g,St L.n,pv,St L.v,N .i64 0]) (l:=lz) (RM.aS _) rfl rfl abe,bP,Bool.not_true,dI,RL,eZ]
      have k45:ae [] M4 (((M4.push (.row lz false TL 0)).put M4.next (.row [St L.g,St L.n,pv,St L.v,N .i64 0] false TL 0)).put M4.next (.row [St L.g,St L.n,pv,St L.v,N .i64 k] false TL 0)) :=
       (((ae.refl _ _).push _).new _ (Nat.le_refl _)).new _ (Nat.le_refl _)
      have k4' : ae [] M3 ((M4.push (.row lz false TL 0)).put M4.next (.row [St L.g,St L.n,pv,St L.v,N .i64 0] false TL 0)):=(k4.push _).new _ k4.next
      refine⟨_,(k4'.cell hb2 (by simp)).trans hc2, ?_⟩
      rw[bi,bN [St L.g,St L.n,pv,St L.v,N .i64 k] (ay _) (by simp[AV.cells]) rfl rfl rfl,aO (n:=5) (ay _) rfl,kE (x:=.agg [St L.g,St L.n,pv,St L.v,N .i64 k]) (size:=5) rfl aaZ rfl,aG]
      have n5:(((M4.push (.row lz false TL 0)).put M4.next (.row [St L.g,St L.n,pv,St L.v,N .i64 0] false TL 0)).put M4.next (.row [St L.g,St L.n,pv,St L.v,N .i64 k] false TL 0)).next=M4.next + 1:=rfl
      have n4:=k4.next
      have n3:=hK.next
      have hvl:=ho.blk
      let S' : Nat→Prop:=fun b=>M1.next≤b∧b<M4.next + 1∧b ∉ aC w
      have ho5:=(ho.keep (k4.trans k45) (by simp) (by simp)).mono (S':=S') fun b h=>⟨h.1,by omega,h.2.2⟩
      have hel:=(show iO.rel _ _ (L,k) _ from⟨pv,rfl,(hpv.lt.keep k45 (by simp)).mono (S':=S') fun b h=>⟨by omega,by omega,fun hb=>by have:=(hvl b hb).2; omega⟩⟩)
      refine fe.app (R:=iO) ho5 hel (show M1.next≤M4.next + 1 by omega) (by decide) (fun b hb h=>h.2.2 hb) (fun b h=>(show b<M4.next + 1 from h.2.1)) (by omega) (by omega) ?_
      intro w' M6 o6 k6 n6 _ hd6
      have n6:M4.next + 1≤M6.next:=n6
      refine hJ _ _ ⟨w',acc++[(L,k)],rfl,by simp; omega, ?_,o6.mono fun b h=>⟨h.1,by have:=h.2.1; omega,fun hb=>hd6 b hb h⟩,hp⟩
      exact(hK.trans (k4.trans k45)).fI k6 fun c hc=>.inl (hvl c hc).1
 ·have hge:i=xs.length:=by simp at hge; omega
  subst hge
  rw[List.drop_of_length_le (by simp; omega)] at hp
  refine hS w M3 acc (k1.trans hK) hp.symm ((ho.mono (fun b h=>h.1)).Ev (fun b hb _=>hb) |>.mono fun b hb=>Nat.le_trans k1.next hb) (by omega)
def oL (c:UInt8) : Bool:=(decide (97≤c.toNat) && decide (c.toNat≤122)) || (decide (65≤c.toNat) && decide (c.toNat≤90)) || (decide (48≤c.toNat) && decide (c.toNat≤57)) || decide (c.toNat=45)
def wn (s:List UInt8) : Nat:=(s.takeWhile oL).length
theorem ZC (s:List UInt8) : wn s≤s.length:=by
 unfold wn
 induction s with
 | nil=>simp
 | cons c s ih =>
   rw[List.takeWhile_cons]
   split <;> simp <;> omega
def vF (c:UInt8) : Bool:=c != 34 && dz c
def wB (c:UInt8) : Bool:=dz c && c != 34 && c != 44 && c != 59 && c != 58
def Af (s:List UInt8) : Option (List UInt8 × List UInt8) :=
 if aN 34 s then
  (if aN 34 ((s.drop 1).dropWhile vF) then some ((s.drop 1).takeWhile vF,((s.drop 1).dropWhile vF).drop 1) else none)
 else some (s.takeWhile wB,s.dropWhile wB)
def tF:Nat→List UInt8→List (List UInt8)→Option (List (List UInt8) × List UInt8)
 | 0,_,_=>none
 | k + 1,s,acc=>match Af s with
   | none=>none
   | some (v,r)=>if aN 44 r then tF k (r.drop 1) (acc++[v]) else some (acc++[v],r)
theorem pW {α:Type} (p:α→Bool) : ∀ s:List α,s.drop (s.takeWhile p).length=s.dropWhile p∧s.take (s.takeWhile p).length=s.takeWhile p
 | []=>by simp
 | c :: s=>by
   rw[List.takeWhile_cons,List.dropWhile_cons]
   split
   ·have:=pW p s
    simp[this.1,this.2]
   ·simp
def WR (s:List UInt8) : Option (List (List UInt8) × List UInt8):=tF (s.length + 1) s []
def bad (n:Nat) : Bool:=decide (n<1) || decide (20<n)
def zP (n:Nat) (s:List UInt8) : List UInt8:=(s.take n).map bV
def KJ (s:List UInt8) : Option (List UInt8 × List UInt8) :=
 if aN 46 (s.drop (wn s)) then(if bad (wn s) then none else some (zP (wn s) s,s.drop (wn s + 1))) else some ([],s)
def rA:Nat→List UInt8→List gF→Option (List gF × List UInt8)
 | 0,_,_=>none
 | k + 1,s,acc=>if aN 59 s then
     (if bad (wn (s.drop 1)) then none else if aN 61 ((s.drop 1).drop (wn (s.drop 1))) then
      match WR ((s.drop 1).drop (wn (s.drop 1) + 1)) with
      | some (vs,r)=>rA k r (acc++[(zP (wn (s.drop 1)) (s.drop 1),vs)])
      | none=>none
     else none)
   else some (acc,s)
def FU (g s:List UInt8) : Option Ln :=
 if bad (wn s) then none else match rA ((s.drop (wn s)).length + 1) (s.drop (wn s)) [] with
  | none=>none
  | some (ps,r)=>if aN 58 r && (r.drop 1).all dz then some ⟨g,zP (wn s) s,ps,r.drop 1⟩ else none
def SS (s:List UInt8) : Option Ln :=
 if dX s then(match KJ s with
  | none=>none
  | some (g,r)=>FU g r)
 else none
theorem Lg (f:List UInt8→List UInt8) (N:Nat) : ∀ (k:Nat) (s:List UInt8) (acc ps:List gF) (r:List UInt8),s.length≤N→(∀ p∈acc,p.2.length≤N)→kY f k s acc=some (ps,r)→ps.length + r.length≤acc.length + s.length∧∀ p∈ps,p.2.length≤N
 | 0,s,acc,ps,r,_,_,h=>by cases h
 | k + 1,s,acc,ps,r,hN,ha,h=>by
   rw[kY] at h
   split at h
   ·rename_i h59
    have hpos:=aW h59
    split at h
    ·rename_i hc
     simp only[Bool.and_eq_true] at hc
     have h61:=aW hc.2
     generalize hk:((s.drop 1).drop (wk (s.drop 1))).length=kk at h
     cases hv:gH kk ((s.drop 1).drop (wk (s.drop 1))) [] with
     | none=>rw[hv] at h; cases h
     | some p =>
       obtain⟨vs,s3⟩:=p
       rw[hv] at h
       have h2:=rW _ _ _ _ _ h61 hv
       simp at h2
       simp only at h
       have:=Lg f N k s3 _ ps r (by omega) (fun p hp=>by
        rcases List.mem_append.1 hp with hp | hp
        ·exact ha p hp
        ·simp at hp; subst hp; simp; omega) h
       refine⟨?_,this.2⟩
       have h3:=this.1
       simp at h3
       omega
    ·cases h
   ·cases h
    exact⟨Nat.le_refl _,ha⟩
def Small (N:Nat) (L:Ln) : Prop:=L.ps.length≤N∧∀ p∈L.ps,p.2.length≤N
theorem Ou {f:List UInt8→List UInt8} {s:List UInt8} {L:Ln} {N:Nat} (hN:s.length≤N) (h:iH f s=some L) : Small N L:=by
 unfold iH at h
 split at h
 ·cases hh:pE f s with
  | none=>rw[hh] at h; cases h
  | some x =>
    obtain⟨g,n,r⟩:=x
    rw[hh] at h
    simp only[wZ] at h
    have hr:r.length≤N:=by
     unfold pE at hh
     split at hh
     ·split at hh
      ·cases hh; simp; omega
      ·cases hh
     ·cases hh; simp; omega
    unfold ou at h
    cases hp:kY f (r.length + 1) r [] with
    | none=>rw[hp] at h; cases h
    | some y =>
      obtain⟨ps,q⟩:=y
      rw[hp] at h
      simp only at h
      split at h
      ·cases h
       have:=Lg f N _ r [] ps q hr (by simp) hp
       refine⟨?_,this.2⟩
       have h3:=this.1
       simp at h3 ⊢; omega
      ·cases h
 ·cases h
theorem u7 {f:List UInt8→List UInt8} : ∀ (l:List (List UInt8 × Int)) (acc ls:List (Ln × Int)),(∀ x∈acc,Small 912 x.1)→gu f l acc=.ok ls→∀ x∈ls,Small 912 x.1
 | [],acc,ls,ha,h=>by cases h; exact ha
 | (s,k) :: r,acc,ls,ha,h=>by
   rw[gu] at h
   split at h
   ·exact u7 r acc ls ha h
   ·split at h
    ·cases h
    ·cases hr:iH f s with
     | none=>rw[hr] at h; cases h
     | some L =>
       rw[hr] at h
       refine u7 r _ ls (fun x hx=>?_) h
       rcases List.mem_append.1 hx with hx | hx
       ·exact ha x hx
       ·simp at hx; subst hx
        exact Ou (by omega) hr
theorem UU {n b0 b1 b2 b3:Nat} (h0:mo n b0 b1 b2 b3≠0) : (2≤mo n b0 b1 b2 b3→128≤b1)∧(3≤mo n b0 b1 b2 b3→128≤b2)∧(4≤mo n b0 b1 b2 b3→128≤b3):=by
 by_cases r1:b0<128
 ·rw[CP r1]; omega
 by_cases r2:b0<194∨245≤b0
 ·exact absurd (Mr (by omega)) h0
 by_cases r3:b0<224
 ·by_cases g:n<2∨b1<128∨191<b1
  ·exact absurd (LV (by omega) g) h0
  ·rw[VV (by omega) (by omega) (by omega)]; omega
 by_cases r4:b0<240
 ·by_cases g:n<3∨b1<128∨191<b1∨b2<128∨191<b2
  ·exact absurd (Lp (by omega) g) h0
  ·rw[Vs (by omega) (by omega) (by omega) (by omega) rfl]
   split <;> omega
 ·by_cases g:n<4∨b1<128∨191<b1∨b2<128∨191<b2∨b3<128∨191<b3
  ·exact absurd (LP (by omega) g) h0
  ·omega
theorem Xn {s:List UInt8} (h0:rk s≠0) {i:Nat} (h1:1≤i) (hi:i<rk s) : 128≤bt s i:=by
 have hne:s≠[]:=by intro e; subst e; simp[rk] at h0
 have hk:rk s=mo s.length (bt s 0) (bt s 1) (bt s 2) (bt s 3):=by rw[rk,if_neg hne]
 have hl:=(RJ (s:=s)).2
 have:=UU (hk▸h0)
 rw[← hk] at this
 obtain rfl | rfl | rfl:i=1∨i=2∨i=3:=by omega
 ·exact this.1 (by omega)
 ·exact this.2.1 (by omega)
 ·exact this.2.2 (by omega)
theorem MR {c:UInt8} {s:List UInt8} (h:c.toNat<128) : rk (c :: s)=1:=by
 rw[rk,if_neg (by simp)]
 exact CP (by simpa [bt] using h)
theorem wR {c:UInt8} {s:List UInt8} (h:c.toNat<128) : dX (c :: s)=dX s:=by
 rw[qU (by rw[MR h]; omega),MR h]; rfl
theorem Da {c:UInt8} (hc:c.toNat<128) : ∀ (n:Nat) (a b:List UInt8),a.length≤n→dX (a++c :: b)=true→dX a=true∧dX b=true
 | n,[],b,_,h=>⟨qD,by rwa [List.nil_append,wR hc] at h⟩
 | 0,x :: a,b,hl,h=>by simp at hl
 | n + 1,x :: a,b,hl,h=>by
   have hne:(x :: a)++c :: b≠[]:=by simp
   have h0:=WT hne h
   have hle:rk ((x :: a)++c :: b)≤(x :: a).length:=by
    rcases Nat.lt_or_ge (x :: a).length (rk ((x :: a)++c :: b)) with hlt | hge
    ·have:=Xn h0 (i:=(x :: a).length) (by simp) hlt
     have hb:bt ((x :: a)++c :: b) (x :: a).length=c.toNat:=by simp[bt,List.getD_eq_getElem?_getD]
     omega
    ·exact hge
   have hr:=SQ (s:=(x :: a)++c :: b) (t:=(x :: a).drop (rk ((x :: a)++c :: b))) h0
   rw[List.take_append_of_le_length hle,List.take_append_drop] at hr
   have hpos:1≤rk ((x :: a)++c :: b):=by omega
   rw[qU h0,List.drop_append_of_le_length hle] at h
   have:=Da hc n ((x :: a).drop (rk ((x :: a)++c :: b))) b (by rw[List.length_drop]; simp only[List.length_cons] at hl ⊢; omega) h
   refine⟨?_,this.2⟩
   rw[qU (s:=x :: a) (by rw[hr]; exact h0),hr]
   exact this.1
theorem qJ:∀ (a b:List UInt8),(∀ c∈a,c.toNat<128)→dX (a++b)=dX b
 | [],b,_=>rfl
 | c :: a,b,h=>by rw[List.cons_append,wR (h c (by simp)),qJ a b (fun d hd=>h d (by simp[hd]))]
theorem MV (c:UInt8) : cO.contains (bV c)=oL c:=by
 have key:∀ n:Fin 256,cO.contains (bV (UInt8.ofNat n.val))=oL (UInt8.ofNat n.val):=by decide +kernel
 have:=key ⟨c.toNat,c.toNat_lt⟩
 simpa using this
theorem tu:∀ s:List UInt8,((s.map bV).dropWhile (cO.contains ·)).length + wn s=s.length
 | []=>rfl
 | c :: s=>by
   have ih:=tu s
   unfold wn at *
   rw[List.map_cons,List.dropWhile_cons,List.takeWhile_cons,MV c]
   cases oL c with
   | true=>simp only[if_true,List.length_cons]; omega
   | false=>simp only[Bool.false_eq_true,if_false,List.length_cons,List.length_map,List.length_nil]
theorem wL (s:List UInt8) : wk s=wn s:=by
 have:=tu s
 unfold wk; omega
theorem Ps (s:List UInt8) : s.take (wn s)=s.takeWhile oL:=(pW oL s).2
theorem all_takeWhile {α:Type} (p:α→Bool) : ∀ s:List α,∀ x∈s.takeWhile p,p x=true
 | [],x,hx=>by cases hx
 | c :: s,x,hx=>by
   rw[List.takeWhile_cons] at hx
   split at hx
   ·rcases List.mem_cons.1 hx with rfl | hx
    ·assumption
    ·exact all_takeWhile p s x hx
   ·cases hx
theorem Tm {c:UInt8} (h:oL c=true) : c.toNat<128:=by
 simp[oL] at h; omega
theorem yR {α:Type} {p:α→Bool} : ∀ {s:List α},(∀ x∈s,p x=true)→s.dropWhile p=[]
 | [],_=>rfl
 | c :: s,h=>by rw[List.dropWhile_cons,if_pos (h c (by simp))]; exact yR fun x hx=>h x (by simp[hx])
theorem VS (s:List UInt8) : Lib.trimS (bY s) cO=[]:=by
 have h:∀ x∈bY s,cO.contains x=true:=fun x hx=>by
  unfold bY at hx
  rw[wL,Ps] at hx
  obtain⟨y,hy,rfl⟩:=List.mem_map.1 hx
  rw[MV]; exact all_takeWhile oL s y hy
 unfold Lib.trimS Lib.trimRightS Lib.trimLeftS
 rw[yR (s:=(bY s).reverse) fun x hx=>h x (by simpa using hx)]
 rfl
abbrev bF:List UInt8→List UInt8:=fun s=>Lib.trimS s cO
theorem EN (s:List UInt8) : fB bF (bY s)=!bad (wn s):=by
 have hl:(bY s).length=wn s:=by
  unfold bY; rw[wL]; have:=ZC s; simp; omega
 unfold fB bad
 rw[show bF (bY s)=[] from VS s,hl]
 by_cases h1:1≤wn s <;> by_cases h2:wn s≤20 <;> simp[h1,h2] <;> omega
theorem Dc (s:List UInt8) : bY s=zP (wn s) s:=by unfold bY zP; rw[wL]
theorem EK {s:List UInt8} (h:dX s=true) : dX (s.drop (wn s))=true:=by
 have:=qJ (s.take (wn s)) (s.drop (wn s)) (fun c hc=>by rw[Ps] at hc; exact Tm (all_takeWhile oL s c hc))
 rw[List.take_append_drop] at this
 rw[← this]; exact h
theorem El {x:UInt8} {s:List UInt8} (h:aN x s=true) : s=x :: s.drop 1:=by
 cases s with
 | nil=>cases h
 | cons c s=>simp[aN] at h; subst h; rfl
theorem qw {x:UInt8} {s:List UInt8} (hx:x.toNat<128) (h:aN x s=true) (hf:dX s=true) : dX (s.drop 1)=true:=by
 rw[El h,wR hx] at hf; exact hf
theorem fZ {α:Type} {p:α→Bool} : ∀ {a b:List α},(∀ x∈a,p x=true)→(∀ x,b.head?=some x→p x=false)→(a++b).takeWhile p=a∧(a++b).dropWhile p=b
 | [],[],_,_=>⟨rfl,rfl⟩
 | [],y :: b,_,h=>by
   have:=h y rfl
   simp[List.takeWhile_cons,List.dropWhile_cons,this]
 | x :: a,b,h,hb=>by
   have ih:=fZ (a:=a) (b:=b) (fun y hy=>h y (by simp[hy])) hb
   simp[List.takeWhile_cons,List.dropWhile_cons,h x (by simp),ih.1,ih.2]
theorem pg {α:Type} {p:α→Bool} : ∀ {s:List α},(∃ x∈s,p x=false)→∃ a y b,s=a++y :: b∧(∀ x∈a,p x=true)∧p y=false
 | [],⟨x,hx,_⟩=>by cases hx
 | c :: s,⟨x,hx,hp⟩=>by
   cases hc:p c with
   | false=>exact⟨[],c,s,rfl,by simp,hc⟩
   | true =>
     rcases List.mem_cons.1 hx with rfl | hx
     ·rw[hp] at hc; cases hc
     ·obtain⟨a,y,b,rfl,h1,h2⟩:=pg ⟨x,hx,hp⟩
      exact⟨c :: a,y,b,rfl,fun z hz=>by rcases List.mem_cons.1 hz with rfl | hz; exact hc; exact h1 z hz,h2⟩
theorem yU (c:UInt8) : okB [] c=dz c:=by simp[okB]
def Tc (r:List UInt8) : Prop:=aN 44 r=false∧aN 59 r=false∧aN 58 r=false
theorem Em {c:UInt8} {r:List UInt8} (h:c≠44∧c≠59∧c≠58) : Tc (c :: r):=by
 refine⟨?_, ?_, ?_⟩ <;> simp[aN,h]
theorem Nj (s:List UInt8) : (Lib.indexAny s iN=-1∧∀ x∈s,x ∉ iN)∨∃ a c b,s=a++c :: b∧Lib.indexAny s iN=(a.length:Int)∧c∈iN∧∀ x∈a,x ∉ iN:=by
 induction s with
 | nil=>exact .inl ⟨rfl,by simp⟩
 | cons d s ih =>
   rw[Lib.indexAny]
   by_cases hd:d∈iN
   ·have:iN.contains d=true:=by simpa using hd
    exact .inr ⟨[],d,s,rfl,by rw[if_pos this]; rfl,hd,by simp⟩
   ·have:¬ iN.contains d=true:=by simpa using hd
    rw[if_neg this]
    rcases ih with⟨h1,h2⟩ | ⟨a,c,b,rfl,h1,h2,h3⟩
    ·exact .inl ⟨by rw[h1]; rfl,fun x hx=>by rcases List.mem_cons.1 hx with rfl | hx; exact hd; exact h2 x hx⟩
    ·refine .inr ⟨d :: a,c,b,rfl, ?_,h2,fun x hx=>by rcases List.mem_cons.1 hx with rfl | hx; exact hd; exact h3 x hx⟩
     rw[h1]
     have:((a.length:Int) == -1)=false:=by simp
     rw[this]; simp
theorem Sd {c:UInt8} (h:c∈iN) : c.toNat<128:=by
 simp[iN] at h
 rcases h with rfl | rfl | rfl <;> decide
theorem GY {c:UInt8} (h:c∈iN) : dz c=true∧c≠34∧wB c=false:=by
 simp[iN] at h
 rcases h with rfl | rfl | rfl <;> decide
theorem VD {t:List UInt8} (hf:dX t=true) :
  ((iD t).2.2=true→Af t=some ((iD t).1,(iD t).2.1)∧dX (iD t).2.1=true) ∧
  ((iD t).2.2=false→Af t=none∨∃ w r,Af t=some (w,r)∧Tc r):=by
 unfold iD Af
 cases h34:aN 34 t with
 | true =>
   have ht:=El h34
   have hf1:=qw (x:=34) (by decide) h34 hf
   generalize t.drop 1=t1 at *
   simp only[if_true]
   rcases qp 34 t1 with⟨h1,_,hn⟩ | ⟨a,b,h1,_,h3,hn⟩
   ·rw[h1]
    refine⟨fun h=>(by cases h),fun _=>.inl ?_⟩
    have:aN 34 (t1.dropWhile vF)=false:=by
     cases hd:t1.dropWhile vF with
     | nil=>rfl
     | cons c r =>
       have hm:c∈t1:=(List.dropWhile_suffix vF).subset (by rw[hd]; simp)
       have:c≠34:=fun e=>hn (e▸hm)
       simpa [aN] using this
    rw[this]; rfl
   ·rw[h1]
    simp only
    rw[h3] at hf1
    have hsp:=Da (c:=34) (by decide) a.length a b (Nat.le_refl _) hf1
    by_cases hp:a.all dz=true
    ·have hq:∀ x∈a,vF x=true:=fun x hx=>by
      have h5:=List.all_eq_true.1 hp x hx
      have h6:x≠34:=fun e=>hn (e▸hx)
      simp[vF,h5,h6]
     have:=fZ (p:=vF) (a:=a) (b:=34 :: b) hq (fun x hx=>by simp at hx; subst hx; decide)
     rw[h3,this.1,this.2]
     refine⟨fun _=>⟨by simp[aN],hsp.2⟩,fun h=>?_⟩
     have:gm [] a=true:=by
      unfold gm
      rw[hsp.1,Bool.and_true,List.all_eq_true]
      intro x hx
      rw[yU]; exact List.all_eq_true.1 hp x hx
     rw[this] at h; cases h
    ·have hp:∃ x∈a,dz x=false:=by simpa using hp
     obtain⟨a1,y,a2,rfl,h5,h6⟩:=pg hp
     have hq:∀ x∈a1,vF x=true:=fun x hx=>by
      have h8:x≠34:=fun e=>hn (by subst e; simp[hx])
      simp[vF,h5 x hx,h8]
     have hy:y≠34:=fun e=>hn (by subst e; simp)
     have:=fZ (p:=vF) (a:=a1) (b:=y :: (a2++34 :: b)) hq (fun x hx=>by simp at hx; subst hx; simp[vF,h6])
     have he:t1=a1++y :: (a2++34 :: b):=by rw[h3]; simp
     rw[he,this.1,this.2]
     refine⟨fun h=>?_,fun _=>.inl (by simp[aN,hy])⟩
     have:gm [] (a1++y :: a2)=false:=by
      unfold gm
      have:(a1++y :: a2).all (okB [])=false:=by rw[List.all_eq_false]; exact⟨y,by simp,by rw[yU]; simp[h6]⟩
      rw[this]; rfl
     rw[this] at h; cases h
 | false =>
   simp only[Bool.false_eq_true,if_false]
   rcases Nj t with⟨h1,h2⟩ | ⟨a,c,b,rfl,h1,h2,h3⟩
   ·rw[h1]
    refine⟨fun h=>(by cases h),fun _=>.inr ⟨_,_,rfl, ?_⟩⟩
    cases hd:t.dropWhile wB with
    | nil=>exact⟨rfl,rfl,rfl⟩
    | cons d r =>
      have hm:d∈t:=(List.dropWhile_suffix wB).subset (by rw[hd]; simp)
      have:=h2 d hm
      simp[iN] at this
      exact Em ⟨this.1,this.2.1,this.2.2⟩
   ·rw[h1,if_neg (by omega),Int.toNat_natCast]
    have ht1:(a++c :: b).take a.length=a:=by simp
    have ht2:(a++c :: b).drop a.length=c :: b:=by simp
    rw[ht1,ht2]
    have hca:=Sd h2
    have hsp:=Da hca a.length a b (Nat.le_refl _) hf
    by_cases hp:a.all (okB [34])=true
    ·have hq:∀ x∈a,wB x=true:=fun x hx=>by
      have h5:=List.all_eq_true.1 hp x hx
      have h6:=h3 x hx
      simp[okB] at h5
      simp[iN] at h6
      simp[wB,h5,h6]
     have:=fZ (p:=wB) (a:=a) (b:=c :: b) hq (fun x hx=>by simp at hx; subst hx; exact(GY h2).2.2)
     refine⟨fun _=>⟨by rw[this.1,this.2],by rw[wR hca]; exact hsp.2⟩,fun h=>?_⟩
     have:gm [34] a=true:=by unfold gm; rw[hsp.1,hp]; rfl
     rw[this] at h; cases h
    ·have hp:∃ x∈a,okB [34] x=false:=by simpa using hp
     obtain⟨a1,y,a2,rfl,h5,h6⟩:=pg hp
     have hyn:=h3 y (by simp)
     have hbad:wB y=false:=by
      simp[okB] at h6
      by_cases hpl:dz y=true
      ·have:=h6 hpl
       subst this; decide
      ·simp[wB,hpl]
     have hq:∀ x∈a1,wB x=true:=fun x hx=>by
      have h7:=h5 x hx
      have h8:=h3 x (by simp[hx])
      simp[okB] at h7
      simp[iN] at h8
      simp[wB,h7,h8]
     have:=fZ (p:=wB) (a:=a1) (b:=y :: (a2++c :: b)) hq (fun x hx=>by simp at hx; subst hx; exact hbad)
     have he:(a1++y :: a2)++c :: b=a1++y :: (a2++c :: b):=by simp
     refine⟨fun h=>?_,fun _=>.inr ⟨_,_,rfl, ?_⟩⟩
     ·have:gm [34] (a1++y :: a2)=false:=by
       unfold gm
       have:(a1++y :: a2).all (okB [34])=false:=by rw[List.all_eq_false]; exact⟨y,by simp,by simp[h6]⟩
       rw[this]; rfl
      rw[this] at h; cases h
     ·rw[he,this.2]
      simp[iN] at hyn
      exact Em ⟨hyn.1,hyn.2.1,hyn.2.2⟩
theorem O3:∀ (n:Nat) (s:List UInt8) (acc:List (List UInt8)) (k k' : Nat),s.length≤n→1≤s.length→s.length≤k→s.length≤k'→dX (s.drop 1)=true →
  (∀ vs r,gH k s acc=some (vs,r)→tF k' (s.drop 1) acc=some (vs,r)∧dX r=true) ∧
  (gH k s acc=none→tF k' (s.drop 1) acc=none∨∃ vs r,tF k' (s.drop 1) acc=some (vs,r)∧aN 59 r=false∧aN 58 r=false)
 | 0,s,acc,k,k',h1,h2,_,_,_=>by omega
 | n + 1,s,acc,k,k',h1,h2,h3,h4,hf=>by
   obtain⟨i,rfl⟩ : ∃ i,k=i + 1:=⟨k - 1,by omega⟩
   obtain⟨j,rfl⟩ : ∃ j,k'=j + 1:=⟨k' - 1,by omega⟩
   rw[gH,tF]
   have hv:=VD hf
   have hlen:=uW (s.drop 1)
   generalize iD (s.drop 1)=x at *
   obtain⟨v,after,ok⟩:=x
   simp only[List.length_drop] at hv hlen ⊢
   cases ok with
   | true =>
     obtain⟨hs,hfa⟩:=hv.1 rfl
     rw[hs]
     simp only[if_true]
     cases h44:aN 44 after with
     | true =>
       simp only[if_true]
       have hp:=aW h44
       exact O3 n after (acc++[v]) i j (by omega) hp (by omega) (by omega) (qw (x:=44) (by decide) h44 hfa)
     | false =>
       simp only[Bool.false_eq_true,if_false]
       refine⟨fun vs r h=>?_,fun h=>by cases h⟩
       cases h
       exact⟨rfl,hfa⟩
   | false =>
     simp only[Bool.false_eq_true,if_false]
     refine⟨fun vs r h=>(by cases h),fun _=>?_⟩
     rcases hv.2 rfl with h | ⟨w,r,h,hm⟩
     ·rw[h]; exact .inl rfl
     ·rw[h]
      simp only[hm.1,Bool.false_eq_true,if_false]
      exact .inr ⟨_,_,rfl,hm.2.1,hm.2.2⟩
theorem O7:∀ (n:Nat) (s:List UInt8) (acc:List gF) (k k' : Nat),s.length≤n→s.length + 1≤k→s.length + 1≤k'→dX s=true →
  (∀ ps r,kY bF k s acc=some (ps,r)→rA k' s acc=some (ps,r)∧dX r=true) ∧
  (kY bF k s acc=none→rA k' s acc=none∨∃ ps r,rA k' s acc=some (ps,r)∧aN 58 r=false)
 | n,s,acc,k,k',h1,h3,h4,hf=>by
   obtain⟨i,rfl⟩ : ∃ i,k=i + 1:=⟨k - 1,by omega⟩
   obtain⟨j,rfl⟩ : ∃ j,k'=j + 1:=⟨k' - 1,by omega⟩
   rw[kY,rA]
   cases h59:aN 59 s with
   | false =>
     simp only[Bool.false_eq_true,if_false]
     refine⟨fun ps r h=>?_,fun h=>by cases h⟩
     cases h; exact⟨rfl,hf⟩
   | true =>
     simp only[if_true]
     have hp:=aW h59
     have hf1:=qw (x:=59) (by decide) h59 hf
     have hul:(s.drop 1).length + 1=s.length:=by simp; omega
     generalize s.drop 1=u at *
     rw[show(u.take (wk u)).map bV=bY u from rfl,EN,Dc,wL]
     cases hb:bad (wn u) with
     | true =>
       simp only[Bool.not_true,Bool.false_and,Bool.false_eq_true,if_false,if_true]
       exact⟨fun ps r h=>(by cases h),fun _=>.inl (by simp)⟩
     | false =>
       simp only[Bool.not_false,Bool.true_and,Bool.false_eq_true,if_false]
       have hf2:=EK hf1
       cases h61:aN 61 (u.drop (wn u)) with
       | false =>
         simp only[Bool.false_eq_true,if_false]
         exact⟨fun ps r h=>(by cases h),fun _=>.inl (by simp)⟩
       | true =>
         simp only[if_true]
         have hp2:=aW h61
         have hf3:=qw (x:=61) (by decide) h61 hf2
         have hq:=O3 (u.drop (wn u)).length (u.drop (wn u)) [] (u.drop (wn u)).length ((u.drop (wn u + 1)).length + 1) (Nat.le_refl _) hp2 (Nat.le_refl _) (by simp at hp2 ⊢; omega) hf3
         rw[List.drop_drop] at hq
         unfold WR
         have hlen:=rW (u.drop (wn u)).length (u.drop (wn u)) []
         cases hv:gH (u.drop (wn u)).length (u.drop (wn u)) [] with
         | none =>
           simp only
           refine⟨fun ps r h=>(by cases h),fun _=>?_⟩
           rcases hq.2 hv with h | ⟨vs,r,h,h5,h6⟩
           ·rw[h]; exact .inl rfl
           ·rw[h]
            simp only
            right
            have hr1:1≤j:=by omega
            obtain⟨j',rfl⟩ : ∃ j',j=j' + 1:=⟨j - 1,by omega⟩
            rw[rA]
            simp only[h5,Bool.false_eq_true,if_false]
            exact⟨_,_,rfl,h6⟩
         | some p =>
           obtain⟨vs,r⟩:=p
           obtain⟨h5,h6⟩:=hq.1 vs r hv
           rw[h5]
           simp only
           have h7:=hlen vs r hp2 hv
           simp at h7
           cases n with
           | zero=>omega
           | succ n=>exact O7 n r _ i j (by omega) (by omega) (by omega) h6
theorem O1 {g r:List UInt8} (hf:dX r=true) : wZ bF g (bY r) (r.drop (wk r))=FU g r:=by
 unfold wZ FU
 rw[EN,Dc,wL]
 have hf1:=EK hf
 have hq:=O7 (r.drop (wn r)).length (r.drop (wn r)) [] ((r.drop (wn r)).length + 1) ((r.drop (wn r)).length + 1) (Nat.le_refl _) (Nat.le_refl _) (Nat.le_refl _) hf1
 unfold ou
 cases hp:kY bF ((r.drop (wn r)).length + 1) (r.drop (wn r)) [] with
 | none =>
   simp only
   rcases hq.2 hp with h | ⟨ps,q,h,h2⟩
   ·rw[h]; simp
   ·rw[h]; simp[h2]
 | some x =>
   obtain⟨ps,q⟩:=x
   obtain⟨h1,h2⟩:=hq.1 ps q hp
   rw[h1]
   simp only
   cases hb:bad (wn r) with
   | true=>simp
   | false =>
     simp only[Bool.not_false,Bool.true_and,Bool.false_eq_true,if_false]
     cases h58:aN 58 q with
     | false=>simp
     | true =>
       have hf2:=qw (x:=58) (by decide) h58 h2
       have:gm [] (q.drop 1)=(q.drop 1).all dz:=by
        unfold gm
        rw[hf2,Bool.and_true]
        congr 1
        funext c
        exact yU c
       rw[this]
theorem Iq (s:List UInt8) : iH bF s=SS s:=by
 unfold iH SS
 cases hf:dX s with
 | false=>simp
 | true =>
   simp only[if_true]
   unfold pE KJ
   rw[wL]
   cases h46:aN 46 (s.drop (wn s)) with
   | false =>
     simp only[Bool.false_eq_true,if_false]
     rw[← wL s]
     exact O1 hf
   | true =>
     simp only[if_true]
     rw[EN]
     cases hb:bad (wn s) with
     | true=>simp
     | false =>
       simp only[Bool.not_false,if_true,Bool.false_eq_true,if_false]
       rw[Dc s,List.drop_drop]
       refine O1 ?_
       have:=qw (x:=46) (by decide) h46 (EK hf)
       rwa [List.drop_drop] at this
end Go.Ab.Vl
namespace Go.Ab.Vl
open Go Go.Ab Go.Ab.Sm
def fT (c:UInt8) : UInt8:=if 97≤c.toNat∧c.toNat≤122 then UInt8.ofNat (c.toNat - 32) else c
def Mj (c:aj) : Prop:=∀ {M:RM} {s:List UInt8} {Q:ai},s.length≤1000000000→(∀ M',ae [] M M'→Q (St (s.map fT)) M')→c [St s] M Q
section
variable {f:UInt8→UInt8} {s:List UInt8} {i:Nat}
theorem map_set (hi:i<s.length) (x:UInt8) : ((s.take i).map f++s.drop i).set i x=(s.take i).map f++x :: s.drop (i + 1):=by
 have hl:((s.take i).map f).length=i:=by simp; omega
 rw[List.drop_eq_getElem_cons hi,List.set_append_right _ _ (by omega),hl,Nat.sub_self,List.set_cons_zero]
theorem map_take (hi:i<s.length) : (s.take (i + 1)).map f++s.drop (i + 1)=(s.take i).map f++f s[i] :: s.drop (i + 1):=by
 rw[List.take_succ_eq_append_getElem hi,List.map_append,List.append_assoc]
 rfl
theorem Xp (hi:i<s.length) (h:i<((s.take i).map f++s.drop i).length) : ((s.take i).map f++s.drop i)[i]=s[i]:=by
 have hl:((s.take i).map f).length=i:=by simp; omega
 rw[List.getElem_append_right (by omega)]
 simp only[hl,Nat.sub_self,List.getElem_drop,Nat.add_zero]
end
theorem Xw {c:UInt8} (h:¬ (97≤c.toNat∧c.toNat≤122)) : fT c=c:=if_neg h
theorem YZ {c:UInt8} (h:97≤c.toNat∧c.toNat≤122) : (fT c).toNat=c.toNat - 32:=by
 have:=Kz c
 unfold fT
 rw[if_pos h,Uk,Nat.mod_eq_of_lt (by omega)]
theorem Q8 {T8:Nat} : Mj fun args M Q=>∃ a0,args=[a0]∧sV T8 a0 M Q:=by
 intro M s Q hl hQ
 refine⟨_,rfl, ?_⟩
 unfold sV
 simp only[dS,dK]
 rw[sw,aG,vU]
 have k1:ae [] M (M.push (.row (BY.row s) true T8 0)):=(ae.refl _ _).push _
 have o1:Ow BY (M.push (.row (BY.row s) true T8 0)) 0 T8 (.slc M.next 0 s.length (.op 1)) s:=.op M.next s.length _ (Nat.zero_le _) (by rw[bH]; omega) (RM.aS _) (BY.fQ _)
 generalize M.push (.row (BY.row s) true T8 0)=M1 at *
 refine aP (fun m ys M3=>∃ i:Nat,m=s.length - i∧ys=[N .i64 (i:Int)]∧i≤s.length∧Ow BY M3 0 T8 (.slc M.next 0 s.length (.op 1)) ((s.take i).map fT++s.drop i)∧ae [] M M3) s.length
  ⟨0,rfl,rfl,Nat.zero_le _,by simpa using o1,k1⟩ ?_
 rintro next m ys M3 hnext ⟨i,rfl,rfl,hi,o3,k3⟩
 dsimp only[ag]
 rw[jQ]
 refine bg (fun hlt=>?_) (fun hge=>?_)
 ·have hlt:i<s.length:=of_decide_eq_true hlt
  have hlen:i<((s.take i).map fT++s.drop i).length:=by simp; omega
  obtain⟨b,hbk,hbl,hix,hld,hst⟩:=U1 (E:=BY) rfl o3 hlen
  rw[Xp hlt hlen] at hld
  have hbe:M.next=b:=by simpa [aC] using hbk
  refine bQ (fun _ M'=>Ow BY M' 0 T8 (.slc M.next 0 s.length (.op 1)) ((s.take (i + 1)).map fT++s.drop (i + 1))∧ae [] M M') ?_ ?_
  ·rintro xs M4 ⟨o4,k4⟩
   rw[add1 (by omega)]
   exact hnext _ _ _ (by omega) ⟨i + 1,rfl,rfl,by omega,o4,k4⟩
  intro J hJ
  have cb:=Kz s[i]
  have same:¬ (97≤s[i].toNat∧s[i].toNat≤122)→J [] M3:=fun h=>hJ _ _ ⟨by rw[map_take hlt,Xw h,← List.drop_eq_getElem_cons hlt]; exact o3,k3⟩
  rw[hix,hld (By s[i]) rfl,By,fK]
  refine wN (p:=decide ((s[i].toNat:Int)≤122)) (fun _ k hk=>by rw[oJ]; exact hk) ?_
  refine bg (fun hc=>?_) (fun hc=>same ?_)
  ·rw[Bool.and_eq_true,decide_eq_true_eq,decide_eq_true_eq] at hc
   have h:97≤s[i].toNat∧s[i].toNat≤122:=by omega
   obtain⟨M4,o4,e4,hs4⟩:=hst (fT s[i]) (By (fT s[i])) rfl rfl
   have wv:N IntKind.u8 (IntKind.u8.wrap (IntKind.u8.wrap ((s[i].toNat:Int) + 65) - 97))=By (fT s[i]):=by
    rw[By,YZ h]
    rw[show IntKind.u8.wrap ((s[i].toNat:Int) + 65)=(s[i].toNat:Int) + 65 from tJ (by omega) (by omega)]
    rw[tJ (by omega) (by omega)]
    congr 1; omega
   rw[fq,mM,hix,wv,hs4]
   refine hJ _ _ ⟨?_, ?_⟩
   ·rw[map_take hlt,← map_set hlt]; exact o4
   ·rw[e4]; exact k3.put _ (.inl (by omega))
  ·rw[Bool.and_eq_false_iff,decide_eq_false_iff_not,decide_eq_false_iff_not] at hc
   omega
 ·have he:i=s.length:=by
   have:¬ i<s.length:=of_decide_eq_false hge
   omega
  subst he
  rw[List.take_length,List.drop_length,List.append_nil] at o3
  rw[Sl.str (Own.uK o3)]
  exact hQ M3 k3
def Cn (s:List UInt8) : Bool:=s.any fun c=>decide (c∈iN)
def Vo (B:Base) (c:aj) : Prop:=∀ {M:RM} {s:List UInt8} {Q:ai},M.base=B→s.length≤1000000000→(∀ M',ae [] M M'→Q (Bo (Cn s)) M')→c [St s,St iN] M Q
theorem V6 {B:Base} {ci:aj} (hi:mO iN B ci) : Vo B fun args M Q=>∃ a0 a1,args=[a0,a1]∧gz ci a0 a1 M Q:=by
 intro M s Q hM hl hQ
 refine⟨_,_,rfl, ?_⟩
 unfold gz
 refine hi hM hl fun M' k=>?_
 have hQ:=hQ M' k
 rw[fK]
 rcases Nj s with⟨e,h⟩ | ⟨a,c,b,e1,e2,h1,h2⟩
 ·have:Cn s=false:=by
   unfold Cn
   rw[List.any_eq_false]
   intro x hx
   simpa using h x hx
  rw[this] at hQ
  rw[e]; exact hQ
 ·have:Cn s=true:=by
   unfold Cn
   rw[List.any_eq_true]
   exact⟨c,by rw[e1]; simp,by simpa using h1⟩
  rw[this] at hQ
  rw[e2,show decide ((a.length:Int) ≥ 0)=true from decide_eq_true (by omega)]; exact hQ
structure DV (n0 b:Nat) (M M' : RM) : Prop where
 base:M'.base=M.base
 next:M.next≤M'.next
 heap:∀ c,c<n0→c≠b→M'.heap c=M.heap c
 shut:∀ c l e f,c<M.next→c≠b→M.heap c=some (.row l false e f)→M'.heap c=some (.row l false e f)
theorem jP.buf {TB T8 n0 b:Nat} {M:RM} {xs:List UInt8} {buf:AV} (hB:jP TB T8 n0 M b xs) (ho:Ow BY M n0 T8 buf xs) (he:xs=[]→buf=aB) : ∀ c∈aC buf,∀ l e f,M.heap c≠some (.row l false e f):=by
 intro c hc l e f hh
 by_cases hx:xs=[]
 ·rw[he hx] at hc; simp[aC] at hc
 ·obtain⟨d,rfl,_,h3⟩:=TY (Own.mono ho (Nat.zero_le _)) (List.length_pos_iff.2 hx)
  simp only[aC,List.mem_singleton] at hc
  subst hc
  rw[h3] at hh
  cases hh
theorem jP.keep {TB T8 n0 b:Nat} {M M' : RM} {xs:List UInt8} (hB:jP TB T8 n0 M b xs) (hk:ae [] M M') : jP TB T8 n0 M' b xs:=by
 obtain⟨addr,buf,hh,ha,ho,he⟩:=hB.row
 have:=hB.hn
 have:=hB.lt
 exact⟨hB.lt,Nat.le_trans hB.hn hk.next,addr,buf,hk.ax hh (by omega) (by simp),ha,Own.keep ho hk (by simp),he⟩
theorem DV.keep {n0 b:Nat} {M0 M M' : RM} (h0:ae [] M0 M) (h:DV n0 b M M') (hn:M0.next≤n0) (hb:M0.next≤b) : ae [] M0 M' :=
 ⟨h.base.trans h0.base,Nat.le_trans h0.next h.next,fun c h1 _=>(h.heap c (by omega) (by omega)).trans (h0.heap c h1 (by simp))⟩
def AA (TB T8:Nat) (c:aj) : Prop:=∀ {n0:Nat} {M:RM} {b:Nat} {xs:List UInt8} {x:UInt8} {Q:ai},jP TB T8 n0 M b xs→xs.length + 1≤140737488355328 →
 (∀ M',jP TB T8 n0 M' b (xs++[x])→DV n0 b M M'→Q (.sc .nilIface) M')→c [.ptr b 0,By x] M Q
theorem Gu {TB T8:Nat} {c:aj} (hc:yS TB c) : AA TB T8 fun args M Q=>∃ a0 a1,args=[a0,a1]∧dY c T8 a0 a1 M Q:=by
 intro n0 M b xs x Q hB hl hQ
 obtain⟨addr,buf,hh,ha,ho,he⟩:=hB.row
 refine⟨_,_,rfl, ?_⟩
 unfold dY
 refine hc hh ha ho.one fun M1 h1 hnx hbs hot=>?_
 have hbuf:=hB.buf ho he
 have hlt:=hB.lt
 have hn:=hB.hn
 have ho1:Ow BY M1 n0 T8 buf xs:=Own.same ho hnx (fun c hc=>hot c (by have:=ho.blk c hc; omega)) hbs
 simp only[go_sem,RM.cell_of h1]
 rw[kE (x:=By x) (size:=1) rfl rfl rfl]
 simp only[aG]
 refine oW (E:=BY) (a:=x) ho1 (by omega) (Nat.le_refl _) (by omega) hl fun v' M2 h2 k2 hnx2 hv=>?_
 have hb2:b ∉ aC buf:=fun hm=>by have:=ho.blk b hm; omega
 have hh2:=k2.ax h1 (by omega) hb2
 simp only[go_sem,RM.jW hh2]
 rw[Own.cells h2,gM (by simp) (by simp) (by simp[Own.one h2])]
 simp only[go_sem]
 have hne:∀ c∈aC v',c≠b:=fun c hm=>by have:=h2.blk c hm; omega
 refine hQ _ ⟨hlt,by show n0≤M2.next; omega,.ptr b 0,v',RM.kI _ _,.inr rfl,Own.same h2 rfl (fun c hm=>by simp[go_sem,hne c hm]) rfl,by simp⟩ ⟨?_, ?_,fun c h3 h4=>?_,fun c l e f h3 h4 h5=>?_⟩
 ·exact k2.base.trans hbs
 ·show M.next≤M2.next
  omega
 ·simp only[go_sem,if_neg h4]
  rw[k2.heap c (by omega) (fun hm=>by have:=ho.blk c hm; omega),hot c h4]
 ·simp only[go_sem,if_neg h4]
  rw[k2.heap c (by omega) (fun hm=>hbuf c hm l e f h5),hot c h4,h5]
def vG (TB T8:Nat) (c:aj) : Prop:=∀ {n0:Nat} {M:RM} {b:Nat} {xs s:List UInt8} {Q:ai},jP TB T8 n0 M b xs→xs.length + s.length≤140737488355328 →
 (∀ M',jP TB T8 n0 M' b (xs++s)→DV n0 b M M'→Q (.tup [N .i64 s.length,.sc .nilIface]) M')→c [.ptr b 0,St s] M Q
theorem D9 {TB T8:Nat} {c:aj} (hc:yS TB c) : vG TB T8 fun args M Q=>∃ a0 a1,args=[a0,a1]∧dP c T8 a0 a1 M Q:=by
 intro n0 M b xs s Q hB hl hQ
 obtain⟨addr,buf,hh,ha,ho,he⟩:=hB.row
 refine⟨_,_,rfl, ?_⟩
 unfold dP
 refine hc hh ha ho.one fun M1 h1 hnx hbs hot=>?_
 have hbuf:=hB.buf ho he
 have hlt:=hB.lt
 have hn:=hB.hn
 have ho1:Ow BY M1 n0 T8 buf xs:=Own.same ho hnx (fun c hc=>hot c (by have:=ho.blk c hc; omega)) hbs
 simp only[go_sem,RM.cell_of h1]
 have hnew:nR M1 1 [N .u8 0] false (St s)=some (s.length,BY.row s):=by
  simp only[nR,rQ,if_true]
 by_cases hne0:xs++s=[]
 ·obtain⟨rfl,rfl⟩:=List.append_eq_nil_iff.1 hne0
  have hb0:=he rfl
  subst hb0
  refine⟨0,[],hnew,by omega,by omega,aB,M1,by simp[tq], ?_⟩
  simp only[go_sem,RM.jW h1]
  rw[gM (by simp) (by simp) (by simp[oneCell])]
  simp only[go_sem]
  refine hQ _ ⟨hlt,by show n0≤M1.next; omega,.ptr b 0,aB,by simp[go_sem],.inr rfl,.nil,fun _=>rfl⟩ ⟨hbs,by show M.next≤M1.next; omega,fun c h3 h4=>?_,fun c l e f h3 h4 h5=>?_⟩
  ·simp only[go_sem,if_neg h4]
   exact hot c h4
  ·simp only[go_sem,if_neg h4]
   rw[hot c h4,h5]
 refine DN ho1 (by omega) (Nat.le_refl _) hnew (by rw[BY.fQ]; rfl) (BY.lD s) (by omega) (by omega) fun v' M2 h2 k2 hnx2 hv=>?_
 rw[← BY.tK] at h2
 have h2:Ow BY M2 n0 T8 v' (xs++s):=by
  show Own M2 n0 T8 1 v' (BY.row (xs++s)) (xs++s).length
  rw[List.length_append]; exact h2
 have hb2:b ∉ aC buf:=fun hm=>by have:=ho.blk b hm; omega
 have hh2:=k2.ax h1 (by omega) hb2
 simp only[go_sem,RM.jW hh2]
 rw[Own.cells h2,gM (by simp) (by simp) (by simp[Own.one h2])]
 simp only[go_sem]
 have hne:∀ c∈aC v',c≠b:=fun c hm=>by have:=h2.blk c hm; omega
 refine hQ _ ⟨hlt,by show n0≤M2.next; omega,.ptr b 0,v',RM.kI _ _,.inr rfl,Own.same h2 rfl (fun c hm=>by simp[go_sem,hne c hm]) rfl,fun e=>absurd e hne0⟩ ⟨?_, ?_,fun c h3 h4=>?_,fun c l e f h3 h4 h5=>?_⟩
 ·exact k2.base.trans hbs
 ·show M.next≤M2.next
  omega
 ·simp only[go_sem,if_neg h4]
  rw[k2.heap c (by omega) (fun hm=>by have:=ho.blk c hm; omega),hot c h4]
 ·simp only[go_sem,if_neg h4]
  rw[k2.heap c (by omega) (fun hm=>hbuf c hm l e f h5),hot c h4,h5]
def jk (v:List UInt8) : Bool:=!gm [34] v
def jK (f:List UInt8→List UInt8) (p:gF) : Bool:=!(!fB f p.1 || decide (p.2.length=0) || p.2.any jk)
def ig (f:List UInt8→List UInt8) (L:Ln) : Bool:=!((L.g != []) && !fB f L.g || !fB f L.n || !gm [] L.v) && L.ps.all (jK f)
structure LB (N:Nat) (L:Ln) : Prop where
 g:L.g.length≤N
 n:L.n.length≤N
 v:L.v.length≤N
 ps:L.ps.length≤N
 pn:∀ p∈L.ps,p.1.length≤N
 pl:∀ p∈L.ps,p.2.length≤N
 pv:∀ p∈L.ps,∀ v∈p.2,v.length≤N
theorem Ij {M:RM} {v:AV} {ps:List gF} {S:Nat→Prop} (h:bE jl M v ps S) {i:Nat} (hi:i<ps.length) : ∃ pv,bE jO.ko M pv ps[i].2 S∧∀ K:AV→Prop,(aX v (N .i64 (i:Int)) 2 fun p=>aH M p 2 K)=K (.agg [St ps[i].1,pv]):=by
 obtain⟨b,o,cs,hb,hbm,hidx,hld,hrel⟩:=bE.at h 2 (i:Int) hi
 obtain⟨ds,rfl,pv,rfl,hpv⟩:=hrel
 refine⟨pv,hpv,fun K=>?_⟩
 rw[hidx,rO,hld]
 exact propext ⟨fun⟨_,e,hk⟩=>by cases e; exact hk,fun hk=>⟨_,rfl,hk⟩⟩
theorem Mi {M:RM} {v:AV} {xs:List (List UInt8)} (h:Sl jO M v xs) {i:Nat} (hi:i<xs.length) {K:AV→Prop} : (aX v (N .i64 (i:Int)) 1 fun p=>ak M p K)=K (St xs[i]):=by
 obtain⟨b,o,_,_,hidx,hc⟩:=Sl.Wu (E:=jO) h (i:Int) hi
 rw[hidx,eZ,hc _ rfl]
 simp
section
variable {B:Base}
def Wj (B:Base) (c:aj) : Prop:=∀ {M:RM} {s:List UInt8} {Q:ai},M.base=B→s.length≤1000000000→(∀ M',ae [] M M'→Q (Bo (jk s)) M')→c [St s] M Q
theorem P6 {cv:aj} (hv:nI B cv) : Wj B fun args M Q=>∃ a0,args=[a0]∧qX cv a0 M Q:=by
 intro M s Q hM hl hQ
 refine⟨_,rfl, ?_⟩
 unfold qX
 refine hv hM hl fun M' k=>?_
 rw[bP]
 exact hQ M' k
def Jd (B:Base) (n:Nat) (c:aj) : Prop:=∀ {M:RM} {v:AV} {xs:List (List UInt8)} {Q:ai},M.base=B→Sl jO M v xs→xs.length≤1000000000→(∀ x∈xs,x.length≤1000000000)→(∀ M',ae [] M M'→Q (Bo (xs.any jk)) M')→c [v,.fn (.func n) [] []] M Q
def Jb (B:Base) (n:Nat) (c:aj) : Prop:=∀ {M:RM} {v:AV} {xs:List (List UInt8)} {Q:ai},M.base=B→Sl jO M v xs→xs.length≤1000000000→(∀ x∈xs,x.length≤1000000000)→(∀ M' (k:Int),ae [] M M'→decide (k ≥ 0)=xs.any jk→Q (N .i64 k) M')→c [v,.fn (.func n) [] []] M Q
theorem Ku {n:Nat} {cv:FuncId→aj} (hv:Wj B (cv n)) : Jb B n fun args M Q=>∃ a0 a1,args=[a0,a1]∧mX cv a0 a1 M Q:=by
 intro M v xs Q hM hs hl hxl hQ
 refine⟨_,_,rfl, ?_⟩
 unfold mX
 rw[dQ.len hs]
 refine aP (fun m ys M'=>∃ i:Nat,m=xs.length - i∧ys=[N .i64 (i:Int)]∧i≤xs.length∧ae [] M M'∧(xs.drop i).any jk=xs.any jk) xs.length ⟨0,rfl,rfl,Nat.zero_le _,ae.refl _ _,rfl⟩ ?_
 rintro next m ys M1 hnext ⟨i,rfl,rfl,hi,k1,hh⟩
 dsimp only[ag]
 rw[jQ]
 refine bg (fun hlt=>?_) (fun hge=>?_)
 ·have hlt:i<xs.length:=of_decide_eq_true hlt
  rw[Mi (dQ.keep hs k1 (by simp)) hlt,VH]
  rw[List.drop_eq_getElem_cons hlt,List.any_cons] at hh
  refine hv (k1.base.trans hM) (hxl _ (List.getElem_mem hlt)) fun M2 k2=>?_
  refine bg (fun hb=>?_) (fun hb=>?_)
  ·rw[hb,Bool.true_or] at hh
   exact hQ M2 _ (k1.trans k2) (by rw[← hh]; exact decide_eq_true (by omega))
  ·rw[hb,Bool.false_or] at hh
   rw[add1 (by omega)]
   exact hnext _ _ _ (by omega) ⟨i + 1,rfl,rfl,by omega,k1.trans k2,hh⟩
 ·have he:i=xs.length:=by
   have:¬ i<xs.length:=of_decide_eq_false hge
   omega
  subst he
  rw[List.drop_length] at hh
  exact hQ M1 _ k1 (by rw[← hh]; rfl)
theorem ED {n:Nat} {ci:aj} (hi:Jb B n ci) : Jd B n fun args M Q=>∃ a0 a1,args=[a0,a1]∧lq ci a0 a1 M Q:=by
 intro M v xs Q hM hs hl hxl hQ
 refine⟨_,_,rfl, ?_⟩
 unfold lq
 refine hi hM hs hl hxl fun M' k k' he=>?_
 rw[fK,he]
 exact hQ M' k'
def Np (B:Base) (f:List UInt8→List UInt8) (c:aj) : Prop:=∀ {M:RM} {cs:List AV} {L:Ln} {k:Int} {S:Nat→Prop} {Q:ai},M.base=B→iO.rel M cs (L,k) S→LB 1000000000 L→(∀ M',ae [] M M'→Q (Bo (ig f L)) M')→c [.agg cs] M Q
theorem Cm {f:List UInt8→List UInt8} {TL TP n:Nat} {cn cv cc:aj} (hn:rV B f cn) (hv:nI B cv) (hc:Jd B n cc) : Np B f fun args M Q=>∃ a0,args=[a0]∧uO TL cn cv TP cc n a0 M Q:=by
 intro M cs L k S Q hM hrel hb hQ
 obtain⟨v,rfl,hps⟩:=hrel
 simp only at hps
 refine⟨_,rfl, ?_⟩
 unfold uO
 simp only[dS]
 have hall:([St L.g,St L.n,v,St L.v,N .i64 k] : List AV).all oneCell=true:=by simp[fF,hps.one]
 rw[iZ hall (by simp),aG]
 have k1:ae [] M (M.push (.row [St L.g,St L.n,v,St L.v,N .i64 k] false TL 0)):=(ae.refl _ _).push _
 have h1:(M.push (.row [St L.g,St L.n,v,St L.v,N .i64 k] false TL 0)).heap M.next=some (.row [St L.g,St L.n,v,St L.v,N .i64 k] false TL 0):=RM.aS _
 have n1:(M.push (.row [St L.g,St L.n,v,St L.v,N .i64 k] false TL 0)).next=M.next + 1:=bH _
 generalize M.push (.row [St L.g,St L.n,v,St L.v,N .i64 k] false TL 0)=M1 at *
 have hk:∀ {M' : RM},ae [] M1 M'→M'.base=B∧M'.heap M.next=some (.row [St L.g,St L.n,v,St L.v,N .i64 k] false TL 0):=fun k'=>⟨(k'.base.trans k1.base).trans hM,k'.ax h1 (by omega) (by simp)⟩
 rw[bi,az h1 rfl,mR]
 refine P8 (p:=!fB f L.g) (P:=fun M'=>ae [] M1 M') (ae.refl _ _) (fun _ kk hkk=>?_) (fun M2 k2=>?_)
 ·rw[bi,az h1 rfl]
  refine hn (k1.base.trans hM) hb.g fun M' k'=>?_
  rw[bP]
  exact hkk _ k'
 refine Rq (p:=!fB f L.n) (P:=fun M'=>ae [] M1 M') k2 (fun _ kk hkk=>?_) (fun M3 k3=>?_)
 ·rw[bi,az (hk k2).2 rfl]
  refine hn (hk k2).1 hb.n fun M' k'=>?_
  rw[bP]
  exact hkk _ (k2.trans k')
 refine Rq (p:=!gm [] L.v) (P:=fun M'=>ae [] M1 M') k3 (fun _ kk hkk=>?_) (fun M4 k4=>?_)
 ·rw[bi,az (hk k3).2 rfl]
  refine hv (hk k3).1 hb.v fun M' k'=>?_
  rw[bP]
  exact hkk _ (k3.trans k')
 unfold ig at hQ
 refine bg (fun hcnd=>?_) (fun hcnd=>?_)
 ·rw[hcnd,Bool.not_true,Bool.false_and] at hQ
  exact hQ _ (k1.trans k4)
 rw[hcnd,Bool.not_false,Bool.true_and] at hQ
 have VA:bE jl M4 v L.ps S:=(hps.keep k1 (by simp)).keep k4 (by simp)
 rw[bi,az (hk k4).2 rfl,VA.len]
 refine aP (fun m ys M'=>∃ i:Nat,m=L.ps.length - i∧ys=[N .i64 (i:Int)]∧i≤L.ps.length∧ae [] M1 M'∧(L.ps.drop i).all (jK f)=L.ps.all (jK f)) L.ps.length ⟨0,rfl,rfl,Nat.zero_le _,k4,rfl⟩ ?_
 rintro next m ys M5 hnext ⟨i,rfl,rfl,hi,k5,hh⟩
 dsimp only[ag]
 rw[jQ]
 have hpl:=hb.ps
 refine bg (fun hlt=>?_) (fun hge=>?_)
 ·have hlt:i<L.ps.length:=of_decide_eq_true hlt
  have NR:bE jl M5 v L.ps S:=(hps.keep k1 (by simp)).keep k5 (by simp)
  obtain⟨pv,hpv,hall⟩:=Ij NR hlt
  have hmem:=List.getElem_mem hlt
  have b1:=hb.pn _ hmem
  have b2:=hb.pl _ hmem
  have b3:=hb.pv _ hmem
  rw[List.drop_eq_getElem_cons hlt,List.all_cons] at hh
  generalize L.ps[i]=p at *
  rw[hall,aG,bK (n:=2) (RM.aS _) rfl rfl (by simp[fF,AV.cells,hpv.one])]
  have k6:ae [] M5 ((M5.push (.row [St [],aB] false TP 0)).put M5.next (.row (AV.agg [St p.1,pv]).cells false TP 0)):=((ae.refl _ _).push _).put _ (.inl (Nat.le_refl _))
  have h6:((M5.push (.row [St [],aB] false TP 0)).put M5.next (.row (AV.agg [St p.1,pv]).cells false TP 0)).heap M5.next=some (.row [St p.1,pv] false TP 0):=ay _
  have n6:((M5.push (.row [St [],aB] false TP 0)).put M5.next (.row (AV.agg [St p.1,pv]).cells false TP 0)).next=M5.next + 1:=rfl
  generalize (M5.push (.row [St [],aB] false TP 0)).put M5.next (.row (AV.agg [St p.1,pv]).cells false TP 0)=M6 at *
  have k56:=k5.trans k6
  have QW:bE jO.ko M6 pv p.2 S:=hpv.keep k6 (by simp)
  rw[bi,az h6 rfl]
  refine hn (hk k56).1 b1 fun M7 k7=>?_
  rw[bP]
  have h7:=k7.ax h6 (by omega) (by simp)
  have YF:=QW.keep k7 (by simp)
  have k57:=k56.trans k7
  refine qo (p:=decide (p.2.length=0)) (fun _ kk hkk=>?_) ?_
  ·rw[bi,az h7 rfl,YF.len,show(N .i64 (0:Int))=N .i64 ((0:Nat) : Int) from rfl,abu]
   exact hkk
  refine Rq (p:=p.2.any jk) (P:=fun M'=>ae [] M1 M') k57 (fun _ kk hkk=>?_) (fun M8 k8=>?_)
  ·rw[bi,az h7 rfl]
   refine hc (hk k57).1 YF.sl b2 b3 fun M' k'=>?_
   exact hkk _ (k57.trans k')
  refine bg (fun hc=>?_) (fun hc=>?_)
  ·have:jK f p=false:=by unfold jK; rw[hc]; rfl
   rw[this,Bool.false_and] at hh
   rw[← hh] at hQ
   exact hQ _ (k1.trans k8)
  ·have:jK f p=true:=by unfold jK; rw[hc]; rfl
   rw[this,Bool.true_and] at hh
   rw[add1 (by omega)]
   exact hnext _ _ _ (by omega) ⟨i + 1,rfl,rfl,by omega,k8,hh⟩
 ·have he:i=L.ps.length:=by
   have:¬ i<L.ps.length:=of_decide_eq_false hge
   omega
  subst he
  rw[List.drop_length] at hh
  rw[← hh] at hQ
  exact hQ _ (k1.trans k5)
end
def qv (v:List UInt8) : List UInt8:=if Cn v then[34]++v++[34] else v
def tailV (vs:List (List UInt8)) : List UInt8:=vs.flatMap fun v=>44 :: qv v
def gG:List (List UInt8)→List UInt8
 | []=>[]
 | v :: vs=>qv v++tailV vs
def eX (p:gF) : List UInt8:=[59]++p.1.map fT++[61]++gG p.2
def iY (L:Ln) : List UInt8:=if L.g=[] then[] else L.g++[46]
def rq (L:Ln) : List UInt8:=L.n.map fT++L.ps.flatMap eX
def ek (L:Ln) : List UInt8:=iY L++rq L++[58]++L.v
def AY (j:Nat) (vs:List (List UInt8)) : List UInt8:=if j=0 then gG vs else tailV (vs.drop j)
theorem RD {vs:List (List UInt8)} {j:Nat} (hj:j<vs.length) : AY j vs=(if 0<j then[44] else[])++(qv vs[j]++AY (j + 1) vs):=by
 unfold AY
 rw[if_neg (by omega:¬ j + 1=0)]
 by_cases h:j=0
 ·subst h
  rw[if_pos rfl,if_neg (by omega)]
  cases vs with
  | nil=>simp at hj
  | cons v vs=>simp[gG]
 ·rw[if_neg h,if_pos (by omega),List.drop_eq_getElem_cons hj]
  unfold tailV
  rw[List.flatMap_cons]
  rfl
theorem Ue (vs:List (List UInt8)) : AY vs.length vs=[]:=by
 unfold AY
 cases vs with
 | nil=>rfl
 | cons v vs=>rw[if_neg (by simp),List.drop_length]; rfl
theorem G7 {α:Type} {a b c:List α} (h:a++b=c) : a.length + b.length=c.length:=by rw[← h,List.length_append]
theorem bE.old {α:Type} {R:kg α} {M A C:RM} {v:AV} {xs:List α} {S:Nat→Prop} (h:bE R A v xs S) (hS:∀ b,S b→b<M.next) (kA:ae [] M A) (kC:ae [] M C) (n:A.next≤C.next) : bE R C v xs S:=by
 have hk:ae ((List.range A.next).filter fun c=>decide (M.next≤c)) A C:=⟨kC.base.trans kA.base.symm,n,fun c h1 h2=>by
  have h3:c<M.next:=by
   rcases Nat.lt_or_ge c M.next with h | h
   ·exact h
   ·exact absurd (List.mem_filter.2 ⟨List.mem_range.2 h1,decide_eq_true h⟩) h2
  rw[kC.heap c h3 (by simp),kA.heap c h3 (by simp)]⟩
 refine h.keep hk fun b hb hs=>?_
 have h1:=hS b hs
 have h2:=of_decide_eq_true (List.mem_filter.1 hb).2
 omega
structure yO (TB T8 TL:Nat) (M:RM) (cells:List AV) (M' : RM) (xs:List UInt8) : Prop where
 bld:jP TB T8 (M.next + 2) M' (M.next + 1) xs
 keep:ae [] M M'
 row:M'.heap M.next=some (.row cells false TL 0)
 nx:M.next + 2≤M'.next
section
variable {TB T8 TL:Nat} {M M' M2:RM} {cells:List AV} {xs ys:List UInt8}
theorem yO.more (h:yO TB T8 TL M cells M' xs) (k:ae [] M' M2) : yO TB T8 TL M cells M2 xs :=
 ⟨h.bld.keep k,h.keep.trans k,k.ax h.row (by have:=h.nx; omega) (by simp),Nat.le_trans h.nx k.next⟩
theorem yO.write (h:yO TB T8 TL M cells M' xs) (hb:jP TB T8 (M.next + 2) M2 (M.next + 1) ys) (k:DV (M.next + 2) (M.next + 1) M' M2) : yO TB T8 TL M cells M2 ys :=
 ⟨hb,DV.keep h.keep k (by omega) (by omega),k.shut _ _ _ _ (by have:=h.nx; omega) (by omega) h.row,Nat.le_trans h.nx k.next⟩
end
section
variable {B:Base}
def Rn (B:Base) (c:aj) : Prop:=∀ {M:RM} {cs:List AV} {L:Ln} {k:Int} {S:Nat→Prop} {Q:ai},M.base=B→iO.rel M cs (L,k) S→LB 1000000000 L→(ek L).length≤140737488355328→(∀ M',ae [] M M'→Q (St (ek L)) M')→c [.agg cs] M Q
theorem RY {TL TB TP T8:Nat} {cw cg cb ca cs:aj} (hw:vG TB T8 cw) (hg:Mj cg) (hb:AA TB T8 cb) (ha:Vo B ca) (hs:uy TB T8 cs) : Rn B fun args M Q=>∃ a0,args=[a0]∧uU TL TB cw cg TP cb ca cs a0 M Q:=by
 intro M cs L k S Q hM hrel hB hlen hQ
 obtain⟨v,rfl,hps⟩:=hrel
 simp only at hps
 refine⟨_,rfl, ?_⟩
 unfold uU
 simp only[dK]
 have hall:([St L.g,St L.n,v,St L.v,N .i64 k] : List AV).all oneCell=true:=by simp[fF,hps.one]
 rw[iZ hall (by simp),aG,aG]
 have st0:yO TB T8 TL M [St L.g,St L.n,v,St L.v,N .i64 k] ((M.push (.row [St L.g,St L.n,v,St L.v,N .i64 k] false TL 0)).push (.row [.sc (.pointer none),aB] false TB 0)) [] :=
  ⟨jP.new (RM.aS _) (by omega) (by rw[bH,bH]; omega),((ae.refl _ _).push _).push _,uS (RM.aS _) (by rw[bH]; omega),by rw[bH,bH]; omega⟩
 rw[bH]
 generalize (M.push (.row [St L.g,St L.n,v,St L.v,N .i64 k] false TL 0)).push (.row [.sc (.pointer none),aB] false TB 0)=M1 at *
 have hbase:∀ {M' : RM},ae [] M M'→M'.base=B:=fun h=>h.base.trans hM
 have hW:(ek L).length=(iY L).length + ((L.n.map fT).length + (L.ps.flatMap eX).length) + 1 + L.v.length:=by
  unfold ek rq; simp only[List.length_append,List.length_cons,List.length_nil]
 refine bQ (fun _ M'=>yO TB T8 TL M [St L.g,St L.n,v,St L.v,N .i64 k] M' (iY L)) ?_ ?_
 rotate_left
 ·intro J hJ
  rw[bi,az st0.row rfl,mR]
  refine bg (fun hc=>?_) (fun hc=>?_)
  ·have hne:L.g≠[]:=by simpa using hc
   have hgl:=hB.g
   have hgj:iY L=L.g++[46]:=if_neg hne
   rw[bi,az st0.row rfl,bM]
   refine⟨by simp; omega, ?_⟩
   refine hw st0.bld (by simp; omega) fun M2 b2 k2=>?_
   refine hJ _ _ ?_
   rw[hgj]
   exact st0.write b2 k2
  ·have he:L.g=[]:=by simpa using hc
   refine hJ _ _ ?_
   have hgj:iY L=[]:=if_pos he
   rw[hgj]
   exact st0
 clear st0
 clear M1
 rintro _ M2 st2
 rw[bi,az st2.row rfl]
 refine hg hB.n fun M3 k3=>?_
 have st3:=st2.more k3
 refine hw st3.bld (by omega) fun M4 b4 k4=>?_
 have st4:=st3.write b4 k4
 clear st2 st3 b4 k4 k3
 have VA:bE jl M4 v L.ps S:=hps.keep st4.keep (by simp)
 rw[bi,az st4.row rfl,VA.len]
 generalize hWd:iY L++rq L=W
 have hWl:W.length=(iY L).length + ((L.n.map fT).length + (L.ps.flatMap eX).length):=by
  rw[← hWd]; unfold rq; simp only[List.length_append]
 have aaO:=hB.ps
 refine aP (fun m ys M5=>∃ (i:Nat) (xs:List UInt8),m=L.ps.length - i∧ys=[N .i64 (i:Int)]∧i≤L.ps.length∧yO TB T8 TL M [St L.g,St L.n,v,St L.v,N .i64 k] M5 xs∧xs++(L.ps.drop i).flatMap eX=W) L.ps.length
  ⟨0,_,rfl,rfl,Nat.zero_le _,st4,by rw[← hWd]; unfold rq; rw[List.drop_zero,List.append_assoc]⟩ ?_
 rintro next m ys M5 hnext ⟨i,xs,rfl,rfl,hi,st5,hx⟩
 dsimp only[ag]
 rw[jQ]
 refine bg (fun hlt=>?_) (fun hge=>?_)
 ·have hlt:i<L.ps.length:=of_decide_eq_true hlt
  have NR:bE jl M5 v L.ps (fun b=>S b∧b<M.next):=hps.lt.keep st5.keep (by simp)
  obtain⟨pv,hpv,hall⟩:=Ij NR hlt
  have hmem:=List.getElem_mem hlt
  have b1:=hB.pn _ hmem
  have b2:=hB.pl _ hmem
  have b3:=hB.pv _ hmem
  rw[List.drop_eq_getElem_cons hlt,List.flatMap_cons] at hx
  generalize L.ps[i]=p at *
  rw[hall,aG,bK (n:=2) (RM.aS _) rfl rfl (by simp[fF,AV.cells,hpv.one])]
  have k6:ae [] M5 ((M5.push (.row [St [],aB] false TP 0)).put M5.next (.row (AV.agg [St p.1,pv]).cells false TP 0)):=((ae.refl _ _).push _).put _ (.inl (Nat.le_refl _))
  have h6:((M5.push (.row [St [],aB] false TP 0)).put M5.next (.row (AV.agg [St p.1,pv]).cells false TP 0)).heap M5.next=some (.row [St p.1,pv] false TP 0):=ay _
  have n6:((M5.push (.row [St [],aB] false TP 0)).put M5.next (.row (AV.agg [St p.1,pv]).cells false TP 0)).next=M5.next + 1:=rfl
  generalize (M5.push (.row [St [],aB] false TP 0)).put M5.next (.row (AV.agg [St p.1,pv]).cells false TP 0)=M6 at *
  have st6:=st5.more k6
  have nx5:=st5.nx
  have hpj:eX p=[59]++p.1.map fT++[61]++gG p.2:=rfl
  have hxl:=G7 hx
  rw[hpj] at hxl
  simp only[List.length_append,List.length_cons,List.length_nil] at hxl
  rw[bi,az h6 rfl]
  refine hg b1 fun M7 k7=>?_
  have st7:=st6.more k7
  have h7:=k7.ax h6 (by omega) (by simp)
  have n7:=k7.next
  rw[bM]
  refine⟨by simp; omega, ?_⟩
  rw[bM]
  refine⟨by simp; omega, ?_⟩
  refine hw st7.bld (by simp only[List.length_append,List.length_cons,List.length_nil]; omega) fun M8 b8 k8=>?_
  have st8:=st7.write b8 k8
  have h8:=k8.shut _ _ _ _ (by omega) (by omega) h7
  have Yq:bE jO.ko M8 pv p.2 (fun b=>S b∧b<M.next):=bE.old hpv (fun b h=>h.2) st5.keep st8.keep (by have:=k6.next; have:=k8.next; omega)
  rw[bi,az h8 rfl,Yq.len]
  generalize hrest:(L.ps.drop (i + 1)).flatMap eX=rest at *
  refine aP (fun m ys M9=>∃ (j:Nat) (zs:List UInt8),m=p.2.length - j∧ys=[N .i64 (j:Int)]∧j≤p.2.length∧yO TB T8 TL M [St L.g,St L.n,v,St L.v,N .i64 k] M9 zs∧M8.next≤M9.next∧zs++(AY j p.2++rest)=W) p.2.length
   ⟨0,_,rfl,rfl,Nat.zero_le _,st8,Nat.le_refl _, ?_⟩ ?_
  ·rw[← hx,hpj]
   simp only[List.append_assoc,AY,if_true]
  rintro Dr m ys M9 mg ⟨j,zs,rfl,rfl,hj,st9,n9,hz⟩
  dsimp only[ag]
  rw[jQ]
  refine bg (fun hlt2=>?_) (fun VG=>?_)
  ·have hlt2:j<p.2.length:=of_decide_eq_true hlt2
   have UW:bE jO.ko M9 pv p.2 (fun b=>S b∧b<M.next):=bE.old Yq (fun b h=>h.2) st8.keep st9.keep n9
   rw[RD hlt2] at hz
   have b4:=b3 _ (List.getElem_mem hlt2)
   have hzl:=G7 hz
   simp only[List.length_append] at hzl
   refine bQ (fun _ M'=>yO TB T8 TL M [St L.g,St L.n,v,St L.v,N .i64 k] M' (zs++((if 0<j then[44] else[])++qv p.2[j]))∧M9.next≤M'.next) ?_ ?_
   ·rintro _ Ma ⟨sta,na⟩
    rw[add1 (by omega)]
    refine mg _ _ _ (by omega) ⟨j + 1,_,rfl,rfl,by omega,sta,by omega, ?_⟩
    rw[← hz]
    simp only[List.append_assoc]
   intro J hJ
   rw[Mi UW.sl hlt2]
   generalize p.2[j]=x at *
   refine bQ (fun _ M'=>yO TB T8 TL M [St L.g,St L.n,v,St L.v,N .i64 k] M' (zs++(if 0<j then[44] else[]))∧M9.next≤M'.next) ?_ ?_
   ·rintro _ Ma ⟨sta,na⟩
    refine bQ (fun ys M'=>ys=[St (qv x)]∧yO TB T8 TL M [St L.g,St L.n,v,St L.v,N .i64 k] M' (zs++(if 0<j then[44] else[]))∧M9.next≤M'.next) ?_ ?_
    ·rintro _ Mb ⟨rfl,stb,nb⟩
     dsimp only[ag]
     refine hw stb.bld (by rw[List.length_append]; omega) fun Mc bc kc=>?_
     refine hJ _ _ ⟨?_,Nat.le_trans nb kc.next⟩
     rw[← List.append_assoc]
     exact stb.write bc kc
    intro J2 hJ2
    refine ha (hbase sta.keep) b4 fun Mb kb=>?_
    have stb:=sta.more kb
    have nb:=Nat.le_trans na kb.next
    refine bg (fun hh=>?_) (fun hh=>?_)
    ·rw[bM]
     refine⟨by simp; omega, ?_⟩
     rw[bM]
     refine⟨by simp; omega, ?_⟩
     exact hJ2 _ _ ⟨by rw[qv,if_pos hh],stb,nb⟩
    ·exact hJ2 _ _ ⟨by rw[qv,if_neg (by rw[hh]; simp)],stb,nb⟩
   intro J2 hJ2
   rw[show(N .i64 (0:Int))=N .i64 ((0:Nat) : Int) from rfl,Fz]
   refine bg (fun hh=>?_) (fun hh=>?_)
   ·have hh:0<j:=of_decide_eq_true hh
    rw[if_pos hh] at hzl hJ2
    simp only[List.length_cons,List.length_nil] at hzl
    show cb [.ptr (M.next + 1) 0,By 44] M9 _
    refine hb st9.bld (by omega) fun Mb bb kb=>?_
    refine hJ2 _ _ ⟨?_,kb.next⟩
    exact st9.write bb kb
   ·have hh:¬ 0<j:=of_decide_eq_false hh
    refine hJ2 _ _ ⟨?_,Nat.le_refl _⟩
    rw[if_neg hh,List.append_nil]; exact st9
  ·have he:j=p.2.length:=by
    have:¬ j<p.2.length:=of_decide_eq_false VG
    omega
   subst he
   rw[Ue,List.nil_append] at hz
   rw[add1 (by omega)]
   exact hnext _ _ _ (by omega) ⟨i + 1,zs,rfl,rfl,by omega,st9,by rw[hrest]; exact hz⟩
 ·have he:i=L.ps.length:=by
   have:¬ i<L.ps.length:=of_decide_eq_false hge
   omega
  subst he
  rw[List.drop_length,List.flatMap_nil,List.append_nil] at hx
  subst hx
  rw[bi,az st5.row rfl]
  refine hs st5.bld (by omega) fun M6 k6=>?_
  have h6:M6.heap M.next=some (.row [St L.g,St L.n,v,St L.v,N .i64 k] false TL 0):=by rw[k6.heap _ (by omega) (by simp)]; exact st5.row
  rw[az h6 rfl]
  refine⟨rfl, ?_⟩
  rw[bM]
  refine⟨by simp; omega, ?_⟩
  rw[bM]
  refine⟨by simp; omega, ?_⟩
  have kk:ae [] M M6:=⟨k6.base.trans st5.keep.base,Nat.le_trans st5.keep.next k6.next,fun c h1 _=>by rw[k6.heap c (by omega) (by simp)]; exact st5.keep.heap c h1 (by simp)⟩
  have:=hQ M6 kk
  unfold ek at this
  rw[hWd] at this
  exact this
end
def gB (f:List UInt8→List UInt8) (L:Ln) : List UInt8 × Int:=if ig f L then(if 912<(ek L).length then([],2) else(fo 0 (ek L)++[13,10],0)) else([],1)
section
variable {B:Base}
def GQ (B:Base) (F:Ln→List UInt8 × Int) (c:aj) : Prop:=∀ {M:RM} {cs:List AV} {L:Ln} {k:Int} {S:Nat→Prop} {Q:ai},M.base=B→iO.rel M cs (L,k) S→LB 1000000000 L→(ek L).length≤140737488355328→(∀ M',ae [] M M'→Q (.tup [St (F L).1,N .i64 (F L).2]) M')→c [.agg cs] M Q
theorem Rl (s:List UInt8) : (fo 0 s).length≤4 * s.length + 4:=by
 have:=G6 s.length (u:=0) (s:=s) (Nat.le_refl _)
 omega
theorem Rz {f:List UInt8→List UInt8} {TL:Nat} {cg cl cf:aj} (hg:Np B f cg) (hl:Rn B cl) (hf:S9 B cf) : GQ B (gB f) fun args M Q=>∃ a0,args=[a0]∧sU TL cg cl cf a0 M Q:=by
 intro M cs L k S Q hM hrel hB hlen hQ
 refine⟨_,rfl, ?_⟩
 unfold sU
 have hsz:cs.length=5:=iO.len hrel
 rw[iZ (iO.one hrel) (by omega),aG]
 have k1:ae [] M (M.push (.row cs false TL 0)):=(ae.refl _ _).push _
 have h1:(M.push (.row cs false TL 0)).heap M.next=some (.row cs false TL 0):=RM.aS _
 have n1:(M.push (.row cs false TL 0)).next=M.next + 1:=bH _
 generalize M.push (.row cs false TL 0)=M1 at *
 unfold gB at hQ
 rw[aO (n:=5) h1 hsz]
 refine hg (k1.base.trans hM) (iO.keep hrel k1 (by simp)) hB fun M2 k2=>?_
 have k12:=k1.trans k2
 have h2:=k2.ax h1 (by omega) (by simp)
 rw[bP]
 refine bg (fun hc=>?_) (fun hc=>?_)
 ·have hc:ig f L=false:=by simpa using hc
  rw[if_neg (by rw[hc]; simp)] at hQ
  exact hQ M2 k12
 have hc:ig f L=true:=by simpa using hc
 rw[if_pos hc] at hQ
 rw[aO (n:=5) h2 hsz]
 refine hl (k12.base.trans hM) (iO.keep hrel k12 (by simp)) hB hlen fun M3 k3=>?_
 have k13:=k12.trans k3
 rw[bC,show(N .i64 (912:Int))=N .i64 ((912:Nat) : Int) from rfl,Fz]
 refine bg (fun hc=>?_) (fun hc=>?_)
 ·rw[if_pos (of_decide_eq_true hc)] at hQ
  exact hQ M3 k13
 have hc:=of_decide_eq_false hc
 rw[if_neg (by omega)] at hQ
 refine hf (k13.base.trans hM) (by omega) fun M4 k4=>?_
 rw[bM]
 have:=Rl (ek L)
 exact⟨by simp; omega,hQ M4 (k13.trans k4)⟩
end
end Go.Ab.Vl
namespace Go.Ab.Vl
open Go Go.Ab
theorem jT {α:Type} {p:α→Bool} : ∀ {s:List α},s.dropWhile p=[]→∀ x∈s,p x=true
 | [],_,x,hx=>by cases hx
 | c :: s,h,x,hx=>by
   rw[List.dropWhile_cons] at h
   split at h
   ·rename_i hc
    rcases List.mem_cons.1 hx with rfl | hx
    ·exact hc
    ·exact jT h x hx
   ·cases h
theorem qC {α:Type} {p:α→Bool} : ∀ {s t:List α} {y:α},s.dropWhile p=y :: t→p y=false
 | [],_,_,h=>by cases h
 | c :: s,t,y,h=>by
   rw[List.dropWhile_cons] at h
   split at h
   ·exact qC h
   ·rename_i hc
    cases h; simpa using hc
theorem UG {s:List UInt8} (h:bF s=[]) : ∀ c∈s,cO.contains c=true:=by
 unfold bF Lib.trimS at h
 by_cases hr:s.reverse.dropWhile (cO.contains ·)=[]
 ·exact fun c hc=>jT hr c (by simpa using hc)
 ·exfalso
  obtain⟨y,t,e⟩ : ∃ y t,s.reverse.dropWhile (cO.contains ·)=y :: t:=by
   cases hd:s.reverse.dropWhile (cO.contains ·) with
   | nil=>exact absurd hd hr
   | cons y t=>exact⟨y,t,rfl⟩
  have hy:cO.contains y=false:=qC e
  have h1:Lib.trimLeftS (Lib.trimRightS s cO) cO=[]∨Lib.trimRightS (Lib.trimLeftS s cO) cO=[]:=by
   first | exact .inl h | exact .inr h
  rcases h1 with h1 | h1
  ·have:=jT h1 y (by unfold Lib.trimRightS; rw[e]; simp)
   rw[hy] at this; cases this
  ·unfold Lib.trimRightS at h1
   have h1:=List.reverse_eq_nil_iff.1 h1
   have h2:=jT h1
   unfold Lib.trimLeftS at h2
   by_cases hl:s.dropWhile (cO.contains ·)=[]
   ·have:=jT hl y
    have hm:y∈s:=by
     have:y∈s.reverse.dropWhile (cO.contains ·):=by rw[e]; simp
     simpa using (List.dropWhile_sublist _).subset this
    rw[jT hl y hm] at hy; cases hy
   ·cases hd:s.dropWhile (cO.contains ·) with
    | nil=>exact hl hd
    | cons z u =>
      have h3:=h2 z (by rw[hd]; simp)
      rw[qC hd] at h3; cases h3
theorem jv {s:List UInt8} (h:fB bF s=true) : 1≤s.length∧s.length≤20∧∀ c∈s,cO.contains c=true:=by
 unfold fB at h
 simp only[Bool.and_eq_true,decide_eq_true_eq,beq_iff_eq] at h
 exact⟨h.1.1,h.1.2,UG h.2⟩
theorem ji (c:UInt8) (h:cO.contains c=true) : oL c=true∧oL (fT c)=true∧bV c=c∧bV (fT c)=c∧c.toNat<128∧(fT c).toNat<128∧dz (fT c)=true∧dz c=true:=by
 have key:∀ n:Fin 256,cO.contains (UInt8.ofNat n.val)=true→oL (UInt8.ofNat n.val)=true∧oL (fT (UInt8.ofNat n.val))=true∧bV (UInt8.ofNat n.val)=UInt8.ofNat n.val∧bV (fT (UInt8.ofNat n.val))=UInt8.ofNat n.val∧(UInt8.ofNat n.val).toNat<128∧(fT (UInt8.ofNat n.val)).toNat<128∧dz (fT (UInt8.ofNat n.val))=true∧dz (UInt8.ofNat n.val)=true:=by decide +kernel
 have:=key ⟨c.toNat,c.toNat_lt⟩
 simp only[UInt8.ofNat_toNat] at this
 exact this h
theorem NH {a b:List UInt8} (ha:∀ x∈a,oL x=true) (hb:∀ x,b.head?=some x→oL x=false) : wn (a++b)=a.length:=by
 unfold wn; rw[(fZ ha hb).1]
theorem Sa {n:List UInt8} (h:∀ c∈n,cO.contains c=true) : ∀ x∈n.map fT,oL x=true:=by
 intro x hx
 obtain⟨c,hc,rfl⟩:=List.mem_map.1 hx
 exact(ji c (h c hc)).2.1
theorem Tu {n:List UInt8} (h:∀ c∈n,cO.contains c=true) : (n.map fT).map bV=n:=by
 rw[List.map_map]
 conv=>rhs; rw[← List.map_id n]
 exact List.map_congr_left fun c hc=>(ji c (h c hc)).2.2.2.1
theorem Vz {n:List UInt8} (h:∀ c∈n,cO.contains c=true) : n.map bV=n:=by
 conv=>rhs; rw[← List.map_id n]
 exact List.map_congr_left fun c hc=>(ji c (h c hc)).2.2.1
theorem H6 {s:List UInt8} (h1:1≤s.length) (h2:s.length≤20) : bad s.length=false:=by
 unfold bad
 rw[decide_eq_false (by omega),decide_eq_false (by omega)]; rfl
theorem zV {v:List UInt8} (h:jk v=false) : (∀ c∈v,dz c=true∧c≠34)∧dX v=true:=by
 unfold jk gm at h
 simp only[Bool.not_eq_false',Bool.and_eq_true,List.all_eq_true] at h
 refine⟨fun c hc=>?_,h.2⟩
 have:=h.1 c hc
 unfold okB at this
 simp only[Bool.and_eq_true,Bool.not_eq_true',decide_eq_false_iff_not,List.mem_singleton] at this
 exact this
theorem VO {c:UInt8} (h:c∈iN) : c=44∨c=59∨c=58:=by simpa [iN] using h
theorem OM {v R:List UInt8} (hv:jk v=false) {c:UInt8} {t:List UInt8} (hR:R=c :: t) (hc:c∈iN) : Af (qv v++R)=some (v,R):=by
 obtain⟨hp,_⟩:=zV hv
 unfold Af qv
 cases hm:Cn v with
 | true =>
   have e:[34]++v++[34]++R=34 :: (v++(34 :: R)):=by simp
   rw[if_pos rfl,e]
   have h1:=fZ (p:=vF) (a:=v) (b:=34 :: R) (fun x hx=>by
    obtain⟨h1,h2⟩:=hp x hx
    unfold vF; rw[h1,Bool.and_true,bne_iff_ne]; exact h2) (fun x hx=>by
    simp only[List.head?_cons,Option.some.injEq] at hx
    subst hx; rfl)
   rw[if_pos (by rfl)]
   simp only[List.drop_succ_cons,List.drop_zero]
   rw[h1.1,h1.2,if_pos (by rfl)]
   rfl
 | false =>
   have e:(if false=true then[34]++v++[34] else v)=v:=if_neg (by simp)
   rw[e]
   have hnm:∀ x∈v,x ∉ iN:=by
    unfold Cn at hm
    rw[List.any_eq_false] at hm
    exact fun x hx=>by simpa using hm x hx
   have h1:=fZ (p:=wB) (a:=v) (b:=R) (fun x hx=>by
    obtain⟨h1,h2⟩:=hp x hx
    have h3:=hnm x hx
    simp only[iN,List.mem_cons,List.not_mem_nil,or_false,not_or] at h3
    unfold wB
    rw[h1]
    simp[h2,h3]) (fun x hx=>by
    rw[hR] at hx
    simp only[List.head?_cons,Option.some.injEq] at hx
    subst hx
    exact(GY hc).2.2)
   have h34:aN 34 (v++R)=false:=by
    cases v with
    | nil =>
      rw[hR]
      rcases VO hc with rfl | rfl | rfl <;> rfl
    | cons x v =>
      have:=(hp x (by simp)).2
      simp[aN,this]
   rw[h34,if_neg (by simp),h1.1,h1.2]
theorem Gt:∀ (vs:List (List UInt8)) (v:List UInt8) (acc:List (List UInt8)) (k:Nat) {R:List UInt8} {c:UInt8} {t:List UInt8},jk v=false→(∀ w∈vs,jk w=false)→R=c :: t→(c=59∨c=58) →
  (qv v++(tailV vs++R)).length + 1≤k→tF k (qv v++(tailV vs++R)) acc=some (acc++(v :: vs),R)
 | [],v,acc,k,R,c,t,hv,hvs,hR,hc,hk=>by
   obtain⟨i,rfl⟩ : ∃ i,k=i + 1:=⟨k - 1,by omega⟩
   have hcm:c∈iN:=by rcases hc with rfl | rfl <;> simp[iN]
   have e:tailV []++R=R:=rfl
   rw[e,tF,OM hv hR hcm]
   have h44:aN 44 R=false:=by rw[hR]; rcases hc with rfl | rfl <;> rfl
   simp only[h44,Bool.false_eq_true,if_false]
 | w :: vs,v,acc,k,R,c,t,hv,hvs,hR,hc,hk=>by
   obtain⟨i,rfl⟩ : ∃ i,k=i + 1:=⟨k - 1,by omega⟩
   have e:tailV (w :: vs)++R=44 :: (qv w++(tailV vs++R)):=by simp[tailV]
   rw[e] at hk ⊢
   rw[tF,OM hv rfl (by simp[iN])]
   simp only[show aN 44 (44 :: (qv w++(tailV vs++R)))=true from rfl,if_true,List.drop_succ_cons,List.drop_zero]
   rw[Gt vs w (acc++[v]) i (hvs w (by simp)) (fun x hx=>hvs x (by simp[hx])) hR hc (by simp only[List.length_append,List.length_cons] at hk ⊢; omega)]
   simp
theorem UQ {vs:List (List UInt8)} (hne:vs≠[]) (hvs:∀ w∈vs,jk w=false) {R:List UInt8} {c:UInt8} {t:List UInt8} (hR:R=c :: t) (hc:c=59∨c=58) : WR (gG vs++R)=some (vs,R):=by
 cases vs with
 | nil=>exact absurd rfl hne
 | cons v vs =>
   unfold WR
   have e:gG (v :: vs)++R=qv v++(tailV vs++R):=by simp[gG]
   rw[e,Gt vs v [] _ (hvs v (by simp)) (fun x hx=>hvs x (by simp[hx])) hR hc (Nat.le_refl _)]
   rfl
theorem wP {p:gF} (h:jK bF p=true) : fB bF p.1=true∧p.2≠[]∧∀ v∈p.2,jk v=false:=by
 unfold jK at h
 simp only[Bool.not_eq_true',Bool.or_eq_false_iff,decide_eq_false_iff_not,Bool.not_eq_false'] at h
 refine⟨h.1.1,fun e=>h.1.2 (by rw[e]; rfl),fun v hv=>?_⟩
 have:=h.2
 rw[List.any_eq_false] at this
 simpa using this v hv
theorem Kc {ps:List gF} {Y:List UInt8} (hY:∃ t,Y=58 :: t) : ∃ c t,ps.flatMap eX++Y=c :: t∧(c=59∨c=58):=by
 cases ps with
 | nil=>obtain⟨t,rfl⟩:=hY; exact⟨58,t,rfl,.inr rfl⟩
 | cons p ps=>exact⟨59,p.1.map fT++61 :: (gG p.2++(ps.flatMap eX++Y)),by simp[eX],.inl rfl⟩
theorem FI:∀ (ps:List gF) (acc:List gF) (k:Nat) {Y:List UInt8},(∀ p∈ps,jK bF p=true)→(∃ t,Y=58 :: t)→(ps.flatMap eX++Y).length + 1≤k→rA k (ps.flatMap eX++Y) acc=some (acc++ps,Y)
 | [],acc,k,Y,hp,hY,hk=>by
   obtain⟨i,rfl⟩ : ∃ i,k=i + 1:=⟨k - 1,by omega⟩
   obtain⟨t,rfl⟩:=hY
   rw[List.flatMap_nil,List.nil_append,rA]
   rw[if_neg (by show ¬ (aN 59 (58 :: t))=true; simp[aN])]
   simp
 | p :: ps,acc,k,Y,hp,hY,hk=>by
   obtain⟨i,rfl⟩ : ∃ i,k=i + 1:=⟨k - 1,by omega⟩
   obtain⟨hn,hne,hvs⟩:=wP (hp p (by simp))
   obtain⟨g1,g2,g3⟩:=jv hn
   obtain⟨c,t,hR,hc⟩:=Kc (ps:=ps) hY
   have e:(p :: ps).flatMap eX++Y=59 :: (p.1.map fT++(61 :: (gG p.2++(ps.flatMap eX++Y)))):=by simp[eX]
   rw[e] at hk ⊢
   generalize hRe:ps.flatMap eX++Y=R at *
   have hw:wn (p.1.map fT++(61 :: (gG p.2++R)))=p.1.length:=by
    rw[NH (Sa g3) (fun x hx=>by simp only[List.head?_cons,Option.some.injEq] at hx; subst hx; rfl),List.length_map]
   have hd:(p.1.map fT++(61 :: (gG p.2++R))).drop p.1.length=61 :: (gG p.2++R):=by
    rw[List.drop_left' (by simp)]
   have hd2:(p.1.map fT++(61 :: (gG p.2++R))).drop (p.1.length + 1)=gG p.2++R:=by
    rw[← List.drop_drop,hd]; rfl
   have hl:zP p.1.length (p.1.map fT++(61 :: (gG p.2++R)))=p.1:=by
    unfold zP
    rw[List.take_left' (by simp),Tu g3]
   rw[rA,if_pos (by rfl)]
   simp only[List.drop_succ_cons,List.drop_zero]
   rw[hw,H6 g1 g2,if_neg (by simp),hd,if_pos (by rfl),hd2,UQ hne hvs hR hc,hl]
   simp only
   rw[← hRe,FI ps _ i (fun q hq=>hp q (by simp[hq])) hY (by rw[hRe]; simp only[List.length_append,List.length_cons] at hk ⊢; omega)]
   simp
theorem rR {L:Ln} (h:ig bF L=true) : (L.g=[]∨fB bF L.g=true)∧fB bF L.n=true∧(∀ c∈L.v,dz c=true)∧dX L.v=true∧∀ p∈L.ps,jK bF p=true:=by
 unfold ig at h
 simp only[Bool.and_eq_true,Bool.not_eq_true',Bool.or_eq_false_iff,Bool.and_eq_false_iff,Bool.not_eq_false',bne_eq_false_iff_eq,List.all_eq_true] at h
 obtain⟨⟨⟨h1,h2⟩,h3⟩,h4⟩:=h
 unfold gm at h3
 simp only[Bool.and_eq_true,List.all_eq_true] at h3
 exact⟨h1,h2,fun c hc=>by have:=h3.1 c hc; rw[yU] at this; exact this,h3.2,h4⟩
theorem fu {a:List UInt8} (h:∀ c∈a,c.toNat<128) : dX a=true:=by
 have:=qJ a [] h
 rw[List.append_nil,qD] at this; exact this
theorem iV {a b:List UInt8} (ha:dX a=true) (hb:dX b=true) : dX (a++b)=true:=FX a.length (Nat.le_refl _) ha hb
theorem Tz {v:List UInt8} (h:dX v=true) : dX (qv v)=true:=by
 unfold qv
 split
 ·exact iV (iV (fu (by decide)) h) (fu (by decide))
 ·exact h
theorem JS:∀ {vs:List (List UInt8)},(∀ v∈vs,dX v=true)→dX (tailV vs)=true
 | [],_=>qD
 | v :: vs,h=>by
   have e:tailV (v :: vs)=[44]++(qv v++tailV vs):=by simp[tailV]
   rw[e]
   exact iV (fu (by decide)) (iV (Tz (h v (by simp))) (JS fun w hw=>h w (by simp[hw])))
theorem TH {vs:List (List UInt8)} (h:∀ v∈vs,dX v=true) : dX (gG vs)=true:=by
 cases vs with
 | nil=>exact qD
 | cons v vs=>exact iV (Tz (h v (by simp))) (JS fun w hw=>h w (by simp[hw]))
theorem MN {n:List UInt8} (h:∀ c∈n,cO.contains c=true) : ∀ x∈n.map fT,x.toNat<128:=by
 intro x hx
 obtain⟨c,hc,rfl⟩:=List.mem_map.1 hx
 exact(ji c (h c hc)).2.2.2.2.2.1
theorem U0 {p:gF} (h:jK bF p=true) : dX (eX p)=true:=by
 obtain⟨hn,_,hvs⟩:=wP h
 obtain⟨_,_,g3⟩:=jv hn
 unfold eX
 exact iV (iV (iV (fu (by decide)) (fu (MN g3))) (fu (by decide))) (TH fun v hv=>(zV (hvs v hv)).2)
theorem ME:∀ {ps:List gF},(∀ p∈ps,jK bF p=true)→dX (ps.flatMap eX)=true
 | [],_=>qD
 | p :: ps,h=>by
   rw[List.flatMap_cons]
   exact iV (U0 (h p (by simp))) (ME fun q hq=>h q (by simp[hq]))
theorem Vr {L:Ln} (h:ig bF L=true) : dX (ek L)=true:=by
 obtain⟨h1,h2,h3,h4,h5⟩:=rR h
 obtain⟨_,_,g3⟩:=jv h2
 unfold ek rq
 refine iV (iV (iV ?_ (iV (fu (MN g3)) (ME h5))) (fu (by decide))) h4
 unfold iY
 split
 ·exact qD
 ·rename_i hne
  have hg:=h1.resolve_left hne
  exact iV (fu fun c hc=>(ji c ((jv hg).2.2 c hc)).2.2.2.2.1) (fu (by decide))
theorem U8 {L:Ln} (h:ig bF L=true) : SS (ek L)=some L:=by
 have hf:=Vr h
 obtain⟨h1,h2,h3,h4,h5⟩:=rR h
 obtain⟨n1,n2,n3⟩:=jv h2
 unfold SS
 rw[hf,if_pos rfl]
 have hall:L.v.all dz=true:=by rw[List.all_eq_true]; exact h3
 obtain⟨c,t,hR,hc⟩:=Kc (ps:=L.ps) (Y:=58 :: L.v) ⟨_,rfl⟩
 have hX:∀ x,(L.ps.flatMap eX++(58 :: L.v)).head?=some x→oL x=false:=by
  intro x hx
  rw[hR] at hx
  simp only[List.head?_cons,Option.some.injEq] at hx
  subst hx
  rcases hc with rfl | rfl <;> rfl
 have hwn:wn (L.n.map fT++(L.ps.flatMap eX++(58 :: L.v)))=L.n.length:=by rw[NH (Sa n3) hX,List.length_map]
 have hdr:(L.n.map fT++(L.ps.flatMap eX++(58 :: L.v))).drop L.n.length=L.ps.flatMap eX++(58 :: L.v):=List.drop_left' (by simp)
 have tail:∀ g,FU g (L.n.map fT++(L.ps.flatMap eX++(58 :: L.v)))=some ⟨g,L.n,L.ps,L.v⟩:=by
  intro g
  unfold FU
  rw[hwn,H6 n1 n2,if_neg (by simp),hdr,FI L.ps [] _ h5 ⟨_,rfl⟩ (Nat.le_refl _)]
  simp only[List.nil_append]
  rw[show aN 58 (58 :: L.v)=true from rfl,show(58 :: L.v).drop 1=L.v from rfl,hall,Bool.and_true,if_pos rfl]
  unfold zP
  rw[List.take_left' (by simp),Tu n3]
 have he:ek L=iY L++(L.n.map fT++(L.ps.flatMap eX++(58 :: L.v))):=by unfold ek rq; simp
 rw[he]
 by_cases hg:L.g=[]
 ·have hgj:iY L=[]:=if_pos hg
  rw[hgj,List.nil_append]
  unfold KJ
  have h46:aN 46 (L.ps.flatMap eX++(58 :: L.v))=false:=by rw[hR]; rcases hc with rfl | rfl <;> rfl
  rw[hwn,hdr,h46,if_neg (by simp)]
  simp only
  rw[tail,← hg]
 ·have hgn:=h1.resolve_left hg
  obtain⟨g1,g2,g3⟩:=jv hgn
  have hgj:iY L=L.g++[46]:=if_neg hg
  rw[hgj,List.append_assoc,List.singleton_append]
  have hwg:wn (L.g++(46 :: (L.n.map fT++(L.ps.flatMap eX++(58 :: L.v)))))=L.g.length:=NH (fun x hx=>(ji x (g3 x hx)).1) (fun x hx=>by simp only[List.head?_cons,Option.some.injEq] at hx; subst hx; rfl)
  have hd:(L.g++(46 :: (L.n.map fT++(L.ps.flatMap eX++(58 :: L.v))))).drop L.g.length=46 :: (L.n.map fT++(L.ps.flatMap eX++(58 :: L.v))):=List.drop_left' rfl
  have hd2:(L.g++(46 :: (L.n.map fT++(L.ps.flatMap eX++(58 :: L.v))))).drop (L.g.length + 1)=L.n.map fT++(L.ps.flatMap eX++(58 :: L.v)):=by rw[← List.drop_drop,hd]; rfl
  unfold KJ
  rw[hwg,hd,if_pos (by rfl),H6 g1 g2,if_neg (by simp),hd2]
  simp only
  rw[tail]
  unfold zP
  rw[List.take_left' rfl,Vz g3]
theorem RP {s:List UInt8} (h:(iD s).2.2=true) : jk (iD s).1=false:=by
 unfold jk
 unfold iD at h ⊢
 split at h
 ·rename_i h34
  rw[if_pos h34]
  rcases qp 34 (s.drop 1) with⟨e,_⟩ | ⟨a,b,e,_,_,hn⟩
  ·rw[e] at h; cases h
  ·rw[e] at h ⊢
   simp only at h ⊢
   unfold gm at h ⊢
   simp only[Bool.and_eq_true,List.all_eq_true] at h
   rw[h.2,Bool.and_true,Bool.not_eq_false',List.all_eq_true]
   intro c hc
   have h1:=h.1 c hc
   rw[yU] at h1
   unfold okB
   rw[h1,Bool.true_and,Bool.not_eq_true',decide_eq_false_iff_not,List.mem_singleton]
   rintro rfl
   exact hn hc
 ·rename_i h34
  rw[if_neg h34]
  split at h
  ·cases h
  ·rename_i hi
   rw[if_neg hi]
   simp only at h ⊢
   rw[h]; rfl
theorem GG:∀ (k:Nat) (s:List UInt8) (acc vs:List (List UInt8)) (r:List UInt8),(∀ v∈acc,jk v=false)→gH k s acc=some (vs,r)→vs≠[]∧∀ v∈vs,jk v=false
 | 0,_,_,_,_,_,h=>by cases h
 | k + 1,s,acc,vs,r,ha,h=>by
   rw[gH] at h
   cases hv:iD (s.drop 1) with
   | mk v p =>
   obtain⟨after,ok⟩:=p
   rw[hv] at h
   simp only at h
   cases ok with
   | false=>simp at h
   | true =>
     have hb:jk v=false:=by
      have:=RP (s:=s.drop 1) (by rw[hv])
      rw[hv] at this; exact this
     have ha' : ∀ w∈acc++[v],jk w=false:=fun w hw=>by
      rcases List.mem_append.1 hw with hw | hw
      ·exact ha w hw
      ·simp at hw; subst hw; exact hb
     simp only[if_true] at h
     split at h
     ·exact GG k _ _ _ _ ha' h
     ·cases h
      exact⟨by simp,ha'⟩
theorem Jw:∀ (k:Nat) (s:List UInt8) (acc ps:List gF) (r:List UInt8),(∀ p∈acc,jK bF p=true)→kY bF k s acc=some (ps,r)→∀ p∈ps,jK bF p=true
 | 0,_,_,_,_,_,h=>by cases h
 | k + 1,s,acc,ps,r,ha,h=>by
   rw[kY] at h
   split at h
   ·split at h
    ·rename_i hg
     cases hv:gH ((s.drop 1).drop (wk (s.drop 1))).length ((s.drop 1).drop (wk (s.drop 1))) [] with
     | none=>rw[hv] at h; cases h
     | some x =>
       obtain⟨vs,s3⟩:=x
       rw[hv] at h
       simp only at h
       obtain⟨hne,hvs⟩:=GG _ _ _ _ _ (by simp) hv
       refine Jw k _ _ _ _ (fun p hp=>?_) h
       rcases List.mem_append.1 hp with hp | hp
       ·exact ha p hp
       ·simp only[List.mem_singleton] at hp
        subst hp
        rw[Bool.and_eq_true] at hg
        unfold jK
        have hl:¬ vs.length=0:=fun e=>hne (List.eq_nil_of_length_eq_zero e)
        have ha:vs.any jk=false:=by rw[List.any_eq_false]; exact fun v hv=>by rw[hvs v hv]; simp
        simp only[hg.1,ha,decide_eq_false hl]
        rfl
    ·cases h
   ·cases h; exact ha
theorem U4 {s:List UInt8} {L:Ln} (h:SS s=some L) : ig bF L=true:=by
 rw[← Iq] at h
 unfold iH at h
 split at h
 ·cases hh:pE bF s with
  | none=>rw[hh] at h; cases h
  | some x =>
    obtain⟨g,n,r⟩:=x
    rw[hh] at h
    simp only at h
    have hg:g=[]∨fB bF g=true:=by
     unfold pE at hh
     split at hh
     ·split at hh
      ·rename_i hgn
       cases hh; exact .inr hgn
      ·cases hh
     ·cases hh; exact .inl rfl
    unfold wZ at h
    cases hp:ou bF r with
    | none=>rw[hp] at h; cases h
    | some y =>
      obtain⟨ps,q⟩:=y
      rw[hp] at h
      simp only at h
      split at h
      ·rename_i hc
       cases h
       have hps:=Jw _ _ _ _ _ (by simp) hp
       simp only[Bool.and_eq_true] at hc
       unfold ig
       simp only[hc.1.1,hc.2,Bool.not_true,Bool.or_false]
       rw[Bool.and_eq_true]
       refine⟨?_,by rw[List.all_eq_true]; exact hps⟩
       rcases hg with rfl | hg
       ·rfl
       ·rw[hg]; simp
      ·cases h
 ·cases h
def GX (f:List UInt8→List UInt8) (s:List UInt8) : List (Ln × Int) × Int × Int:=match wH f s with
 | .ok ls=>(ls,0,0)
 | .bad k e=>([],k,e)
def abv (B:Base) (f:List UInt8→List UInt8) (c:aj) : Prop:=∀ {M:RM} {s:List UInt8} {Q:ai},M.base=B→s.length≤100000000 →
 (∀ v M',ae [] M M'→bE iO M' v (GX f s).1 (fun b=>M.next≤b)→(GX f s).1.length≤s.length + 1→(∀ x∈(GX f s).1,Small 912 x.1)→Q (.tup [v,N .i64 (GX f s).2.1,N .i64 (GX f s).2.2]) M')→c [St s] M Q
theorem vY.one {B:Base} {f:List UInt8→List UInt8} {c:aj} (h:vY B f c) : abv B f c:=by
 intro M s Q hM hl hQ
 refine h hM hl ?_ ?_
 ·intro v M' ls k hls hsl hle
  have e:GX f s=(ls,0,0):=by unfold GX; rw[hls]
  rw[e] at hQ
  exact hQ v M' k hsl hle (u7 _ _ _ (by simp) hls)
 ·intro M' k e kk hb
  have he:GX f s=([],k,e):=by unfold GX; rw[hb]
  rw[he] at hQ
  exact hQ aB M' kk bE.nil (by simp) (by simp)
theorem Te {c:UInt8} (h:dz c=true) : c.toNat≠10∧c.toNat≠13:=by
 unfold dz at h
 simp only[Bool.or_eq_true,Bool.and_eq_true,decide_eq_true_eq] at h
 omega
theorem NA {v:List UInt8} (h:∀ c∈v,dz c=true) : ∀ c∈qv v,dz c=true:=by
 unfold qv
 split
 ·intro c hc
  simp only[List.mem_append,List.mem_singleton] at hc
  rcases hc with(rfl | hc) | rfl
  ·rfl
  ·exact h c hc
  ·rfl
 ·exact h
theorem Ey:∀ {vs:List (List UInt8)},(∀ v∈vs,∀ c∈v,dz c=true)→∀ c∈tailV vs,dz c=true
 | [],_,c,hc=>by cases hc
 | v :: vs,h,c,hc=>by
   have e:tailV (v :: vs)=[44]++(qv v++tailV vs):=by simp[tailV]
   rw[e] at hc
   simp only[List.mem_append,List.mem_singleton] at hc
   rcases hc with rfl | hc | hc
   ·rfl
   ·exact NA (h v (by simp)) c hc
   ·exact Ey (fun w hw=>h w (by simp[hw])) c hc
theorem Ru {p:gF} (h:jK bF p=true) : ∀ c∈eX p,dz c=true:=by
 obtain⟨hn,_,hvs⟩:=wP h
 obtain⟨_,_,g3⟩:=jv hn
 have hv:∀ v∈p.2,∀ c∈v,dz c=true:=fun v hv c hc=>((zV (hvs v hv)).1 c hc).1
 intro c hc
 unfold eX at hc
 simp only[List.mem_append,List.mem_singleton,List.mem_map] at hc
 rcases hc with((rfl | ⟨d,hd,rfl⟩) | rfl) | hc
 ·rfl
 ·exact(ji d (g3 d hd)).2.2.2.2.2.2.1
 ·rfl
 ·cases hp:p.2 with
  | nil=>rw[hp] at hc; cases hc
  | cons v vs =>
    rw[hp] at hc hv
    simp only[gG,List.mem_append] at hc
    rcases hc with hc | hc
    ·exact NA (hv v (by simp)) c hc
    ·exact Ey (fun w hw=>hv w (by simp[hw])) c hc
theorem Qx {L:Ln} (h:ig bF L=true) : ∀ c∈ek L,dz c=true:=by
 obtain⟨h1,h2,h3,h4,h5⟩:=rR h
 obtain⟨_,_,g3⟩:=jv h2
 intro c hc
 unfold ek rq at hc
 simp only[List.mem_append,List.mem_singleton,List.mem_flatMap,List.mem_map] at hc
 rcases hc with((hc | ⟨d,hd,rfl⟩ | ⟨p,hp,hc⟩) | rfl) | hc
 ·unfold iY at hc
  split at hc
  ·cases hc
  ·rename_i hne
   simp only[List.mem_append,List.mem_singleton] at hc
   rcases hc with hc | rfl
   ·exact(ji c ((jv (h1.resolve_left hne)).2.2 c hc)).2.2.2.2.2.2.2
   ·rfl
 ·exact(ji d (g3 d hd)).2.2.2.2.2.2.1
 ·exact Ru (h5 p hp) c hc
 ·rfl
 ·exact h3 c hc
theorem XN (L:Ln) : ek L≠[]:=by unfold ek; simp
theorem RQ {L:Ln} (h:ig bF L=true) : qc (ek L):=fun c hc=>(Te (Qx h c hc)).1
theorem Sj {L:Ln} (h:ig bF L=true) : (bU [] (fo 0 (ek L)++[13,10])).foldl glue []=[ek L]:=MW _ (Nat.le_refl _) (RQ h)
theorem TT (v:List UInt8) : (qv v).length≤v.length + 2:=by
 unfold qv; split
 ·simp
 ·omega
end Go.Ab.Vl
namespace Go.Ab.Vl
open Go Go.Ab Go.Ab.Sm
theorem LB.mono {N K:Nat} {L:Ln} (h:LB N L) (hk:N≤K) : LB K L :=
 ⟨Nat.le_trans h.g hk,Nat.le_trans h.n hk,Nat.le_trans h.v hk,Nat.le_trans h.ps hk,fun p hp=>Nat.le_trans (h.pn p hp) hk,fun p hp=>Nat.le_trans (h.pl p hp) hk,fun p hp v hv=>Nat.le_trans (h.pv p hp v hv) hk⟩
end Go.Ab.Vl
namespace Go.Ab.Vc
open Go Go.Ab
abbrev Str:=List UInt8
abbrev NU:=Str × Nat × Nat
def toC (t:NU) : AV × AV × Nat:=(St t.1,N .i64 (t.2.1:Int),t.2.2)
def ql:List NU→Str→Option Nat
 | [],_=>none
 | t :: T,s=>if s=t.1 then some t.2.1 else ql T s
def Jc (s:Str) (v:Nat) : List NU→List NU
 | []=>[]
 | t :: T=>if s=t.1 then(s,v,t.2.2) :: T else t :: Jc s v T
theorem MI (s:Str) : ∀ (T:List NU) (i:Nat),(ql T s=none∧mK false [2] [St s] (T.map toC) i=some none) ∨
  ∃ j v,ql T s=some v∧mK false [2] [St s] (T.map toC) i=some (some (i + j,N .i64 ((v:Nat) : Int)))∧∀ w:Nat,Fy (St s) (N .i64 (w:Int)) (T.map toC) j=(Jc s w T).map toC
 | [],i=>.inl ⟨rfl,rfl⟩
 | t :: T,i=>by
   simp only[List.map_cons,toC,mK,fJ,ql,Jc]
   rw[if_pos (show([St t.1] : List AV).length=([2] : List Nat).length from rfl),Bb]
   by_cases hs:s=t.1
   ·simp only[if_pos hs,Hl]
    exact .inr ⟨0,t.2.1,rfl,rfl,fun w=>rfl⟩
   ·simp only[if_neg hs]
    rcases MI s T (i + 1) with⟨h1,h2⟩ | ⟨j,v,h1,h2,h3⟩
    ·exact .inl ⟨h1,h2⟩
    ·refine .inr ⟨j + 1,v,h1,by rw[h2,show i + 1 + j=i + (j + 1) by omega],fun w=>?_⟩
     rw[Fy,h3 w]; rfl
theorem Ux (s x:Str) (w:Nat) : ∀ (T:List NU) {v:Nat},ql T s=some v→ql (Jc s w T) x=if x=s then some w else ql T x
 | [],v,h=>by cases h
 | t :: T,v,h=>by
   rw[ql] at h
   rw[Jc,ql]
   by_cases hs:s=t.1
   ·rw[if_pos hs,ql]
    by_cases hx:x=s
    ·rw[if_pos hx,if_pos hx]
    ·rw[if_neg hx,if_neg hx,if_neg (fun e=>hx (e.trans hs.symm))]
   ·rw[if_neg hs] at h
    rw[if_neg hs,ql,Ux s x w T h]
    by_cases hx:x=t.1
    ·rw[if_pos hx,if_pos hx,if_neg (fun e=>hs (e.symm.trans hx))]
    ·rw[if_neg hx,if_neg hx]
theorem Pw (s x:Str) (w k:Nat) : ∀ (T:List NU),ql T s=none→ql (T++[(s,w,k)]) x=if x=s then some w else ql T x
 | [],_=>rfl
 | t :: T,h=>by
   rw[ql] at h
   by_cases hs:s=t.1
   ·rw[if_pos hs] at h; cases h
   ·rw[if_neg hs] at h
    rw[List.cons_append,ql,Pw s x w k T h,ql]
    by_cases hx:x=t.1
    ·rw[if_pos hx,if_pos hx,if_neg (fun e=>hs (e.symm.trans hx))]
    ·rw[if_neg hx,if_neg hx]
structure ll (M:RM) (mb:Nat) (f:Str→Nat) : Prop where
 lt:mb<M.next
 ex:∃ T cl,M.heap mb=some (.map (T.map toC) cl)∧∀ s,f s=(ql T s).getD 0
section
variable {M M' : RM} {mb:Nat} {f:Str→Nat} {ks:List Nat} {s:Str}
theorem ll.keep (h:ll M mb f) (k:ae ks M M') (hd:mb ∉ ks) : ll M' mb f :=
 ⟨Nat.lt_of_lt_of_le h.lt k.next,let ⟨T,cl,h1,h2⟩:=h.ex; ⟨T,cl,k.ax h1 h.lt hd,h2⟩⟩
theorem ll.look (h:ll M mb f) {K:AV→Prop} (hK:K (N .i64 (f s:Int))) : uz false [2] (N .i64 (0:Int)) false M (.map mb) (St s) K:=by
 obtain⟨T,cl,h1,h2⟩:=h.ex
 have h2:=h2 s
 rcases MI s T 0 with⟨a1,a2⟩ | ⟨j,v,a1,a2,a3⟩
 ·rw[a1] at h2
  refine⟨mb,_,cl,[St s],none,rfl,h1,rfl,rfl,a2, ?_⟩
  rw[h2] at hK; exact hK
 ·rw[a1] at h2
  refine⟨mb,_,cl,[St s],_,rfl,h1,rfl,rfl,a2, ?_⟩
  rw[h2] at hK; exact hK
theorem ll.upd (h:ll M mb f) {w:Nat} {K:RM→Prop} (hK:∀ M',ll M' mb (fun x=>if x=s then w else f x)→ae [mb] M M'→M'.next=M.next→K M') : yJ false [2] M (.map mb) (St s) (N .i64 (w:Int)) K:=by
 obtain⟨T,cl,h1,h2⟩:=h.ex
 rcases MI s T 0 with⟨a1,a2⟩ | ⟨j,v,a1,a2,a3⟩
 ·refine⟨mb,_,cl,[St s],none,rfl,h1,rfl,rfl,a2,hK _ ⟨h.lt,T++[(s,w,cl)],cl + 1, ?_,fun x=>?_⟩ ((ae.refl _ _).put _ (.inr (by simp))) rfl⟩
  ·rw[ay]; simp[VK,toC]
  ·rw[Pw s x w cl T a1,h2 x]; split <;> rfl
 ·refine⟨mb,_,cl,[St s],_,rfl,h1,rfl,rfl,a2,hK _ ⟨h.lt,Jc s w T,cl, ?_,fun x=>?_⟩ ((ae.refl _ _).put _ (.inr (by simp))) rfl⟩
  ·rw[ay]; simp only[VK,Nat.zero_add]; rw[a3 w]
  ·rw[Ux s x w T a1,h2 x]; split <;> rfl
theorem ll.new (M:RM) : ll (M.push (.map [] 0)) M.next (fun _=>0):=⟨Nat.lt_succ_self _,[],0,RM.aS _,fun s=>rfl⟩
end
end Go.Ab.Vc
namespace Go.Ab.Vc
open Go Go.Ab Go.Ab.Vl Go.Ab.Sm
def mY:Str:=[44,59,58,35]
def ES (s:Str) : Bool:=s.any fun c=>decide (c∈mY)
def q4 (v:Str) : Str:=if ES v then[34]++v++[34] else v
def oq (vs:List Str) : Str:=vs.flatMap fun v=>44 :: q4 v
def uh:List Str→Str
 | []=>[]
 | v :: vs=>q4 v++oq vs
def xG (p:gF) : Str:=[59]++p.1++[61]++uh p.2
def jN (ps:List gF) : Str:=ps.flatMap xG
def dF (L:Ln) : Str:=iY L++(L.n++jN L.ps)
abbrev gq:Str:=[114,97,119]
abbrev rT:Str:=[98,101,103,105,110]
abbrev iE:Str:=[118,101,114,115,105,111,110]
abbrev CW:Str:=[101,110,100]
abbrev jG:Str:=[117,105,100]
abbrev cz:Str:=[118,99,97,114,100]
abbrev Tg:Str:=[52,46,48]
def O9:List Str:=[[102,110],[110,105,99,107,110,97,109,101],[116,101,108],[101,109,97,105,108],[110,111,116,101],[111,114,103],[116,105,116,108,101],[114,111,108,101],[99,97,116,101,103,111,114,105,101,115]]
def yE (n:Str) : Bool:=decide (n∈O9)
def xQ (n:Str) : Bool:=decide (n=rT) || decide (n=iE) || decide (n=CW)
abbrev Fd:=Str × Str
def aT (L:Ln) : Fd :=
 if yE L.n then match fA L.v with
  | some s=>if esc s=L.v then(dF L,s) else(gq++[46]++dF L,L.v)
  | none=>(gq++[46]++dF L,L.v)
 else(dF L,L.v)
def gQ (n:Str) (k:Int) : Str:=if k=0 then n else n++[35]++Lib.itoa (IntKind.wrap .i64 (k + 1))
def jy (L:Ln) (k:Int) : Fd × Bool :=
 if (gB bF L).2=0∧L.g≠gq∧xQ L.n=false∧0≤k then((gQ (aT L).1 k,(aT L).2),true) else(([],[]),false)
def fH (L:Ln) (name:Str) : Bool :=
 decide (L.n=name) && decide (L.g=[]) && decide (L.ps.length=0) && (if name=iE then decide (L.v=Tg) else decide (L.v.map bV=cz))
def dJ (b:Int) : List (Ln × Int)→List (Ln × Int)→Except Int (List (Ln × Int) × List (Ln × Int))
 | [],_=>.error b
 | x :: r,acc=>if fH x.1 CW then .ok (acc,r) else if xQ x.1.n || decide (x.1.g=gq) then .error x.2 else dJ b r (acc++[x])
def iL:Nat→List (Ln × Int)→List (List (Ln × Int))→Except Int (List (List (Ln × Int)))
 | 0,_,acc=>.ok acc
 | _ + 1,[],acc=>.ok acc
 | k + 1,x :: r,acc=>if fH x.1 rT=false then .error x.2 else match r with
   | []=>.error x.2
   | y :: r=>if fH y.1 iE=false then .error y.2 else match dJ x.2 r [x] with
     | .error e=>.error e
     | .ok (c,r')=>iL k r' (acc++[c])
abbrev Cd:=Str × List Fd × Int
def eu (ns:List Str) (n:Str) : Nat:=ns.countP (· = n)
def iU:List (Ln × Int)→List Str→List Fd→Except (Int × Int) (List Fd)
 | [],_,acc=>.ok acc
 | x :: r,ns,acc =>
   if 64<(gQ (aT x.1).1 (eu ns (aT x.1).1)).length∨512<(aT x.1).2.length then .error (x.2,2)
   else iU r (ns++[(aT x.1).1]) (acc++[(gQ (aT x.1).1 (eu ns (aT x.1).1),(aT x.1).2)])
def pV (fs:List Fd) : Str:=fs.flatMap fun p=>p.1++[0]++p.2++[0]
def jh (h:Str→Str) (ls:List (Ln × Int)) (all:Str) : Str:=match ls.find? fun x=>decide (x.1.n=jG) && decide (x.1.g=[]) with
 | some x=>if 1≤x.1.v.length∧x.1.v.length≤64 then x.1.v else[99,45]++(h all).take 16
 | none=>[99,45]++(h all).take 16
def jL (h:Str→Str) : List (Ln × Int)→Except (Int × Int) Cd
 | []=>.error (0,0)
 | b :: ls=>match iU ls [] [] with
   | .error e=>.error e
   | .ok fs=>.ok (jh h ls (pV fs),fs,b.2)
def eP (h:Str→Str) : List (List (Ln × Int))→List Cd→Except (Int × Int) (List Cd)
 | [],acc=>.ok acc
 | l :: r,acc=>match jL h l with
   | .error e=>.error e
   | .ok c=>eP h r (acc++[c])
def mr (h:Str→Str) (s:Str) : Except (Int × Int) (List Cd):=match wH bF s with
 | .bad k e=>.error (k,e)
 | .ok ls=>match iL (ls.length + 1) ls [] with
   | .error w=>.error (w,3)
   | .ok cs=>eP h cs []
def eB (s:Str) : Str × Str:=(s.takeWhile (cO.contains ·),s.dropWhile (cO.contains ·))
def sN (s:Str) : Str × Str × Bool :=
 if aN 34 s then match brk 34 (s.drop 1) with
  | some (a,b)=>(a,b,true)
  | none=>(s.drop 1,[],false)
 else if Lib.indexAny s mY<0 then(s,[],true) else(s.take (Lib.indexAny s mY).toNat,s.drop (Lib.indexAny s mY).toNat,true)
def jb:Nat→Str→List Str→Option (List Str × Str)
 | 0,_,_=>none
 | k + 1,s,acc=>match sN (s.drop 1) with
   | (v,r,true)=>if aN 44 r then jb k r (acc++[v]) else some (acc++[v],r)
   | _=>none
def kZ:Nat→Str→List gF→Option (List gF × Str)
 | 0,_,_=>none
 | k + 1,s,acc=>if aN 59 s then
     if aN 61 (eB (s.drop 1)).2 then match jb (eB (s.drop 1)).2.length (eB (s.drop 1)).2 [] with
      | some (vs,r)=>kZ k r (acc++[((eB (s.drop 1)).1,vs)])
      | none=>none
     else none
   else some (acc,s)
def PL:Ln:=⟨[],[],[],[]⟩
def AR (s:Str) : Int × Bool:=match Lib.atoiAll s with
 | .ok v=>(v,true)
 | .range=>(Lib.atoiSat s,false)
 | _ => (0, false)
def nN (s:Str) : Int × Bool :=
 let a:=AR (if aN 35 s then s.drop 1 else s)
 (IntKind.wrap .i64 (a.1 - 1),aN 35 s && a.2 && decide (a.1 ≥ 2))
def Bl (s:Str) : Ln × Int × Bool :=
 let h:Str × Str × Str:=if aN 46 (eB s).2 then((eB s).1,(eB ((eB s).2.drop 1)).1,(eB ((eB s).2.drop 1)).2) else([],(eB s).1,(eB s).2)
 match kZ (h.2.2.length + 1) h.2.2 [] with
 | none=>(PL,0,false)
 | some (ps,r)=>if r=[] then(⟨h.1,h.2.1,ps,[]⟩,0,true) else(⟨h.1,h.2.1,ps,[]⟩,nN r)
def gV:Str:=[114,97,119,46]
def bR (p:Fd) : Ln × Int × Bool :=
 let raw:=decide (p.1.take 4=gV)
 let u:=Bl (if raw then p.1.drop 4 else p.1)
 let L:Ln := { u.1 with v:=if !raw && yE u.1.n then esc p.2 else p.2 }
 (L,u.2.1,u.2.2 && (jy L u.2.1).2 && decide ((jy L u.2.1).1=p))
def jJ (p:Fd) : Bool:=(bR p).2.2 && decide (p.1.length≤64) && decide (p.2.length≤512)
abbrev Dw:Str:=[66,69,71,73,78,58,86,67,65,82,68,13,10,86,69,82,83,73,79,78,58,52,46,48,13,10]
abbrev D5:Str:=[69,78,68,58,86,67,65,82,68,13,10]
def qd:List Fd→List Str→Str→Option Str
 | [],_,acc=>some (acc++D5)
 | p :: r,ns,acc =>
   if jJ p=false then none
   else if (eu ns (aT (bR p).1).1:Int)≠(bR p).2.1 then none
   else qd r (ns++[(aT (bR p).1).1]) (acc++(gB bF (bR p).1).1)
def kX (fs:List Fd) : Option Str:=qd fs [] Dw
end Go.Ab.Vc
namespace Go.Ab
open Go Go.RowKit
def wd (ds:List Deferred) (a:Act) : Act := { a with defers:=ds }
section
variable {P:Program} {Q0:Act→World→Prop} {K K' : Act→World→Prop} {Q' : Exit→Act→World→Prop} {r:Option Nat} {n:Nat} {ds:List Deferred}
end
section
variable {P:Program} {nt:Nat} {ops:Array Oper} {M0:RM} {ρ0 ρ:Ren} {w0 w:World} {a:Act}
end
def ZU (ρ:Ren) (c:Nat) : Prop:=∀ b i,ρ b=some i→i.cb≠c
def aaH (D:Nat) : Deferred := { target:=.collected D,args := #[] }
structure ZP (n0:Nat) (ρ:Ren) (w:World) (Ds:List Nat) : Prop where
 nodup:Ds.Nodup
 all:∀ D∈Ds,n0≤D∧w.heap[D]?=some (.deferred (some []))∧ZU ρ D
inductive Head:AV→Nat→Prop
 | nil:Head (.sc (.slice none 0 0)) 0
 | emp (b:Nat) : Head (.emp b) 0
 | ex (b o len c:Nat) : len≤c→Head (.slc b o len (.ex c)) len
 | op (b o len:Nat) : Head (.slc b o len (.op 1)) len
section
variable {P:Program} {nt ret:Nat}
def Q6 (P:Program) (nt n0:Nat) (rg:Bool) (Ds:List Nat) (M:RM) (ρ:Ren) (w:World) (T:Tree AV) (asg:Nat) (K:K3) (e:Exit) (a' : Act) (w' : World) : Prop :=
 ∃ x T' M' ρ' a0 Ds',e=aaI x∧a'=wd (Ds'.map aaH) a0∧(rg=false→Ds'=Ds)∧ZP n0 ρ' w' Ds'∧After P M ρ w M' ρ' w'∧ic ρ' nt T' a0∧(∀ t,Nat.testBit asg t=false→T'.get t=T.get t)∧K x T' M'
theorem Q6.trans {n0:Nat} {rg:Bool} {Ds Ds1:List Nat} {M M1:RM} {ρ ρ1:Ren} {w w1:World} {T T1:Tree AV} {asg Yh:Nat} {K:K3} (h:After P M ρ w M1 ρ1 w1) (hds:rg=false→Ds1=Ds) (hk:∀ t,Nat.testBit asg t=false→Nat.testBit Yh t=false∧T1.get t=T.get t) {e:Exit} {a' : Act} {w' : World}
  (q:Q6 P nt n0 rg Ds1 M1 ρ1 w1 T1 Yh K e a' w') : Q6 P nt n0 rg Ds M ρ w T asg K e a' w':=by
 obtain⟨x,T',M',ρ',a0,Ds',h1,h2,hx,h3,h4,h5,h6,h7⟩:=q
 exact⟨x,T',M',ρ',a0,Ds',h1,h2,fun hr=>(hx hr).trans (hds hr),h3,h.trans h4,h5,fun t ht=>by obtain⟨k1,k2⟩:=hk t ht; rw[h6 t k1,k2],h7⟩
end
end Go.Ab
set_option maxRecDepth 100000
namespace Go.Ab.Vc
open Go Go.Ab
def ni (p1 p2 p3 p4:aj) (a0:AV) (M0:RM) (Q:ai) : Prop:=p1 [] M0 fun wv p=>eY wv fun ww=>au ww ( Q (Bo false) p) ( aQ a0 fun wx=>af .gtr wx (N .i64 5000) fun wy=>au wy ( Q (Bo true) p) ( p2 [a0] p fun v x=>aK v 0 fun e=>aK v 1 fun yw=>aK v 2 fun wz=>af .neq wz (N .i64 0) fun w0=>au w0 ( Q (Bo true) x) ( bA (fun v2 l q=>bZ e fun w1=>af .lss (ag l 1) w1 fun w2=>au w2 ( aX e (ag l 1) 3 fun w4=>aH q w4 3 fun w5=>p3 [w5] q fun va s=>aK va 0 fun w6=>aK va 1 fun vb=>af .neq vb (N .i64 0) fun w7=>au w7 ( af .eql vb (N .i64 1) fun i=>aa i true (fun c=>c e s) (fun c=>c .undef s) fun w8 E=>aa i true (fun vn=>vn (ag l 1) E) (fun c=>c .undef E) fun w9 O=>aa i true (fun vt=>aX w8 w9 3 fun xa=>vt xa O) (fun c=>c .undef O) fun xb X=>aa i true (fun v1=>aF xb 1 fun xc=>v1 xc X) (fun c=>c .undef X) fun xd r=>aa i true (fun ve=>ak r xd fun xe=>ve xe r) (fun c=>c .undef r) fun xf y=>aa i true (fun vf=>p4 [xf] y fun xg vc=>vf xg vc) (fun c=>c .undef y) fun xh z=>aa i true (fun vg=>eY xh fun xi=>vg xi z) (fun c=>c .undef z) fun xj vd=>aD i xj (Bo false) fun xk=>Q xk vd) ( bn .add (ag l 0) w6 fun xl=>af .add (ag l 1) (N .i64 1) fun w3=>v2 [xl,w3] s)) ( p2 [(ag l 0)] q fun w A=>aK w 0 fun n=>aK w 1 fun yx=>aK w 2 fun xm=>af .neq xm (N .i64 0) fun j=>aa j false (fun vh=>vh n A) (fun c=>c .undef A) fun xn B=>aa j false (fun vi=>bZ xn fun xo=>vi xo B) (fun c=>c .undef B) fun xp C=>aa j false (fun vj=>vj e C) (fun c=>c .undef C) fun xq D=>aa j false (fun vk=>bZ xq fun xr=>vk xr D) (fun c=>c .undef D) fun xs F=>aa j false (fun vl=>af .neq xp xs fun xt=>vl xt F) (fun c=>c .undef F) fun xu G=>aD j (Bo true) xu fun xv=>au xv ( Q (Bo false) G) ( bA (fun v3 g m=>bZ e fun xw=>af .lss (ag g 0) xw fun xx=>au xx ( aX n (ag g 0) 3 fun xz=>aF xz 0 fun x0=>ak m x0 fun x1=>aX e (ag g 0) 3 fun x2=>aF x2 0 fun x3=>ak m x3 fun x4=>bn .neq x1 x4 fun d=>aI d false (fun vm=>vm n m none) (fun c=>c .undef m none) fun x5 H yj=>aI d false (fun vo=>vo (ag g 0) H none) (fun c=>c .undef H none) fun x6 I yk=>aI d false (fun vp=>aX x5 x6 3 fun x7=>vp x7 I none) (fun c=>c .undef I none) fun x8 L yl=>aI d false (fun vq=>aF x8 1 fun x9=>vq x9 L none) (fun c=>c .undef L none) fun ya t ym=>aI d false (fun vr=>ak t ya fun yb=>vr yb t none) (fun c=>c .undef t none) fun yc P yn=>aI d false (fun vs=>bZ yc fun yd=>vs yd P none) (fun c=>c .undef P none) fun ye R yo=>aI d false (fun vu=>vu e R none) (fun c=>c .undef R none) fun yf S yp=>aI d false (fun vv=>vv (ag g 0) S none) (fun c=>c .undef S none) fun yg U yq=>aI d false (fun vw=>aX yf yg 3 fun yh=>vw yh U none) (fun c=>c .undef U none) fun yi V yr=>aI d false (fun vx=>aF yi 1 fun v5=>vx v5 V none) (fun c=>c .undef V none) fun v6 u ys=>aI d false (fun vy=>ak u v6 fun v7=>vy v7 u none) (fun c=>c .undef u none) fun v8 W yt=>aI d false (fun vz=>bZ v8 fun v9=>vz v9 W none) (fun c=>c .undef W none) fun wa Y yu=>aI d false (fun v0=>af .neq ye wa fun wb=>v0 wb Y none) (fun c=>c .undef Y none) fun wc Z yv=>aD d (Bo true) wc fun wd=>au wd ( Q (Bo false) Z) ( bA (fun v4 o h=>aX e (ag g 0) 3 fun we=>aF we 1 fun wf=>ak h wf fun wg=>bZ wg fun wh=>af .lss (ag o 0) wh fun wi=>au wi ( aX n (ag g 0) 3 fun wk=>aF wk 1 fun wl=>ak h wl fun wm=>aX wm (ag o 0) 2 fun wn=>aH h wn 2 fun wo=>aX e (ag g 0) 3 fun wp=>aF wp 1 fun wq=>ak h wq fun wr=>aX wr (ag o 0) 2 fun ws=>aH h ws 2 fun wt=>mh true [2,2] wo wt fun wu=>au wu ( Q (Bo false) h) ( af .add (ag o 0) (N .i64 1) fun wj=>v4 [wj] h)) ( af .add (ag g 0) (N .i64 1) fun xy=>v3 [xy] h)) [(N .i64 0)] Z)) ( Q (Bo true) m)) [(N .i64 0)] G))) [(St []),(N .i64 0)] x)))
def sQ (p1 p2 p3:aj) (p4:Nat) (p5:aj) (p6:Nat) (p7:aj) (M0:RM) (Q:ai) : Prop:=p1 [(St [66,69,71,73,78,58,86,67,65,82,68,10,86,69,82,83,73,79,78,58,52,46,48,10,70,78,58,65,110,110,92,44,32,66,10,84,69,76,59,84,89,80,69,61,104,111,109,101,58,49,10,84,69,76,59,84,89,80,69,61,104,111,109,101,58,50,10,69,78,68,58,86,67,65,82,68,10])] M0 fun H V=>aK H 0 fun g=>aK H 1 fun c2=>aK H 2 fun c3=>af .neq c3 (N .i64 0) fun L=>aa L false (fun c=>c c2 V) (fun c=>c .undef V) fun c4 W=>aa L false (fun wv=>af .neq c4 (N .i64 0) fun c5=>wv c5 W) (fun c=>c .undef W) fun c6 v1=>aD L (Bo true) c6 fun p=>aa p false (fun x2=>x2 g v1) (fun c=>c .undef v1) fun c7 v6=>aa p false (fun x8=>bZ c7 fun c8=>x8 c8 v6) (fun c=>c .undef v6) fun c9 we=>aa p false (fun yh=>af .neq c9 (N .i64 1) fun d0=>yh d0 we) (fun c=>c .undef we) fun d1 Z=>aD p (Bo true) d1 fun j=>aa j false (fun w1=>w1 g Z) (fun c=>c .undef Z) fun d2 ve=>aa j false (fun w7=>aX d2 (N .i64 0) 3 fun d3=>w7 d3 ve) (fun c=>c .undef ve) fun d4 vl=>aa j false (fun xg=>aF d4 1 fun d5=>xg d5 vl) (fun c=>c .undef vl) fun d6 w=>aa j false (fun xp=>ak w d6 fun d7=>xp d7 w) (fun c=>c .undef w) fun d8 vy=>aa j false (fun xy=>bZ d8 fun d9=>xy d9 vy) (fun c=>c .undef vy) fun e0 v0=>aa j false (fun xz=>af .neq e0 (N .i64 3) fun e1=>xz e1 v0) (fun c=>c .undef v0) fun e2 B=>aD j (Bo true) e2 fun e3=>au e3 ( Q (Bo false) B) ( aX g (N .i64 0) 3 fun e4=>aH B e4 3 fun e5=>p2 [e5] B fun wl wq=>aK wl 0 fun e6=>aK wl 1 fun e7=>p1 [e6] wq fun O C=>aK O 0 fun P=>aK O 1 fun s3=>aK O 2 fun e8=>aX g (N .i64 0) 3 fun e9=>aF e9 1 fun g0=>ak C g0 fun g1=>aX g1 (N .i64 2) 2 fun g2=>aH C g2 2 fun g3=>p3 [g3] C fun wm wr=>aK wm 0 fun g4=>aK wm 1 fun g5=>aZ (.row [(St []),(St []),(.sc (.slice none 0 0)),(St []),(N .i64 0)] false p4 0) (fun n=>.ptr n 0) wr fun U ws=>aA ws U g4 5 fun v2=>aH v2 U 5 fun g6=>p5 [g6,(N .i64 1)] v2 fun wn wt=>aK wn 0 fun g7=>aK wn 1 fun g8=>aZ (.row [(St []),(St [])] false p6 0) (fun n=>.ptr n 0) wt fun F wu=>aA wu F g7 2 fun m=>aX g (N .i64 0) 3 fun g9=>aF g9 1 fun h0=>ak m h0 fun h1=>aX h1 (N .i64 0) 2 fun h2=>aH m h2 2 fun h3=>eQ [(St []),(St [])] [(0,1,(St [102,110])),(1,1,(St [65,110,110,44,32,66]))] fun h4=>mh false [2,2] h3 h4 fun h=>aI h true (fun x0=>x0 g m none) (fun c=>c .undef m none) fun h5 v3 n=>aI h true (fun x1=>aX h5 (N .i64 0) 3 fun h6=>x1 h6 v3 none) (fun c=>c .undef v3 none) fun h7 v4 q7=>aI h true (fun x3=>aF h7 1 fun h8=>x3 h8 v4 none) (fun c=>c .undef v4 none) fun h9 D q8=>aI h true (fun x4=>ak D h9 fun i0=>x4 i0 D none) (fun c=>c .undef D none) fun i1 v5 q9=>aI h true (fun x5=>aX i1 (N .i64 2) 2 fun i2=>x5 i2 v5 none) (fun c=>c .undef v5 none) fun i3 E r0=>aI h true (fun x6=>aH E i3 2 fun i4=>x6 i4 E none) (fun c=>c .undef E none) fun i5 v7 r1=>aI h true (fun x7=>eQ [(St []),(St [])] [(0,1,(St [116,101,108,59,116,121,112,101,61,104,111,109,101,35,50])),(1,1,(St [50]))] fun i6=>x7 i6 v7 none) (fun c=>c .undef v7 none) fun i7 v8 r2=>aI h true (fun x9=>mh false [2,2] i5 i7 fun i8=>x9 i8 v8 none) (fun c=>c .undef v8 none) fun i9 v9 r3=>aD h i9 (Bo false) fun R=>aI R true (fun ya=>ya e7 v9 none) (fun c=>c .undef v9 none) fun j0 wa r4=>aI R true (fun yb=>af .eql j0 (N .i64 0) fun j1=>yb j1 wa none) (fun c=>c .undef wa none) fun j2 wb r5=>aD R j2 (Bo false) fun S=>aI S true (fun yc=>yc e8 wb none) (fun c=>c .undef wb none) fun j3 wc r6=>aI S true (fun yd=>af .eql j3 (N .i64 0) fun j4=>yd j4 wc none) (fun c=>c .undef wc none) fun j5 wd r7=>aD S j5 (Bo false) fun q=>aI q true (fun ye=>ye P wd none) (fun c=>c .undef wd none) fun j6 wf r8=>aI q true (fun yf=>bZ j6 fun j7=>yf j7 wf none) (fun c=>c .undef wf none) fun j8 wg r9=>aI q true (fun yg=>af .eql j8 (N .i64 1) fun j9=>yg j9 wg none) (fun c=>c .undef wg none) fun l0 wh s0=>aD q l0 (Bo false) fun l=>aI l true (fun yi=>yi P wh none) (fun c=>c .undef wh none) fun l1 wi s1=>aI l true (fun yj=>aX l1 (N .i64 0) 3 fun l2=>yj l2 wi none) (fun c=>c .undef wi none) fun l3 wj s2=>aI l true (fun yk=>aF l3 1 fun l4=>yk l4 wj none) (fun c=>c .undef wj none) fun l5 r l6=>aI l true (fun ww=>ak r l5 fun yl=>ww yl r none) (fun c=>c .undef r none) fun ym X l7=>aI l true (fun wx=>bZ ym fun yn=>wx yn X none) (fun c=>c .undef X none) fun yo Y l8=>aI l true (fun wy=>af .eql yo (N .i64 3) fun yp=>wy yp Y none) (fun c=>c .undef Y none) fun yq va l9=>aD l yq (Bo false) fun d=>aI d true (fun wz=>wz P va none) (fun c=>c .undef va none) fun yr vb m0=>aI d true (fun w0=>aX yr (N .i64 0) 3 fun ys=>w0 ys vb none) (fun c=>c .undef vb none) fun yt vc m1=>aI d true (fun w2=>aF yt 0 fun yu=>w2 yu vc none) (fun c=>c .undef vc none) fun yv s m2=>aI d true (fun w3=>ak s yv fun yw=>w3 yw s none) (fun c=>c .undef s none) fun yx vd m3=>aI d true (fun w4=>w4 g vd none) (fun c=>c .undef vd none) fun yy vf m4=>aI d true (fun w5=>aX yy (N .i64 0) 3 fun yz=>w5 yz vf none) (fun c=>c .undef vf none) fun y0 vg m5=>aI d true (fun w6=>aF y0 0 fun y1=>w6 y1 vg none) (fun c=>c .undef vg none) fun y2 t m6=>aI d true (fun w8=>ak t y2 fun y3=>w8 y3 t none) (fun c=>c .undef t none) fun y4 vh m7=>aI d true (fun w9=>bn .eql yx y4 fun y5=>w9 y5 vh none) (fun c=>c .undef vh none) fun y6 vi m8=>aD d y6 (Bo false) fun i=>aI i true (fun xa=>xa g vi none) (fun c=>c .undef vi none) fun y7 vj m9=>aI i true (fun xb=>aX y7 (N .i64 0) 3 fun y8=>xb y8 vj none) (fun c=>c .undef vj none) fun y9 vk n0=>aI i true (fun xc=>aF y9 0 fun za=>xc za vk none) (fun c=>c .undef vk none) fun zb u n1=>aI i true (fun xd=>ak u zb fun zc=>xd zc u none) (fun c=>c .undef u none) fun zd vm n2=>aI i true (fun xe=>aQ zd fun ze=>xe ze vm none) (fun c=>c .undef vm none) fun zf vn n3=>aI i true (fun xf=>af .eql zf (N .i64 18) fun zg=>xf zg vn none) (fun c=>c .undef vn none) fun zh vo n4=>aD i zh (Bo false) fun G=>aI G true (fun xh=>xh g5 vo none) (fun c=>c .undef vo none) fun zi vp n5=>aI G true (fun xi=>af .eql zi (N .i64 0) fun zj=>xi zj vp none) (fun c=>c .undef vp none) fun zk vq n6=>aD G zk (Bo false) fun o=>aI o true (fun xj=>aF U 1 fun zl=>xj zl vq none) (fun c=>c .undef vq none) fun zm v n7=>aI o true (fun xk=>ak v zm fun zn=>xk zn v none) (fun c=>c .undef v none) fun zo vr n8=>aI o true (fun xl=>bn .eql zo (St [116,101,108]) fun zp=>xl zp vr none) (fun c=>c .undef vr none) fun zq vs n9=>aD o zq (Bo false) fun wk=>aI wk true (fun xm=>xm g8 vs none) (fun c=>c .undef vs none) fun zr x p0=>aD wk zr (Bo false) fun e=>aI e true (fun xn=>aH x F 2 fun zs=>xn zs x none) (fun c=>c .undef x none) fun zt vt p8=>aI e true (fun xo=>xo g vt none) (fun c=>c .undef vt none) fun zu vu p9=>aI e true (fun xq=>aX zu (N .i64 0) 3 fun zv=>xq zv vu none) (fun c=>c .undef vu none) fun zw vv q0=>aI e true (fun xr=>aF zw 1 fun zx=>xr zx vv none) (fun c=>c .undef vv none) fun zy y q1=>aI e true (fun xs=>ak y zy fun zz=>xs zz y none) (fun c=>c .undef y none) fun z0 vw q2=>aI e true (fun xt=>aX z0 (N .i64 2) 2 fun z1=>xt z1 vw none) (fun c=>c .undef vw none) fun z2 z q3=>aI e true (fun xu=>aH z z2 2 fun z3=>xu z3 z none) (fun c=>c .undef z none) fun z4 vx q4=>aI e true (fun xv=>mh false [2,2] zt z4 fun z5=>xv z5 vx none) (fun c=>c .undef vx none) fun z6 A q5=>aD e z6 (Bo false) fun I=>aI I true (fun xw=>aH A F 2 fun z7=>xw z7 A none) (fun c=>c .undef A none) fun z8 vz q6=>aa I true (fun xx=>p7 [z8] vz fun z9 wo=>xx z9 wo) (fun c=>c .undef vz) fun c0 wp=>aD I c0 (Bo false) fun c1=>Q c1 wp)
def qB (p1 p2 p3:aj) (p4:Nat) (a0:AV) (M0:RM) (Q:ai) : Prop:=p1 [a0] M0 fun g i=>aK g 0 fun z=>aK g 1 fun A=>aK g 2 fun m=>af .neq m (N .i64 0) fun B=>au B ( Q (.tup [(.sc (.slice none 0 0)),A,m]) i) ( p2 [z] i fun n j=>aK n 0 fun o=>aK n 1 fun p=>af .gtr p (N .i64 0) fun C=>au C ( Q (.tup [(.sc (.slice none 0 0)),p,(N .i64 3)]) j) ( bZ o fun D=>bA (fun x c d=>af .lss (ag c 1) D fun E=>au E ( aX o (ag c 1) 1 fun F=>ak d F fun G=>p3 [G] d fun h r=>aK h 0 fun H=>aK h 1 fun I=>aK h 2 fun q=>aZ (.row [(St []),(.sc (.slice none 0 0)),(N .i64 0)] false p4 0) (fun v=>.ptr v 0) r fun l s=>aA s l H 3 fun e=>af .neq q (N .i64 0) fun L=>au L ( Q (.tup [(.sc (.slice none 0 0)),I,q]) e) ( aH e l 3 fun O=>eO p4 1 [(St []),(.sc (.slice none 0 0)),(N .i64 0)] [(0,3,O)] fun y w=>aZ y w e fun P t=>appW p4 3 48 [(St []),(.sc (.slice none 0 0)),(N .i64 0)] false (ag c 0) P t fun R u=>af .add (ag c 1) (N .i64 1) fun S=>x [R,S] u)) ( Q (.tup [(ag c 0),(N .i64 0),(N .i64 0)]) d)) [(.sc (.slice none 0 0)),(N .i64 0)] j))
def qG (p1 p2:Nat) (p3:aj) (p4:Nat) (p5 p6 p7:aj) (a0:AV) (M0:RM) (Q:ai) : Prop:=nO p1 a0 fun L F=>aZ L F M0 fun O A=>aZ (.map [] 0) (fun d=>.map d) A fun m r=>aF O 1 fun P=>ak r P fun x=>bZ x fun R=>bA (fun I e i=>af .lss (ag e 1) R fun S=>au S ( aX x (ag e 1) 2 fun U=>aH i U 2 fun V=>aZ (.row [(St []),(St [])] false p2 0) (fun d=>.ptr d 0) i fun p C=>aA C p V 2 fun v=>aH v p 2 fun W=>p3 [W] v fun n D=>aK n 0 fun X=>aK n 1 fun Y=>aK n 2 fun Z=>aZ (.row [(St []),(St []),(.sc (.slice none 0 0)),(St []),(N .i64 0)] false p4 0) (fun d=>.ptr d 0) D fun q E=>aA E q X 5 fun l=>eY Z fun h=>aa h false (fun c=>aH l p 2 fun va=>c va l) (fun c=>c .undef l) fun vb w=>aa h false (fun H=>p5 [vb] w fun vc B=>H vc B) (fun c=>c .undef w) fun vd s=>aa h false (fun G=>eY vd fun ve=>G ve s) (fun c=>c .undef s) fun vf j=>aD h (Bo true) vf fun vg=>au vg ( Q (.tup [(St []),(N .i64 1)]) j) ( aH j q 5 fun vh=>p6 [vh] j fun vi g=>KH vi 0 fun o=>uz false [2] (N .i64 0) false g m o fun vj=>af .neq vj Y fun vk=>au vk ( Q (.tup [(St []),(N .i64 1)]) g) ( uz false [2] (N .i64 0) false g m o fun vl=>af .add vl (N .i64 1) fun vm=>yJ false [2] g m o vm fun t=>aH t q 5 fun vn=>p7 [vn] t fun y u=>aK y 0 fun vo=>aK y 1 fun z=>af .neq z (N .i64 0) fun vp=>au vp ( Q (.tup [(St []),z]) u) ( bn .add (ag e 0) vo fun vq=>af .add (ag e 1) (N .i64 1) fun vr=>I [vq,vr] u)))) ( bn .add (ag e 0) (St [69,78,68,58,86,67,65,82,68,13,10]) fun vs=>Q (.tup [vs,(N .i64 0)]) i)) [(St [66,69,71,73,78,58,86,67,65,82,68,13,10,86,69,82,83,73,79,78,58,52,46,48,13,10]),(N .i64 0)] r
def u6 (p1:Nat) (p2:aj) (p3:Nat) (a0:AV) (M0:RM) (Q:ai) : Prop:=nO p1 a0 fun E w=>aZ E w M0 fun i j=>aH j i 2 fun vd=>p2 [vd] j fun r s=>aK r 0 fun ve=>aK r 1 fun vf=>aZ (.row [(St []),(St []),(.sc (.slice none 0 0)),(St []),(N .i64 0)] false p3 0) (fun v=>.ptr v 0) s fun vc t=>aA t vc ve 5 fun o=>af .eql vf (N .i64 0) fun d=>aa d true (fun c=>aF i 0 fun F=>c F o) (fun c=>c .undef o) fun G h=>aa d true (fun C=>ak h G fun H=>C H h) (fun c=>c .undef h) fun I q=>aa d true (fun D=>aQ I fun L=>D L q) (fun c=>c .undef q) fun O l=>aa d true (fun x=>af .leq O (N .i64 64) fun P=>x P l) (fun c=>c .undef l) fun R m=>aD d R (Bo false) fun e=>aa e true (fun y=>aF i 1 fun S=>y S m) (fun c=>c .undef m) fun U g=>aa e true (fun z=>ak g U fun V=>z V g) (fun c=>c .undef g) fun W n=>aa e true (fun A=>aQ W fun X=>A X n) (fun c=>c .undef n) fun Y p=>aa e true (fun B=>af .leq Y (N .i64 512) fun Z=>B Z p) (fun c=>c .undef p) fun va u=>aD e va (Bo false) fun vb=>Q vb u
def yF (p1:aj) (a0:AV) (M0:RM) (Q:ai) : Prop:=bA (fun g d c=>bZ a0 fun m=>af .lss (ag d 0) m fun n=>au n ( aX a0 (ag d 0) 2 fun h=>aH c h 2 fun i=>p1 [i] c fun j e=>eY j fun l=>au l ( Q (Bo false) e) ( af .add (ag d 0) (N .i64 1) fun o=>g [o] e)) ( Q (Bo true) c)) [(N .i64 0)] M0
def vX (p1 p2:Nat) (p3:aj) (a0:AV) (M0:RM) (Q:ai) : Prop:=nO p1 a0 fun q p=>aZ q p M0 fun t m=>aZ (.row [(St []),(St []),(.sc (.slice none 0 0)),(St []),(N .i64 0)] false p2 0) (fun e=>.ptr e 0) m fun c h=>aH h t 2 fun z=>p3 [z] h fun g n=>aK g 0 fun u=>aK g 1 fun A=>aK g 2 fun v=>aZ (.row [(St []),(St []),(.sc (.slice none 0 0)),(St []),(N .i64 0)] false p2 0) (fun e=>.ptr e 0) n fun l o=>aA o l u 5 fun d=>eY v fun w=>au w ( eQ [(St []),(St []),(.sc (.slice none 0 0)),(St []),(N .i64 0)] [] fun x=>aA d c x 5 fun i=>aH i c 5 fun r=>Q (.tup [r,(N .i64 1)]) i) ( aH d l 5 fun y=>aA d c y 5 fun j=>aH j c 5 fun s=>Q (.tup [s,(N .i64 0)]) j)
def sS (p1 p2:Nat) (p3 p4 p5 p6:aj) (a0 a1:AV) (M0:RM) (Q:ai) : Prop:=nO p1 a0 fun U G=>aZ U G M0 fun e B=>aZ (.row [(St []),(St [])] false p2 0) (fun n=>.ptr n 0) B fun h p=>aH p e 5 fun X=>p3 [X] p fun A q=>aK A 0 fun vx=>aK A 1 fun Y=>af .neq Y (N .i64 0) fun d=>aa d false (fun c=>aF e 0 fun Z=>c Z q) (fun c=>c .undef q) fun va m=>aa d false (fun R=>ak m va fun vb=>R vb m) (fun c=>c .undef m) fun vc y=>aa d false (fun S=>bn .eql vc (St [114,97,119]) fun vd=>S vd y) (fun c=>c .undef y) fun ve z=>aD d (Bo true) ve fun g=>aa g false (fun H=>aF e 1 fun vf=>H vf z) (fun c=>c .undef z) fun vg j=>aa g false (fun I=>ak j vg fun vh=>I vh j) (fun c=>c .undef j) fun vi r=>aa g false (fun L=>p4 [vi] r fun vj C=>L vj C) (fun c=>c .undef r) fun vk s=>aD g (Bo true) vk fun o=>aa o false (fun O=>O a1 s) (fun c=>c .undef s) fun vl t=>aa o false (fun P=>af .lss vl (N .i64 0) fun vm=>P vm t) (fun c=>c .undef t) fun vn l=>aD o (Bo true) vn fun vo=>au vo ( eQ [(St []),(St [])] [] fun vp=>aA l h vp 2 fun u=>aH u h 2 fun V=>Q (.tup [V,(Bo false)]) u) ( aH l e 5 fun vq=>p5 [vq] l fun vr D=>aZ (.row [(St []),(St [])] false p2 0) (fun n=>.ptr n 0) D fun i E=>aA E i vr 2 fun v=>aF i 0 fun vs=>ak v vs fun vt=>p6 [vt,a1] v fun vu F=>aF i 0 fun vv=>aA F vv vu 1 fun w=>aH w i 2 fun vw=>aA w h vw 2 fun x=>aH x h 2 fun W=>Q (.tup [W,(Bo true)]) x)
def yG (p1:Nat) (p2 p3:aj) (p4:Nat) (a0:AV) (M0:RM) (Q:ai) : Prop:=bA (fun vs l p=>bZ a0 fun xp=>af .lss (ag l 1) xp fun vx=>au vx ( aX a0 (ag l 1) 5 fun vz=>aH p vz 5 fun v0=>aZ (.row [(St []),(St []),(.sc (.slice none 0 0)),(St []),(N .i64 0)] false p1 0) (fun X=>.ptr X 0) p fun j O=>aA O j v0 5 fun u=>aH u j 5 fun v1=>p2 [v1,(St [98,101,103,105,110])] u fun v2 m=>eY v2 fun v3=>au v3 ( aF j 4 fun v4=>ak m v4 fun v5=>Q (.tup [(.sc (.slice none 0 0)),v5]) m) ( aH m j 5 fun v6=>eO p1 1 [(St []),(St []),(.sc (.slice none 0 0)),(St []),(N .i64 0)] [(0,5,v6)] fun vu Y=>aZ vu Y m fun v7 A=>af .add (ag l 1) (N .i64 1) fun o=>bZ a0 fun v8=>af .lss o v8 fun e=>aa e true (fun c=>c a0 A) (fun c=>c .undef A) fun v9 D=>aa e true (fun vo=>vo o D) (fun c=>c .undef D) fun wa L=>aa e true (fun vr=>aX v9 wa 5 fun wb=>vr wb L) (fun c=>c .undef L) fun wc t=>aa e true (fun vb=>aH t wc 5 fun wd=>vb wd t) (fun c=>c .undef t) fun we v=>aa e true (fun vc=>p2 [we,(St [118,101,114,115,105,111,110])] v fun wf P=>vc wf P) (fun c=>c .undef v) fun wg w=>aa e true (fun vd=>eY wg fun wh=>vd wh w) (fun c=>c .undef w) fun wi q=>aD e wi (Bo false) fun wj=>au wj ( aX a0 o 5 fun wk=>aF wk 4 fun wl=>ak q wl fun wm=>Q (.tup [(.sc (.slice none 0 0)),wm]) q) ( af .add o (N .i64 1) fun wn=>bA (fun vt d x=>bZ a0 fun wo=>af .lss (ag d 1) wo fun g=>aa g true (fun ve=>ve a0 x) (fun c=>c .undef x) fun wp y=>aa g true (fun vf=>vf (ag d 1) y) (fun c=>c .undef y) fun wq z=>aa g true (fun vg=>aX wp wq 5 fun wr=>vg wr z) (fun c=>c .undef z) fun ws r=>aa g true (fun vh=>aH r ws 5 fun wt=>vh wt r) (fun c=>c .undef r) fun wu B=>aa g true (fun vi=>p2 [wu,(St [101,110,100])] B fun wv R=>vi wv R) (fun c=>c .undef B) fun ww C=>aa g true (fun vj=>eY ww fun wx=>vj wx C) (fun c=>c .undef C) fun wy i=>aD g wy (Bo false) fun wz=>au wz ( aX a0 (ag d 1) 5 fun w1=>aF w1 1 fun w2=>ak i w2 fun w3=>p3 [w3] i fun h E=>aa h false (fun vk=>vk a0 E) (fun c=>c .undef E) fun w4 F=>aa h false (fun vl=>vl (ag d 1) F) (fun c=>c .undef F) fun w5 G=>aa h false (fun vm=>aX w4 w5 5 fun w6=>vm w6 G) (fun c=>c .undef G) fun w7 H=>aa h false (fun vn=>aF w7 0 fun w8=>vn w8 H) (fun c=>c .undef H) fun w9 s=>aa h false (fun vp=>ak s w9 fun xa=>vp xa s) (fun c=>c .undef s) fun xb I=>aa h false (fun vq=>bn .eql xb (St [114,97,119]) fun xc=>vq xc I) (fun c=>c .undef I) fun xd n=>aD h (Bo true) xd fun xe=>au xe ( aX a0 (ag d 1) 5 fun xf=>aF xf 4 fun xg=>ak n xg fun xh=>Q (.tup [(.sc (.slice none 0 0)),xh]) n) ( aX a0 (ag d 1) 5 fun xi=>aH n xi 5 fun xj=>eO p1 1 [(St []),(St []),(.sc (.slice none 0 0)),(St []),(N .i64 0)] [(0,5,xj)] fun vv Z=>aZ vv Z n fun xk S=>appW p1 5 80 [(St []),(St []),(.sc (.slice none 0 0)),(St []),(N .i64 0)] false (ag d 2) xk S fun xl U=>af .add (ag d 1) (N .i64 1) fun w0=>vt [(ag d 0),w0,xl] U)) ( bZ a0 fun xm=>af .geq (ag d 1) xm fun xn=>au xn ( aF j 4 fun xo=>ak i xo fun xq=>Q (.tup [(.sc (.slice none 0 0)),xq]) i) ( eO p4 1 [(.sc (.slice none 0 0))] [(0,1,(ag d 2))] fun vw va=>aZ vw va i fun xr V=>appW p4 1 24 [(.sc (.slice none 0 0))] false (ag d 0) xr V fun xs W=>af .add (ag d 1) (N .i64 1) fun vy=>vs [xs,vy] W))) [(ag l 0),wn,v7] q))) ( Q (.tup [(ag l 0),(N .i64 0)]) p)) [(.sc (.slice none 0 0)),(N .i64 0)] M0
def wD (p1 p2:Nat) (p3:aj) (p4:Nat) (p5 p6:aj) (a0:AV) (M0:RM) (Q:ai) : Prop:=aZ (.row [(St []),(.sc (.slice none 0 0)),(N .i64 0)] false p1 0) (fun g=>.ptr g 0) M0 fun d u=>aX a0 (N .i64 0) 5 fun vb=>aF vb 4 fun vc=>ak u vc fun vd=>aF d 2 fun ve=>aA u ve vd 1 fun E=>aZ (.map [] 0) (fun g=>.map g) E fun s F=>bO (kT 5 a0 (some (N .i64 1)) none none) fun B=>bZ B fun vf=>bA (fun X j o=>af .lss (ag j 1) vf fun vg=>au vg ( aX B (ag j 1) 5 fun vh=>aH o vh 5 fun vi=>aZ (.row [(St []),(St []),(.sc (.slice none 0 0)),(St []),(N .i64 0)] false p2 0) (fun g=>.ptr g 0) o fun t L=>aA L t vi 5 fun z=>aH z t 5 fun vj=>p3 [vj] z fun vk O=>aZ (.row [(St []),(St [])] false p4 0) (fun g=>.ptr g 0) O fun e P=>aA P e vk 2 fun r=>aF e 0 fun vl=>ak r vl fun l=>uz false [2] (N .i64 0) false r s l fun vm=>p5 [l,vm] r fun vn R=>aF e 0 fun vo=>aA R vo vn 1 fun A=>uz false [2] (N .i64 0) false A s l fun vp=>af .add vp (N .i64 1) fun vq=>yJ false [2] A s l vq fun m=>aF e 0 fun vr=>ak m vr fun vs=>aQ vs fun vt=>af .gtr vt (N .i64 64) fun i=>aa i false (fun c=>aF e 1 fun vu=>c vu m) (fun c=>c .undef m) fun vv n=>aa i false (fun U=>ak n vv fun vw=>U vw n) (fun c=>c .undef n) fun vx v=>aa i false (fun V=>aQ vx fun vy=>V vy v) (fun c=>c .undef v) fun vz w=>aa i false (fun W=>af .gtr vz (N .i64 512) fun v0=>W v0 w) (fun c=>c .undef w) fun v1 h=>aD i (Bo true) v1 fun v2=>au v2 ( eQ [(St []),(.sc (.slice none 0 0)),(N .i64 0)] [] fun v3=>aF t 4 fun C=>ak h C fun D=>aA h d v3 3 fun p=>ak p C fun v4=>(v4=D∧aH p d 3 fun Z=>Q (.tup [Z,D,(N .i64 2)]) p)) ( aF d 1 fun v5=>ak h v5 fun v6=>aH h e 2 fun v7=>eO p4 1 [(St []),(St [])] [(0,2,v7)] fun Y S=>aZ Y S h fun v8 G=>appW p4 2 32 [(St []),(St [])] false v6 v8 G fun v9 H=>aF d 1 fun wa=>aA H wa v9 1 fun q=>aF e 0 fun wb=>ak q wb fun wc=>bn .add wc (St [0]) fun wd=>aF e 1 fun we=>ak q we fun wf=>bn .add wd wf fun wg=>bn .add wg (St [0]) fun wh=>bn .add (ag j 0) wh fun wi=>af .add (ag j 1) (N .i64 1) fun wj=>X [wi,wj] q)) ( bO (kT 5 a0 (some (N .i64 1)) none none) fun wk=>p6 [wk,(ag j 0)] o fun wl I=>aF d 0 fun wm=>aA I wm wl 1 fun x=>aH x d 3 fun wn=>aA x d wn 3 fun y=>aH y d 3 fun va=>Q (.tup [va,(N .i64 0),(N .i64 0)]) y)) [(St []),(N .i64 0)] F
def vC (p1 p2:Nat) (p3 p4 p5 p6 p7:aj) (a0:AV) (M0:RM) (Q:ai) : Prop:=nO p1 a0 fun vf W=>aZ vf W M0 fun h G=>aZ (.row [(St []),(St []),(.sc (.slice none 0 0)),(St []),(N .i64 0)] false p2 0) (fun d=>.ptr d 0) G fun A t=>aF h 0 fun vh=>ak t vh fun vi=>p3 [vi,(St [114,97,119,46])] t fun z H=>aK z 0 fun vj=>aK z 1 fun vk=>p4 [vj] H fun r S=>aK r 0 fun vl=>aK r 1 fun B=>aK r 2 fun C=>aZ (.row [(St []),(St []),(.sc (.slice none 0 0)),(St []),(N .i64 0)] false p2 0) (fun d=>.ptr d 0) S fun g U=>aA U g vl 5 fun x=>aF h 1 fun vm=>ak x vm fun vn=>aF g 3 fun vo=>aA x vo vn 1 fun y=>cZ (fun s=>eY vk fun j=>aa j true (fun c=>aF g 1 fun vp=>c vp y) (fun c=>c .undef y) fun vq p=>aa j true (fun ve=>ak p vq fun vr=>ve vr p) (fun c=>c .undef p) fun vs u=>aa j true (fun X=>p5 [vs] u fun vt I=>X vt I) (fun c=>c .undef u) fun vu l=>aD j vu (Bo false) fun vv=>au vv ( aF h 1 fun vw=>ak l vw fun vx=>p6 [vx] l fun vy L=>aF g 3 fun vz=>aA L vz vy 1 fun O=>s [] O) ( s [] l)) (fun wf v=>aH v g 5 fun v0=>p7 [v0,B] v fun D P=>aK D 0 fun v1=>aK D 1 fun v2=>aZ (.row [(St []),(St [])] false p1 0) (fun d=>.ptr d 0) P fun q R=>aA R q v1 2 fun m=>aH m g 5 fun v3=>aI C true (fun Y=>Y v2 m none) (fun c=>c .undef m none) fun v4 n d=>aD C v4 (Bo false) fun e=>aI e true (fun Z=>aH n q 2 fun v5=>Z v5 n none) (fun c=>c .undef n none) fun E o wc=>aI e true (fun va=>aH o h 2 fun v7=>va v7 o none) (fun c=>c .undef o none) fun F w wd=>aI e true (fun vb=>mh false [2,2] E F fun v9=>vb v9 w none) (fun c=>c .undef w none) fun wa V we=>aD e wa (Bo false) fun wb=>aA V A v3 5 fun i=>BS e true (fun vc=>aH i q 2 fun v6=>(v6=E∧vc)) (fun c=>c) (BS e true (fun vd=>aH i h 2 fun v8=>(v8=F∧vd)) (fun c=>c) (aH i A 5 fun vg=>Q (.tup [vg,B,wb]) i)))
def uT (p1 p2:Nat) (p3 p4 p5 p6:aj) (a0:AV) (M0:RM) (Q:ai) : Prop:=nO p1 a0 fun U I=>aZ U I M0 fun i F=>aZ (.row [(St []),(St [])] false p2 0) (fun e=>.ptr e 0) F fun h l=>aH l i 5 fun vx=>aF i 3 fun D=>ak l D fun E=>QR (.row [(St []),(St [])] false p2 0) (fun e=>.ptr e 0) l fun d G e=>p3 [vx] G fun vy n=>ak n D fun vz=>(vz=E∧(Rf e n (.row [(St []),(St [])] false p2 0) (fun e=>.ptr e 0) d∧eQ [(St []),(St [])] [(0,1,vy),(1,1,E)] fun Y=>aA n d Y 2 fun t=>aF i 1 fun Z=>ak t Z fun va=>p4 [va] t fun vb j=>eY vb fun vc=>au vc ( aH j d 2 fun vd=>aA j h vd 2 fun w=>aH w h 2 fun V=>Q V w) ( aF i 3 fun ve=>ak j ve fun vf=>p5 [vf] j fun z x=>aK z 0 fun A=>aK z 1 fun vg=>af .eql vg (N .i64 0) fun g=>aI g true (fun c=>c A x none) (fun c=>c .undef x none) fun vh y v3=>aI g true (fun S=>aF i 3 fun vk=>S vk y none) (fun c=>c .undef y none) fun B m v0=>aI g true (fun L=>ak m B fun vl=>L vl m none) (fun c=>c .undef m none) fun C q v1=>aa g true (fun O=>p6 [vh] q fun vi H=>O vi H) (fun c=>c .undef q) fun vj o=>BS g true (fun P=>ak o B fun vm=>(vm=C∧P)) (fun c=>c) (aI g true (fun R=>bn .eql vj C fun vn=>R vn o none) (fun c=>c .undef o none) fun vo p v2=>aD g vo (Bo false) fun vp=>au vp ( aF d 1 fun vq=>aA p vq A 1 fun r=>aH r d 2 fun vr=>aA r h vr 2 fun s=>aH s h 2 fun W=>Q W s) ( aF d 0 fun vs=>ak p vs fun vt=>bn .add (St [114,97,119,46]) vt fun vu=>aF d 0 fun vv=>aA p vv vu 1 fun u=>aH u d 2 fun vw=>aA u h vw 2 fun v=>aH v h 2 fun X=>Q X v)))))
def oG (a0:AV) (M0:RM) (Q:ai) : Prop:=bn .eql a0 (St [98,101,103,105,110]) fun d=>aa d false (fun c=>c a0 M0) (fun c=>c .undef M0) fun s g=>aa d false (fun l=>bn .eql s (St [118,101,114,115,105,111,110]) fun t=>l t g) (fun c=>c .undef g) fun u h=>aD d (Bo true) u fun e=>aa e false (fun m=>m a0 h) (fun c=>c .undef h) fun o i=>aa e false (fun n=>bn .eql o (St [101,110,100]) fun p=>n p i) (fun c=>c .undef i) fun q j=>aD e (Bo true) q fun r=>Q r j
def oF (p1:aj) (a0 a1:AV) (M0:RM) (Q:ai) : Prop:=af .eql a1 (N .i64 0) fun h=>au h ( Q a0 M0) ( bn .add a0 (St [35]) fun i=>af .add a1 (N .i64 1) fun d=>p1 [d] M0 fun e c=>bn .add i e fun g=>Q g c)
def pX (p1:Nat) (p2:aj) (a0 a1:AV) (M0:RM) (Q:ai) : Prop:=nO p1 a0 fun H w=>aZ H w M0 fun d j=>aF d 1 fun vs=>ak j vs fun vt=>bn .neq vt a1 fun i=>aa i false (fun c=>aF d 0 fun I=>c I j) (fun c=>c .undef j) fun L l=>aa i false (fun A=>ak l L fun O=>A O l) (fun c=>c .undef l) fun P t=>aa i false (fun F=>bn .neq P (St []) fun R=>F R t) (fun c=>c .undef t) fun S u=>aD i (Bo true) S fun g=>aa g false (fun G=>aF d 2 fun U=>G U u) (fun c=>c .undef u) fun V m=>aa g false (fun x=>ak m V fun W=>x W m) (fun c=>c .undef m) fun X o=>aa g false (fun y=>bZ X fun Y=>y Y o) (fun c=>c .undef o) fun Z p=>aa g false (fun z=>af .gtr Z (N .i64 0) fun va=>z va p) (fun c=>c .undef p) fun vb e=>aD g (Bo true) vb fun vc=>au vc ( Q (Bo false) e) ( bn .eql a1 (St [118,101,114,115,105,111,110]) fun vd=>au vd ( aF d 3 fun ve=>ak e ve fun vf=>bn .eql vf (St [52,46,48]) fun vg=>Q vg e) ( aF d 3 fun vh=>ak e vh fun vi=>p2 [vi,(St [118,99,97,114,100])] e fun h q=>aa h true (fun B=>aF d 3 fun vj=>B vj q) (fun c=>c .undef q) fun vk n=>aa h true (fun C=>ak n vk fun vl=>C vl n) (fun c=>c .undef n) fun vm r=>aa h true (fun D=>aQ vm fun vn=>D vn r) (fun c=>c .undef r) fun vo s=>aa h true (fun E=>af .eql vo (N .i64 5) fun vp=>E vp s) (fun c=>c .undef s) fun vq v=>aD h vq (Bo false) fun vr=>Q vr v))
def pO (p1 p2:Nat) (p3 p4:aj) (a0 a1:AV) (M0:RM) (Q:ai) : Prop:=cZ (fun p=>bZ a0 fun vu=>bA (fun G o i=>af .lss (ag o 0) vu fun I=>au I ( aX a0 (ag o 0) 5 fun L=>aH i L 5 fun O=>aZ (.row [(St []),(St []),(.sc (.slice none 0 0)),(St []),(N .i64 0)] false p1 0) (fun y=>.ptr y 0) i fun d t=>aA t d O 5 fun j=>aF d 1 fun P=>ak j P fun R=>bn .neq R (St [117,105,100]) fun h=>aa h false (fun c=>aF d 0 fun S=>c S j) (fun c=>c .undef j) fun U n=>aa h false (fun E=>ak n U fun V=>E V n) (fun c=>c .undef n) fun W s=>aa h false (fun F=>bn .neq W (St []) fun X=>F X s) (fun c=>c .undef s) fun Y g=>aD h (Bo true) Y fun Z=>au Z ( af .add (ag o 0) (N .i64 1) fun vo=>G [vo] g) ( aF d 3 fun va=>ak g va fun vb=>aQ vb fun vc=>af .geq vc (N .i64 1) fun e=>aa e true (fun A=>aF d 3 fun vd=>A vd g) (fun c=>c .undef g) fun ve l=>aa e true (fun B=>ak l ve fun vf=>B vf l) (fun c=>c .undef l) fun vg q=>aa e true (fun C=>aQ vg fun vh=>C vh q) (fun c=>c .undef q) fun vi r=>aa e true (fun D=>af .leq vi (N .i64 64) fun vj=>D vj r) (fun c=>c .undef r) fun vk m=>aD e vk (Bo false) fun vl=>au vl ( aF d 3 fun vm=>ak m vm fun vn=>Q vn m) ( p [] m))) ( p [] i)) [(N .i64 0)] M0) (fun vv u=>rZ p2 a1 fun H z=>aZ H z u fun vp v=>p3 [vp] v fun vq w=>p4 [vq] w fun vr x=>bO (aU vr none (some (N .i64 16))) fun vs=>bn .add (St [99,45]) vs fun vt=>Q vt x)
def pQ (p1:Nat) (p2 p3 p4:aj) (p5:Nat) (p6:aj) (p7:Nat) (p8:aj) (a0:AV) (M0:RM) (Q:ai) : Prop:=aZ (.row [(St []),(St []),(.sc (.slice none 0 0)),(St []),(N .i64 0)] false p1 0) (fun h=>.ptr h 0) M0 fun c P=>p2 [a0] P fun B R=>aK B 0 fun vy=>aK B 1 fun C=>aF c 1 fun vz=>aA R vz vy 1 fun S=>cZ (fun s=>p3 [C,(St [46])] S fun D m=>aK D 0 fun v0=>aK D 1 fun v1=>au v1 ( aF c 1 fun v2=>ak m v2 fun v3=>aF c 0 fun v4=>aA m v4 v3 1 fun ve=>p2 [v0] ve fun E vg=>aK E 0 fun v5=>aK E 1 fun v6=>aF c 1 fun v7=>aA vg v7 v5 1 fun vi=>s [v6] vi) ( s [C] m)) (fun w9 vj=>bA (fun vq j vk=>p4 [(ag j 0),(St [59])] vk fun v8 g=>au v8 ( aZ (.row [(St []),(.sc (.slice none 0 0))] false p5 0) (fun h=>.ptr h 0) g fun i U=>bO (aU (ag j 0) (some (N .i64 1)) none) fun v9=>p2 [v9] U fun F V=>aK F 0 fun wa=>aK F 1 fun G=>aF i 0 fun wb=>aA V wb wa 1 fun W=>p4 [G,(St [61])] W fun wc t=>eY wc fun wd=>au wd ( eQ [(St []),(St []),(.sc (.slice none 0 0)),(St []),(N .i64 0)] [] fun we=>aA t c we 5 fun u=>aH u c 5 fun vu=>Q (.tup [vu,(N .i64 0),(Bo false)]) u) ( bA (fun vr r e=>au (ag r 1) ( bO (aU (ag r 0) (some (N .i64 1)) none) fun wg=>p6 [wg] e fun o l=>aK o 0 fun wh=>aK o 1 fun H=>aK o 2 fun wi=>eY wi fun wj=>au wj ( eQ [(St []),(St []),(.sc (.slice none 0 0)),(St []),(N .i64 0)] [] fun wk=>aA l c wk 5 fun v=>aH v c 5 fun vv=>Q (.tup [vv,(N .i64 0),(Bo false)]) v) ( aF i 1 fun wl=>ak l wl fun wm=>eO p7 1 [(St [])] [(0,1,wh)] fun vs vl=>aZ vs vl l fun wn X=>appW p7 1 16 [(St [])] false wm wn X fun wo Y=>aF i 1 fun wp=>aA Y wp wo 1 fun Z=>p4 [H,(St [44])] Z fun wf va=>vr [H,wf] va)) ( aF c 2 fun wq=>ak e wq fun wr=>aH e i 2 fun ws=>eO p5 1 [(St []),(.sc (.slice none 0 0))] [(0,2,ws)] fun vt vm=>aZ vt vm e fun wt vb=>appW p5 2 40 [(St []),(.sc (.slice none 0 0))] false wr wt vb fun wu vc=>aF c 2 fun wv=>aA vc wv wu 1 fun vd=>vq [(ag r 0)] vd)) [G,(Bo true)] t)) ( bn .eql (ag j 0) (St []) fun ww=>au ww ( aH g c 5 fun wx=>aA g c wx 5 fun w=>aH w c 5 fun vw=>Q (.tup [vw,(N .i64 0),(Bo true)]) w) ( p3 [(ag j 0),(St [35])] g fun I vf=>aK I 0 fun wy=>aK I 1 fun p=>p8 [wy] vf fun L n=>aK L 0 fun O=>aK L 1 fun wz=>aH n c 5 fun w0=>af .sub O (N .i64 1) fun w1=>aI p true (fun d=>d wz n none) (fun d=>d .undef n none) fun w2 x h=>aI p true (fun vn=>GV false w2 (.sc .nilIface) fun w3=>vn w3 x none) (fun d=>d .undef x none) fun w4 y xa=>aD p w4 (Bo false) fun q=>aI q true (fun vo=>vo O y none) (fun d=>d .undef y none) fun w5 z xb=>aI q true (fun vp=>af .geq w5 (N .i64 2) fun w6=>vp w6 z none) (fun d=>d .undef z none) fun w7 vh xc=>aD q w7 (Bo false) fun w8=>aA vh c w0 5 fun A=>aH A c 5 fun vx=>Q (.tup [vx,w1,w8]) A))) [(ag w9 0)] vj)
def qA (a0:AV) (M0:RM) (Q:ai) : Prop:=cZ (fun o=>cZ (fun c=>bn .eql a0 (St [102,110]) fun i=>au i ( c [i] M0) ( bn .eql a0 (St [110,105,99,107,110,97,109,101]) fun j=>au j ( c [j] M0) ( bn .eql a0 (St [116,101,108]) fun l=>au l ( c [l] M0) ( bn .eql a0 (St [101,109,97,105,108]) fun m=>au m ( c [m] M0) ( bn .eql a0 (St [110,111,116,101]) fun n=>au n ( c [n] M0) ( bn .eql a0 (St [111,114,103]) fun e=>au e ( c [e] M0) ( bn .eql a0 (St [116,105,116,108,101]) fun g=>au g ( c [g] M0) ( bn .eql a0 (St [114,111,108,101]) fun h=>au h ( c [h] M0) ( bn .eql a0 (St [99,97,116,101,103,111,114,105,101,115]) fun q=>c [q] M0))))))))) (fun r d=>au (ag r 0) ( Q (Bo true) d) ( o [] d))) (fun s p=>Q (Bo false) p)
def sH (p1 p2:Nat) (p3:aj) (a0:AV) (M0:RM) (Q:ai) : Prop:=nO p1 a0 fun E B=>aZ E B M0 fun h d=>aF h 1 fun vo=>ak d vo fun u=>cZ (fun n=>aF h 0 fun F=>ak d F fun G=>bn .neq G (St []) fun H=>au H ( aF h 0 fun I=>ak d I fun L=>bn .add L (St [46]) fun O=>bn .add O u fun P=>n [P] d) ( n [u] d)) (fun vp q=>aF h 2 fun R=>ak q R fun s=>bZ s fun S=>bA (fun C e i=>af .lss (ag e 1) S fun U=>au U ( aX s (ag e 1) 2 fun V=>aH i V 2 fun W=>aZ (.row [(St []),(.sc (.slice none 0 0))] false p2 0) (fun A=>.ptr A 0) i fun m z=>aA z m W 2 fun j=>aF m 0 fun X=>ak j X fun Y=>bn .add (St [59]) Y fun Z=>bn .add Z (St [61]) fun va=>bn .add (ag e 0) va fun vb=>aF m 1 fun vc=>ak j vc fun t=>bZ t fun vd=>bA (fun D c g=>af .lss (ag c 1) vd fun ve=>au ve ( cZ (fun v=>aX t (ag c 1) 1 fun vf=>ak g vf fun l=>cZ (fun p=>af .gtr (ag c 1) (N .i64 0) fun vg=>au vg ( bn .add (ag c 0) (St [44]) fun vh=>p [vh] g) ( p [(ag c 0)] g)) (fun vq w=>cZ (fun o=>p3 [l,(St [44,59,58,35])] w fun vi r=>au vi ( bn .add (St [34]) l fun vj=>bn .add vj (St [34]) fun vk=>o [vk] r) ( o [l] r)) (fun vr x=>bn .add (ag vq 0) (ag vr 0) fun vl=>v [vl] x))) (fun vs y=>af .add (ag c 1) (N .i64 1) fun vm=>D [(ag vs 0),vm] y)) ( af .add (ag e 1) (N .i64 1) fun vn=>C [(ag c 0),vn] g)) [vb,(N .i64 0)] j) ( Q (ag e 0) i)) [(ag vp 0),(N .i64 0)] q)
def mE (p1 p2:aj) (a0 a1:AV) (M0:RM) (Q:ai) : Prop:=aQ a0 fun wk=>aQ a1 fun wl=>Ic false wk wl fun wm=>bA (fun vz h i=>af .lss (ag h 0) wm fun wn=>au wn ( cZ (fun A=>dG a0 (ag h 0) fun j=>dG a1 (ag h 0) fun l=>af .or j l fun wp=>af .geq wp (N .u8 128) fun wq=>au wq ( bO (aU a0 (some (ag h 0)) none) fun w8=>bO (aU a1 (some (ag h 0)) none) fun w9=>BZ w8 fun v1 vi=>aZ v1 vi i fun xa vd=>bA (fun w p vf=>CQ xa vf fun vb t=>aK vb 0 fun xb=>au xb ( aK vb 2 fun n=>aQ (ag p 0) fun xc=>af .eql xc (N .i64 0) fun xd=>au xd ( Q (Bo false) t) ( p1 [(ag p 0)] t fun vc u=>aK vc 0 fun o=>aK vc 1 fun xe=>bO (aU (ag p 0) (some xe) none) fun y=>af .eql o n fun xf=>au xf ( w [y] u) ( cZ (fun C=>af .lss o n fun xg=>au xg ( C [o,n] u) ( C [n,o] u)) (fun d v=>af .lss (ag d 1) (N .i32 128) fun xh=>au xh ( af .leq (N .i32 65) (ag d 0) fun z=>aa z true (fun c=>c (ag d 0) v) (fun c=>c .undef v) fun xi va=>aa z true (fun vj=>af .leq xi (N .i32 90) fun xj=>vj xj va) (fun c=>c .undef va) fun xk D=>aD z xk (Bo false) fun g=>aa g true (fun vk=>vk (ag d 1) D) (fun c=>c .undef D) fun xl E=>aa g true (fun vl=>vl (ag d 0) E) (fun c=>c .undef E) fun v2 F=>aa g true (fun vm=>af .add v2 (N .i32 97) fun v3=>vm v3 F) (fun c=>c .undef F) fun v4 G=>aa g true (fun vn=>af .sub v4 (N .i32 65) fun v5=>vn v5 G) (fun c=>c .undef G) fun v6 H=>aa g true (fun vo=>af .eql xl v6 fun v7=>vo v7 H) (fun c=>c .undef H) fun v8 I=>aD g v8 (Bo false) fun v9=>au v9 ( w [y] I) ( Q (Bo false) I)) ( p2 [(ag d 0)] v fun wa ve=>bA (fun v0 q L=>af .neq (ag q 0) (ag d 0) fun m=>aa m true (fun vp=>vp (ag q 0) L) (fun c=>c .undef L) fun wb O=>aa m true (fun vq=>vq (ag d 1) O) (fun c=>c .undef O) fun wc P=>aa m true (fun vr=>af .lss wb wc fun wd=>vr wd P) (fun c=>c .undef P) fun we s=>aD m we (Bo false) fun wf=>au wf ( p2 [(ag q 0)] s fun wg vg=>v0 [wg] vg) ( af .eql (ag q 0) (ag d 1) fun wh=>au wh ( w [y] s) ( Q (Bo false) s))) [wa] ve))))) ( aQ (ag p 0) fun wi=>af .eql wi (N .i64 0) fun wj=>Q wj t)) [w9] vd) ( af .eql l j fun wr=>au wr ( A [] i) ( cZ (fun B=>af .lss l j fun ws=>au ws ( B [l,j] i) ( B [j,l] i)) (fun r R=>af .leq (N .u8 65) (ag r 0) fun x=>aa x true (fun vs=>vs (ag r 0) R) (fun c=>c .undef R) fun wt S=>aa x true (fun vt=>af .leq wt (N .u8 90) fun wu=>vt wu S) (fun c=>c .undef S) fun wv U=>aD x wv (Bo false) fun e=>aa e true (fun vu=>vu (ag r 1) U) (fun c=>c .undef U) fun ww V=>aa e true (fun vv=>vv (ag r 0) V) (fun c=>c .undef V) fun wx W=>aa e true (fun vw=>af .add wx (N .u8 97) fun wy=>vw wy W) (fun c=>c .undef W) fun wz X=>aa e true (fun vx=>af .sub wz (N .u8 65) fun w0=>vx w0 X) (fun c=>c .undef X) fun w1 Y=>aa e true (fun vy=>af .eql ww w1 fun w2=>vy w2 Y) (fun c=>c .undef Y) fun w3 Z=>aD e w3 (Bo false) fun w4=>au w4 ( A [] Z) ( Q (Bo false) Z))))) (fun xm vh=>af .add (ag h 0) (N .i64 1) fun wo=>vz [wo] vh)) ( aQ a0 fun w5=>aQ a1 fun w6=>af .eql w5 w6 fun w7=>Q w7 i)) [(N .i64 0)] M0
def vP (p1:aj) (a0:AV) (M0:RM) (Q:ai) : Prop:=aQ a0 fun h=>p1 [a0,(St [97,98,99,100,101,102,103,104,105,106,107,108,109,110,111,112,113,114,115,116,117,118,119,120,121,122,48,49,50,51,52,53,54,55,56,57,45])] M0 fun i d=>aQ i fun j=>af .sub h j fun c=>bO (aU a0 none (some c)) fun e=>bO (aU a0 (some c) none) fun g=>Q (.tup [e,g]) d
def sI (p1 p2 p3:aj) (a0:AV) (M0:RM) (Q:ai) : Prop:=p1 [a0,(St [34])] M0 fun h e=>aK h 0 fun n=>aK h 1 fun o=>au o ( p2 [n,(St [34])] e fun c l=>aK c 0 fun p=>aK c 1 fun q=>aK c 2 fun r=>Q (.tup [p,q,r]) l) ( p3 [a0,(St [44,59,58,35])] e fun i g=>cZ (fun d=>af .lss i (N .i64 0) fun s=>au s ( aQ a0 fun t=>d [t] g) ( d [i] g)) (fun j m=>bO (aU a0 none (some (ag j 0))) fun u=>bO (aU a0 (some (ag j 0)) none) fun v=>Q (.tup [u,v,(Bo true)]) m))
def fD (p1:aj) (p2:Nat) (p3 p4 p5:aj) (a0 a1:AV) (M0:RM) (Q:ai) : Prop:=aQ a1 fun e=>af .eql e (N .i64 0) fun q=>aa q false (fun c=>c a1 M0) (fun c=>c .undef M0) fun w2 w=>aa q false (fun vk=>vk a0 w) (fun c=>c .undef w) fun w3 x=>aa q false (fun vn=>bn .eql w2 w3 fun w4=>vn w4 x) (fun c=>c .undef x) fun w5 h=>aD q (Bo true) w5 fun w6=>au w6 ( Q (N .i64 0) h) ( af .eql e (N .i64 1) fun w7=>au w7 ( dG a1 (N .i64 0) fun w8=>p1 [a0,w8] h fun w9 vj=>Q w9 vj) ( aQ a0 fun xa=>af .geq e xa fun xb=>au xb ( Q (N .i64 (-1)) h) ( ak h (IM h p2) fun xc=>af .leq e xc fun r=>aa r true (fun v3=>v3 a0 h) (fun c=>c .undef h) fun xd vb=>aa r true (fun v8=>aQ xd fun xe=>v8 xe vb) (fun c=>c .undef vb) fun xf y=>aa r true (fun vl=>af .leq xf (N .i64 64) fun xg=>vl xg y) (fun c=>c .undef y) fun xh z=>aD r xh (Bo false) fun xi=>au xi ( p3 [a0,a1] z fun xj vh=>Q xj vh) ( dG a1 (N .i64 0) fun vf=>dG a1 (N .i64 1) fun xk=>aQ a0 fun xl=>af .sub xl e fun xm=>af .add xm (N .i64 1) fun t=>bA (fun v9 j s=>af .lss (ag j 0) t fun xn=>au xn ( cZ (fun v=>dG a0 (ag j 0) fun xo=>af .neq xo vf fun xp=>au xp ( af .add (ag j 0) (N .i64 1) fun xq=>bO (aU a0 (some xq) (some t)) fun xr=>p1 [xr,vf] s fun vg A=>af .lss vg (N .i64 0) fun xs=>au xs ( Q (N .i64 (-1)) A) ( af .add vg (N .i64 1) fun xt=>af .add (ag j 0) xt fun xu=>v [xu] A)) ( v [(ag j 0)] s)) (fun o B=>af .add (ag o 0) (N .i64 1) fun xv=>dG a0 xv fun xw=>af .eql xw xk fun d=>aa d true (fun vm=>vm a0 B) (fun c=>c .undef B) fun xx C=>aa d true (fun vo=>vo (ag o 0) C) (fun c=>c .undef C) fun xy D=>aa d true (fun vp=>vp (ag o 0) D) (fun c=>c .undef D) fun xz E=>aa d true (fun vq=>vq e E) (fun c=>c .undef E) fun x0 F=>aa d true (fun vr=>af .add xz x0 fun x1=>vr x1 F) (fun c=>c .undef F) fun x2 G=>aa d true (fun vs=>bO (aU xx (some xy) (some x2)) fun x3=>vs x3 G) (fun c=>c .undef G) fun x4 H=>aa d true (fun vt=>vt a1 H) (fun c=>c .undef H) fun x5 I=>aa d true (fun vu=>bn .eql x4 x5 fun x6=>vu x6 I) (fun c=>c .undef I) fun x7 l=>aD d x7 (Bo false) fun x8=>au x8 ( Q (ag o 0) l) ( af .add (ag o 0) (N .i64 1) fun g=>af .add (ag j 1) (N .i64 1) fun u=>ak l (IM l p2) fun wa=>af .leq e wa fun n=>aa n true (fun vv=>vv u l) (fun c=>c .undef l) fun wb L=>aa n true (fun vw=>vw g L) (fun c=>c .undef L) fun wc O=>aa n true (fun vx=>p4 [wc] O fun wd vi=>vx wd vi) (fun c=>c .undef O) fun we P=>aa n true (fun vy=>af .gtr wb we fun wf=>vy wf P) (fun c=>c .undef P) fun wg m=>aD n wg (Bo false) fun wh=>au wh ( bO (aU a0 (some g) none) fun wi=>p3 [wi,a1] m fun vd R=>af .geq vd (N .i64 0) fun wj=>au wj ( af .add vd g fun wk=>Q wk R) ( Q (N .i64 (-1)) R)) ( ak m (IM m p2) fun wl=>af .gtr e wl fun i=>aa i true (fun vz=>vz u m) (fun c=>c .undef m) fun wm S=>aa i true (fun v0=>v0 g S) (fun c=>c .undef S) fun wn U=>aa i true (fun v1=>qi .shr wn (N .u64 4) fun wo=>v1 wo U) (fun c=>c .undef U) fun wp V=>aa i true (fun v2=>af .add (N .i64 4) wp fun wq=>v2 wq V) (fun c=>c .undef V) fun wr W=>aa i true (fun v4=>af .geq wm wr fun ws=>v4 ws W) (fun c=>c .undef W) fun wt X=>aD i wt (Bo false) fun p=>aa p true (fun v5=>v5 g X) (fun c=>c .undef X) fun wu Y=>aa p true (fun v6=>v6 t Y) (fun c=>c .undef Y) fun wv Z=>aa p true (fun v7=>af .lss wu wv fun ww=>v7 ww Z) (fun c=>c .undef Z) fun wx va=>aD p wx (Bo false) fun wy=>au wy ( bO (aU a0 (some g) none) fun wz=>p5 [wz,a1] va fun ve vc=>af .lss ve (N .i64 0) fun w0=>au w0 ( Q (N .i64 (-1)) vc) ( af .add g ve fun w1=>Q w1 vc)) ( v9 [g,u] va))))) ( Q (N .i64 (-1)) s)) [(N .i64 0),(N .i64 0)] z))))
def jI (p1 p2 p3:aj) (a0 a1:AV) (M0:RM) (Q:ai) : Prop:=af .leq (N .i32 0) a1 fun s=>aa s true (fun c=>c a1 M0) (fun c=>c .undef M0) fun v8 x=>aa s true (fun vi=>af .lss v8 (N .i32 128) fun v9=>vi v9 x) (fun c=>c .undef x) fun wa q=>aD s wa (Bo false) fun wb=>au wb ( pR .u8 a1 fun wc=>p1 [a0,wc] q fun wd vd=>Q wd vd) ( af .eql a1 (N .i32 65533) fun we=>au we ( BZ a0 fun v7 vh=>aZ v7 vh q fun wf ve=>bA (fun v4 x2 vf=>CQ wf vf fun t r=>aK t 0 fun wg=>au wg ( aK t 1 fun wh=>aK t 2 fun wi=>af .eql wi (N .i32 65533) fun wj=>au wj ( Q wh r) ( v4 [] r)) ( Q (N .i64 (-1)) r)) [] ve) ( p2 [a1] q fun wk Z=>eY wk fun wl=>au wl ( Q (N .i64 (-1)) Z) ( F5 a1 fun g=>aQ g fun wm=>af .sub wm (N .i64 1) fun h=>bA (fun v6 e p=>aQ a0 fun wn=>af .lss (ag e 0) wn fun wo=>au wo ( cZ (fun w=>dG a0 (ag e 0) fun wp=>dG g h fun wq=>af .neq wp wq fun wr=>au wr ( af .add (ag e 0) (N .i64 1) fun ws=>bO (aU a0 (some ws) none) fun wt=>dG g h fun wu=>p1 [wt,wu] p fun va y=>af .lss va (N .i64 0) fun wv=>au wv ( Q (N .i64 (-1)) y) ( af .add va (N .i64 1) fun ww=>af .add (ag e 0) ww fun wx=>w [wx] y)) ( w [(ag e 0)] p)) (fun v vb=>bA (fun v5 o n=>aQ g fun wy=>af .lss (ag o 0) wy fun wz=>au wz ( af .sub (ag v 0) (ag o 0) fun w1=>dG a0 w1 fun w2=>af .sub h (ag o 0) fun w3=>dG g w3 fun w4=>af .neq w2 w4 fun w5=>au w5 ( af .add (ag e 1) (N .i64 1) fun u=>af .add (ag v 0) (N .i64 1) fun i=>aa (Bo true) true (fun vj=>vj u n) (fun c=>c .undef n) fun w7 z=>aa (Bo true) true (fun vk=>vk i z) (fun c=>c .undef z) fun w8 A=>aa (Bo true) true (fun vl=>p3 [w8] A fun w9 vc=>vl w9 vc) (fun c=>c .undef A) fun xa B=>aa (Bo true) true (fun vm=>af .gtr w7 xa fun xb=>vm xb B) (fun c=>c .undef B) fun xc C=>aD (Bo true) xc (Bo false) fun j=>aa j true (fun vn=>vn i C) (fun c=>c .undef C) fun xd D=>aa j true (fun vo=>vo a0 D) (fun c=>c .undef D) fun xe E=>aa j true (fun vp=>aQ xe fun xf=>vp xf E) (fun c=>c .undef E) fun xg F=>aa j true (fun vq=>af .lss xd xg fun xh=>vq xh F) (fun c=>c .undef F) fun xi G=>aD j xi (Bo false) fun l=>aa l false (fun vr=>vr (Bo false) G) (fun c=>c .undef G) fun d H=>aa d true (fun vs=>vs u H) (fun c=>c .undef H) fun xj I=>aa d true (fun vt=>vt i I) (fun c=>c .undef I) fun xk L=>aa d true (fun vu=>qi .shr xk (N .u64 4) fun xl=>vu xl L) (fun c=>c .undef L) fun xm O=>aa d true (fun vv=>af .add (N .i64 4) xm fun xn=>vv xn O) (fun c=>c .undef O) fun xo P=>aa d true (fun vw=>af .geq xj xo fun xp=>vw xp P) (fun c=>c .undef P) fun xq R=>aa l false (fun vx=>aD d xq (Bo false) fun xr=>vx xr R) (fun c=>c .undef R) fun xs S=>aa l false (fun vy=>vy xs S) (fun c=>c .undef S) fun m U=>aa m true (fun vz=>vz i U) (fun c=>c .undef U) fun xt V=>aa m true (fun v0=>v0 a0 V) (fun c=>c .undef V) fun xu W=>aa m true (fun v1=>aQ xu fun xv=>v1 xv W) (fun c=>c .undef W) fun xw X=>aa m true (fun v2=>af .lss xt xw fun xx=>v2 xx X) (fun c=>c .undef X) fun xy Y=>aa l false (fun v3=>aD m xy (Bo false) fun xz=>v3 xz Y) (fun c=>c .undef Y) fun x0 vg=>aD l (Bo true) x0 fun x1=>au x1 ( False) ( v6 [i,u] vg)) ( af .add (ag o 0) (N .i64 1) fun w0=>v5 [w0] n)) ( af .sub (ag v 0) h fun w6=>Q w6 n)) [(N .i64 1)] vb)) ( Q (N .i64 (-1)) p)) [h,(N .i64 0)] Z)))
end Go.Ab.Vc
set_option maxRecDepth 10000
namespace Go.Ab.Vc
open Go Go.Ab Go.Ab.Vl Go.Ab.Sm
def KF (c:aj) : Prop:=∀ {M:RM} {s:Str} {Q:ai},Q (Bo (xQ s)) M→c [St s] M Q
theorem Uq:KF fun args M Q=>∃ a0,args=[a0]∧oG a0 M Q:=by
 intro M s Q hQ
 refine⟨_,rfl, ?_⟩
 unfold oG
 simp only[dS]
 rw[gP]
 have e1:∀ x:Str,(s == x)=decide (s=x):=fun x=>by by_cases h:s=x <;> simp[h]
 rw[e1]
 unfold xQ at hQ
 cases h1:decide (s=rT) with
 | true =>
   simp only[h1,Bool.true_or] at hQ
   simp only[iM,gU]
   exact hQ
 | false =>
   simp only[h1,Bool.false_or] at hQ
   simp only[lG,jd]
   rw[gP,e1]
   cases h2:decide (s=iE) with
   | true=>simp only[h2,Bool.true_or] at hQ; simp only[iM,gU]; exact hQ
   | false =>
     simp only[h2,Bool.false_or] at hQ
     simp only[lG,jd]
     rw[gP,e1]
     exact hQ
def KL (c:aj) : Prop:=∀ {M:RM} {s:Str} {Q:ai},Q (Bo (yE s)) M→c [St s] M Q
theorem Sg (s:Str) : yE s=O9.any fun x=>s == x:=by
 unfold yE
 cases h:O9.any (fun x=>s == x) with
 | true =>
   obtain⟨x,h1,h2⟩:=List.any_eq_true.1 h
   have e:s=x:=by simpa using h2
   subst e
   exact decide_eq_true h1
 | false =>
   refine decide_eq_false fun hm=>?_
   have:=List.any_eq_false.1 h s hm
   simp at this
theorem Uu:KL fun args M Q=>∃ a0,args=[a0]∧qA a0 M Q:=by
 intro M s Q hQ
 refine⟨_,rfl, ?_⟩
 unfold qA
 simp only[dK]
 rw[Sg] at hQ
 refine bQ (fun ys M'=>M'=M∧(O9.any fun x=>s == x)=false) (fun ys M' h=>by obtain⟨rfl,h⟩:=h; rw[h] at hQ; exact hQ) ?_
 intro J hJ
 refine bQ (fun ys M'=>M'=M∧ys=[Bo (O9.any fun x=>s == x)]) (fun ys M' h=>?_) ?_
 ·obtain⟨rfl,rfl⟩:=h
  dsimp only[ag]
  refine bg (fun h=>by rw[h] at hQ; exact hQ) fun h=>hJ _ _ ⟨rfl,h⟩
 intro J2 hJ2
 unfold O9 at hJ2
 simp only[List.any_cons,List.any_nil,Bool.or_false] at hJ2
 repeat' first
  | (rw[gP]; refine bg (fun h=>hJ2 _ _ ⟨rfl,by simp[h]⟩) fun h=>?_)
  | (rw[gP]; refine hJ2 _ _ ⟨rfl,by simp[*]⟩)
def Ww (B:Base) (c:aj) : Prop:=∀ {M:RM} {n:Int} {Q:ai},M.base=B→-9223372036854775808≤n→n≤9223372036854775807→(∀ M',ae [] M M'→Q (St (Lib.itoa n)) M')→c [N .i64 n] M Q
def Qf (B:Base) (c:aj) : Prop:=∀ {M:RM} {s:Str} {k:Int} {Q:ai},M.base=B→s.length≤1000000000→(∀ M',ae [] M M'→Q (St (gQ s k)) M')→c [St s,N .i64 k] M Q
theorem Vw {B:Base} {ci:aj} (hi:Ww B ci) : Qf B fun args M Q=>∃ a0 a1,args=[a0,a1]∧oF ci a0 a1 M Q:=by
 intro M s k Q hB hs hQ
 refine⟨_,_,rfl, ?_⟩
 unfold oF
 rw[dV]
 unfold gQ at hQ
 refine bg (fun h=>?_) (fun h=>?_)
 ·have h:k=0:=by simpa using h
  rw[if_pos h] at hQ
  exact hQ M (ae.refl _ _)
 ·have h:¬ k=0:=by simpa using h
  rw[if_neg h] at hQ
  rw[bM]
  refine⟨by simp; omega, ?_⟩
  rw[fq]
  have hw : -9223372036854775808≤IntKind.wrap .i64 (k + 1)∧IntKind.wrap .i64 (k + 1)≤9223372036854775807:=by
   rw[IntKind.wrap_i64]; omega
  refine hi hB hw.1 hw.2 fun M' k'=>?_
  rw[bM]
  have:=Lib.itoa_length_le _ hw.1 hw.2
  refine⟨by simp; omega, ?_⟩
  exact hQ M' k'
def PU (B:Base) (c:aj) : Prop:=∀ {M:RM} {s:Str} {Q:ai},M.base=B→s.length≤1000000000→(∀ M',ae [] M M'→Q (Bo (ES s)) M')→c [St s,St mY] M Q
theorem JR (s:Str) : (Lib.indexAny s mY=-1∧∀ x∈s,x ∉ mY)∨∃ a c b,s=a++c :: b∧Lib.indexAny s mY=(a.length:Int)∧c∈mY∧∀ x∈a,x ∉ mY:=by
 induction s with
 | nil=>exact .inl ⟨rfl,by simp⟩
 | cons d s ih =>
   by_cases hd:d∈mY
   ·refine .inr ⟨[],d,s,rfl, ?_,hd,by simp⟩
    have:mY.contains d=true:=by simpa using hd
    simp[Lib.indexAny,hd]
   ·have hn:mY.contains d=false:=by simpa using hd
    rcases ih with⟨e,h⟩ | ⟨a,c,b,e1,e2,h1,h2⟩
    ·refine .inl ⟨by simp[Lib.indexAny,hd,e],fun x hx=>?_⟩
     rcases List.mem_cons.1 hx with rfl | hx
     ·exact hd
     ·exact h x hx
    ·refine .inr ⟨d :: a,c,b,by rw[e1]; rfl, ?_,h1,fun x hx=>?_⟩
     ·simp[Lib.indexAny,hd,e2]
     ·rcases List.mem_cons.1 hx with rfl | hx
      ·exact hd
      ·exact h2 x hx
theorem SH {B:Base} {ci:aj} (hi:mO mY B ci) : PU B fun args M Q=>∃ a0 a1,args=[a0,a1]∧gz ci a0 a1 M Q:=by
 intro M s Q hM hl hQ
 refine⟨_,_,rfl, ?_⟩
 unfold gz
 refine hi hM hl fun M' k=>?_
 have hQ:=hQ M' k
 rw[fK]
 rcases JR s with⟨e,h⟩ | ⟨a,c,b,e1,e2,h1,h2⟩
 ·have:ES s=false:=by
   unfold ES
   rw[List.any_eq_false]
   intro x hx
   simpa using h x hx
  rw[this] at hQ
  rw[e]; exact hQ
 ·have:ES s=true:=by
   unfold ES
   rw[List.any_eq_true]
   exact⟨c,by rw[e1]; simp,by simpa using h1⟩
  rw[this] at hQ
  rw[e2,show decide ((a.length:Int) ≥ 0)=true from decide_eq_true (by omega)]; exact hQ
def Ap (j:Nat) (vs:List Str) : Str:=if j=0 then uh vs else oq (vs.drop j)
theorem RF {vs:List Str} {j:Nat} (hj:j<vs.length) : Ap j vs=(if 0<j then[44] else[])++(q4 vs[j]++Ap (j + 1) vs):=by
 unfold Ap
 rw[if_neg (by omega:¬ j + 1=0)]
 by_cases h:j=0
 ·subst h
  rw[if_pos rfl,if_neg (by omega)]
  cases vs with
  | nil=>simp at hj
  | cons v vs=>rfl
 ·rw[if_neg h,if_pos (by omega),List.drop_eq_getElem_cons hj]
  rfl
theorem Ug (vs:List Str) : Ap vs.length vs=[]:=by
 unfold Ap
 cases vs with
 | nil=>rfl
 | cons v vs=>rw[if_neg (by simp),List.drop_length]; rfl
def Lx (B:Base) (c:aj) : Prop:=∀ {M:RM} {cs:List AV} {L:Ln} {k:Int} {S:Nat→Prop} {Q:ai},M.base=B→iO.rel M cs (L,k) S→LB 1000000000 L→(dF L).length≤140737488355328→(∀ M',ae [] M M'→Q (St (dF L)) M')→c [.agg cs] M Q
theorem QU {B:Base} {TL TP:Nat} {ca:aj} (ha:PU B ca) : Lx B fun args M Q=>∃ a0,args=[a0]∧sH TL TP ca a0 M Q:=by
 intro M cs L k S Q hBM hrel hB hPl hQ
 obtain⟨v,rfl,hps⟩:=hrel
 simp only at hps
 refine⟨_,rfl, ?_⟩
 unfold sH
 simp only[dK]
 have hall:([St L.g,St L.n,v,St L.v,N .i64 k] : List AV).all oneCell=true:=by simp[fF,hps.one]
 rw[iZ hall (by simp),aG]
 have k1:ae [] M (M.push (.row [St L.g,St L.n,v,St L.v,N .i64 k] false TL 0)):=(ae.refl _ _).push _
 have h1:(M.push (.row [St L.g,St L.n,v,St L.v,N .i64 k] false TL 0)).heap M.next=some (.row [St L.g,St L.n,v,St L.v,N .i64 k] false TL 0):=RM.aS _
 have n1:(M.push (.row [St L.g,St L.n,v,St L.v,N .i64 k] false TL 0)).next=M.next + 1:=bH _
 generalize M.push (.row [St L.g,St L.n,v,St L.v,N .i64 k] false TL 0)=M1 at *
 have YC:bE jl M1 v L.ps S:=hps.keep k1 (by simp)
 have aaO:=hB.ps
 have hgl:=hB.g
 have hnl:=hB.n
 rw[bi,az h1 rfl]
 have hP:iY L++L.n++L.ps.flatMap xG=dF L:=by unfold dF jN; rw[List.append_assoc]
 generalize dF L=P at *
 refine bQ (fun ys M'=>ys=[St (iY L++L.n)]∧M'=M1) ?_ ?_
 rotate_left 1
 ·intro J hJ
  rw[bi,az h1 rfl,mR]
  unfold iY at hJ
  refine bg (fun h=>?_) (fun h=>?_)
  ·have h:¬ L.g=[]:=by simpa using h
   rw[if_neg h] at hJ
   rw[bi,az h1 rfl,bM]
   refine⟨by simp; omega, ?_⟩
   rw[bM]
   exact⟨by simp; omega,hJ _ _ ⟨rfl,rfl⟩⟩
  ·have h:L.g=[]:=by simpa using h
   rw[if_pos h] at hJ
   exact hJ _ _ ⟨rfl,rfl⟩
 rintro _ M' ⟨rfl,e⟩
 rw[e]
 clear e M'
 dsimp only[ag]
 rw[bi,az h1 rfl,YC.len]
 refine aP (fun m ys M5=>∃ (i:Nat) (xs:List UInt8),m=L.ps.length - i∧ys=[St xs,N .i64 (i:Int)]∧i≤L.ps.length∧ae [] M1 M5∧xs++(L.ps.drop i).flatMap xG=P) L.ps.length
  ⟨0,_,rfl,rfl,Nat.zero_le _,ae.refl _ _,by rw[List.drop_zero]; exact hP⟩ ?_
 rintro next m ys M5 hnext ⟨i,xs,rfl,rfl,hi,k5,hx⟩
 dsimp only[ag]
 have NR:=YC.keep k5 (by simp)
 rw[jQ]
 refine bg (fun hlt=>?_) (fun hge=>?_)
 ·have hlt:i<L.ps.length:=of_decide_eq_true hlt
  have hmem:=List.getElem_mem hlt
  have b1:=hB.pn _ hmem
  have b2:=hB.pl _ hmem
  have b3:=hB.pv _ hmem
  rw[List.drop_eq_getElem_cons hlt,List.flatMap_cons] at hx
  have hpj:xG L.ps[i]=[59]++L.ps[i].1++[61]++uh L.ps[i].2:=rfl
  have hxl:=G7 hx
  rw[hpj] at hxl
  simp only[List.length_append,List.length_cons,List.length_nil] at hxl
  generalize hrest:(L.ps.drop (i + 1)).flatMap xG=rest at *
  obtain⟨pv,hpv,hpa⟩:=Ij NR hlt
  rw[hpa,aG,bK (n:=2) (x:=.agg [St L.ps[i].1,pv]) (l:=[St [],aB]) (RM.aS _) rfl rfl (by show([St L.ps[i].1,pv] : List AV).all oneCell=true; simp[fF,hpv.one])]
  have k6:ae [] M5 ((M5.push (.row [St [],aB] false TP 0)).put M5.next (.row (AV.agg [St L.ps[i].1,pv]).cells false TP 0)):=((ae.refl _ _).push _).new _ (Nat.le_refl _)
  have h6:((M5.push (.row [St [],aB] false TP 0)).put M5.next (.row (AV.agg [St L.ps[i].1,pv]).cells false TP 0)).heap M5.next=some (.row [St L.ps[i].1,pv] false TP 0):=ay _
  have n6:((M5.push (.row [St [],aB] false TP 0)).put M5.next (.row (AV.agg [St L.ps[i].1,pv]).cells false TP 0)).next=M5.next + 1:=rfl
  generalize (M5.push (.row [St [],aB] false TP 0)).put M5.next (.row (AV.agg [St L.ps[i].1,pv]).cells false TP 0)=M6 at *
  have QW:=hpv.keep k6 (by simp)
  rw[bi,az h6 rfl,bM]
  refine⟨by simp; omega, ?_⟩
  rw[bM]
  refine⟨by simp; omega, ?_⟩
  rw[bM]
  refine⟨by simp; omega, ?_⟩
  rw[bi,az h6 rfl,QW.len]
  refine aP (fun m ys M9=>∃ (j:Nat) (zs:List UInt8),m=L.ps[i].2.length - j∧ys=[St zs,N .i64 (j:Int)]∧j≤L.ps[i].2.length∧ae [] M6 M9∧zs++(Ap j L.ps[i].2++rest)=P) L.ps[i].2.length
    ⟨0,_,rfl,rfl,Nat.zero_le _,ae.refl _ _, ?_⟩ ?_
  ·rw[← hx,hpj]
   simp only[List.append_assoc,Ap,if_true]
  rintro Dr m ys M9 mg ⟨j,zs,rfl,rfl,hj,k9,hz⟩
  dsimp only[ag]
  rw[jQ]
  refine bg (fun hlt2=>?_) (fun VG=>?_)
  ·have hlt2:j<L.ps[i].2.length:=of_decide_eq_true hlt2
   rw[RF hlt2] at hz
   have b4:=b3 _ (List.getElem_mem hlt2)
   have hzl:=G7 hz
   simp only[List.length_append] at hzl
   have UW:=QW.keep k9 (by simp)
   refine bQ (fun ys M'=>ys=[St (zs++((if 0<j then[44] else[])++q4 L.ps[i].2[j]))]∧ae [] M6 M') ?_ ?_
   ·rintro _ Ma ⟨rfl,ka⟩
    dsimp only[ag]
    rw[add1 (by omega)]
    refine mg _ _ _ (by omega) ⟨j + 1,_,rfl,rfl,by omega,ka, ?_⟩
    rw[← hz]
    simp only[List.append_assoc]
   intro J3 hJ3
   rw[Mi UW.sl hlt2]
   generalize L.ps[i].2[j]=x at *
   refine bQ (fun ys M'=>ys=[St (zs++(if 0<j then[44] else[]))]∧M'=M9) ?_ ?_
   ·rintro _ Ma ⟨rfl,rfl⟩
    dsimp only[ag]
    refine bQ (fun ys M'=>ys=[St (q4 x)]∧ae [] Ma M') ?_ ?_
    ·rintro _ Mb ⟨rfl,kb⟩
     dsimp only[ag]
     rw[bM]
     refine⟨by simp only[List.length_append]; omega, ?_⟩
     exact hJ3 _ _ ⟨by rw[List.append_assoc],k9.trans kb⟩
    intro J2 hJ2
    refine ha (((k1.trans k5).trans (k6.trans k9)).base.trans hBM) b4 fun Mb kb=>?_
    refine bg (fun hm=>?_) (fun hm=>?_)
    ·rw[bM]
     refine⟨by simp; omega, ?_⟩
     rw[bM]
     refine⟨by simp; omega, ?_⟩
     exact hJ2 _ _ ⟨by rw[q4,if_pos hm],kb⟩
    ·exact hJ2 _ _ ⟨by rw[q4,if_neg (by rw[hm]; simp)],kb⟩
   intro J2 hJ2
   rw[show(N .i64 (0:Int))=N .i64 ((0:Nat) : Int) from rfl,Fz]
   refine bg (fun hm=>?_) (fun hm=>?_)
   ·have hm:0<j:=of_decide_eq_true hm
    rw[if_pos hm] at hzl hJ2
    simp only[List.length_cons,List.length_nil] at hzl
    rw[bM]
    refine⟨by simp; omega, ?_⟩
    exact hJ2 _ _ ⟨rfl,rfl⟩
   ·have hm:¬ 0<j:=of_decide_eq_false hm
    refine hJ2 _ _ ⟨?_,rfl⟩
    rw[if_neg hm,List.append_nil]
  ·have he:j=L.ps[i].2.length:=by
    have:¬ j<L.ps[i].2.length:=of_decide_eq_false VG
    omega
   subst he
   rw[Ug,List.nil_append] at hz
   rw[add1 (by omega)]
   exact hnext _ _ _ (by omega) ⟨i + 1,zs,rfl,rfl,by omega,k5.trans (k6.trans k9),by rw[hrest]; exact hz⟩
 ·have he:i=L.ps.length:=by
   have:¬ i<L.ps.length:=of_decide_eq_false hge
   omega
  subst he
  rw[List.drop_length,List.flatMap_nil,List.append_nil] at hx
  subst hx
  exact hQ M5 (k1.trans k5)
theorem Ms {f g:Prop→Prop} {k:Prop} : BS (Bo false) true f g k=g k:=rfl
theorem Ub {f g:Prop→Prop} {k:Prop} : BS (Bo true) true f g k=f k:=rfl
def eF (vs:List Str) : Nat:=(vs.map fun v=>v.length + 3).sum
def jo (ps:List gF) : Nat:=(ps.map fun p=>p.1.length + 3 + eF p.2).sum
theorem Dy (a:List Str) (v:Str) : eF (a++[v])=eF a + (v.length + 3):=by simp[eF]
theorem PN (a:List gF) (p:gF) : jo (a++[p])=jo a + (p.1.length + 3 + eF p.2):=by simp[jo]
theorem Pg:∀ {vs:List Str} {v:Str},v∈vs→v.length + 3≤eF vs
 | w :: vs,v,h=>by
   rw[show eF (w :: vs)=(w.length + 3) + eF vs by simp[eF]]
   rcases List.mem_cons.1 h with rfl | h
   ·omega
   ·have:=Pg h; omega
theorem OZ:∀ vs:List Str,vs.length≤eF vs
 | []=>by simp
 | w :: vs=>by
   rw[show eF (w :: vs)=(w.length + 3) + eF vs by simp[eF]]
   have:=OZ vs; simp; omega
theorem D6:∀ {ps:List gF} {p:gF},p∈ps→p.1.length + 3 + eF p.2≤jo ps
 | w :: vs,v,h=>by
   rw[show jo (w :: vs)=(w.1.length + 3 + eF w.2) + jo vs by simp[jo]]
   rcases List.mem_cons.1 h with rfl | h
   ·omega
   ·have:=D6 h; omega
theorem Pn:∀ vs:List gF,vs.length≤jo vs
 | []=>by simp
 | w :: vs=>by
   rw[show jo (w :: vs)=(w.1.length + 3 + eF w.2) + jo vs by simp[jo]]
   have:=Pn vs; simp; omega
theorem Tf (v:Str) : (q4 v).length≤v.length + 2:=by unfold q4; split <;> simp
theorem Jp:∀ vs:List Str,(oq vs).length≤eF vs
 | []=>by simp[oq]
 | v :: vs=>by
   rw[show eF (v :: vs)=(v.length + 3) + eF vs by simp[eF],show oq (v :: vs)=(44 :: q4 v)++oq vs from rfl]
   have:=Jp vs; have:=Tf v
   simp; omega
theorem Uz (vs:List Str) : (uh vs).length≤eF vs:=by
 cases vs with
 | nil=>simp[uh]
 | cons v vs =>
   rw[show eF (v :: vs)=(v.length + 3) + eF vs by simp[eF],show uh (v :: vs)=q4 v++oq vs from rfl]
   have:=Jp vs; have:=Tf v
   simp; omega
theorem JZ:∀ ps:List gF,(jN ps).length≤jo ps
 | []=>by simp[jN]
 | p :: ps=>by
   rw[show jo (p :: ps)=(p.1.length + 3 + eF p.2) + jo ps by simp[jo],show jN (p :: ps)=xG p++jN ps from rfl]
   have h1:=JZ ps; have h2:=Uz p.2
   unfold xG
   simp only[List.length_append,List.length_cons,List.length_nil]; omega
theorem Js:∀ vs:List Str,(tailV vs).length≤eF vs
 | []=>by simp[tailV]
 | v :: vs=>by
   rw[show eF (v :: vs)=(v.length + 3) + eF vs by simp[eF],show tailV (v :: vs)=(44 :: qv v)++tailV vs from rfl]
   have:=Js vs; have:=TT v
   simp; omega
theorem QD (vs:List Str) : (gG vs).length≤eF vs:=by
 cases vs with
 | nil=>simp[gG]
 | cons v vs =>
   rw[show eF (v :: vs)=(v.length + 3) + eF vs by simp[eF],show gG (v :: vs)=qv v++tailV vs from rfl]
   have:=Js vs; have:=TT v
   simp; omega
theorem JN:∀ ps:List gF,(ps.flatMap eX).length≤jo ps
 | []=>by simp
 | p :: ps=>by
   rw[show jo (p :: ps)=(p.1.length + 3 + eF p.2) + jo ps by simp[jo],List.flatMap_cons]
   have h1:=JN ps; have h2:=QD p.2
   rw[show eX p=[59]++p.1.map fT++[61]++gG p.2 from rfl]
   simp only[List.length_append,List.length_cons,List.length_nil,List.length_map]; omega
structure rU (N:Nat) (L:Ln) : Prop where
 g:L.g.length≤N
 n:L.n.length≤N
 v:L.v.length≤N
 ps:jo L.ps≤N
theorem rU.mono {N K:Nat} {L:Ln} (h:rU N L) (hk:N≤K) : rU K L:=⟨by have:=h.g; omega,by have:=h.n; omega,by have:=h.v; omega,by have:=h.ps; omega⟩
theorem rU.lb {N:Nat} {L:Ln} (h:rU N L) : LB N L where
 g:=h.g
 n:=h.n
 v:=h.v
 ps:=Nat.le_trans (Pn _) h.ps
 pn p hp:=by have:=D6 hp; have:=h.ps; omega
 pl p hp:=by have:=D6 hp; have:=h.ps; have:=OZ p.2; omega
 pv p hp v hv:=by have:=D6 hp; have:=h.ps; have:=Pg hv; omega
theorem rU.YD {N:Nat} {L:Ln} (h:rU N L) : (dF L).length≤3 * N + 1:=by
 have:=JZ L.ps
 have h1:=h.g; have h2:=h.n; have h3:=h.ps
 unfold dF iY
 split <;> simp <;> omega
theorem rU.laid {N:Nat} {L:Ln} (h:rU N L) : (ek L).length≤4 * N + 2:=by
 have:=JN L.ps
 have h1:=h.g; have h2:=h.n; have h3:=h.ps; have h4:=h.v
 unfold ek rq iY
 split <;> simp only[List.length_append,List.length_cons,List.length_nil,List.length_map] at * <;> omega
theorem WU (v:Str) : v.length≤(qv v).length:=by unfold qv; split <;> simp <;> omega
theorem NJ:∀ vs:List Str,eF vs≤3 * (tailV vs).length
 | []=>by simp[eF]
 | v :: vs=>by
   rw[show eF (v :: vs)=(v.length + 3) + eF vs by simp[eF],show tailV (v :: vs)=(44 :: qv v)++tailV vs from rfl]
   have:=NJ vs; have:=WU v
   simp; omega
theorem UJ (vs:List Str) : eF vs≤3 * (gG vs).length + 3:=by
 cases vs with
 | nil=>simp[eF]
 | cons v vs =>
   rw[show eF (v :: vs)=(v.length + 3) + eF vs by simp[eF],show gG (v :: vs)=qv v++tailV vs from rfl]
   have:=NJ vs; have:=WU v
   simp; omega
theorem LX:∀ ps:List gF,jo ps≤3 * (ps.flatMap eX).length
 | []=>by simp[jo]
 | p :: ps=>by
   rw[show jo (p :: ps)=(p.1.length + 3 + eF p.2) + jo ps by simp[jo],List.flatMap_cons]
   have h1:=LX ps; have h2:=UJ p.2
   rw[show eX p=[59]++p.1.map fT++[61]++gG p.2 from rfl]
   simp only[List.length_append,List.length_cons,List.length_nil,List.length_map]; omega
theorem OT {N:Nat} {L:Ln} (h:(ek L).length≤N) : rU (3 * N) L:=by
 have h1:=LX L.ps
 have h2:L.g.length≤(iY L).length:=by unfold iY; split <;> simp[*]
 unfold ek rq at h
 simp only[List.length_append,List.length_map,List.length_cons,List.length_nil] at h
 exact⟨by omega,by omega,by omega,by omega⟩
theorem nU {L:Ln} (h:(gB bF L).2=0) : ig bF L=true∧(ek L).length≤912∧(gB bF L).1=fo 0 (ek L)++[13,10]:=by
 unfold gB at h ⊢
 split at h
 ·rename_i hg
  rw[if_pos hg]
  split at h
  ·cases h
  ·rename_i hl; rw[if_neg hl]; exact⟨hg,by omega,rfl⟩
 ·cases h
def mJ (p:Fd) : AV:=.agg [St p.1,St p.2]
theorem zU {M:RM} {cs:List AV} {L:Ln} {k:Int} {S:Nat→Prop} (h:iO.rel M cs (L,k) S) : ∃ v,cs=[St L.g,St L.n,v,St L.v,N .i64 k]∧bE jl M v L.ps S∧cs.all oneCell=true∧cs.length=5:=by
 obtain⟨v,rfl,h⟩:=h
 exact⟨v,rfl,h,by simp[fF,h.one],rfl⟩
theorem kQ {M:RM} {v:AV} {L:Ln} {k:Int} {S:Nat→Prop} (h:bE jl M v L.ps S) : iO.rel M [St L.g,St L.n,v,St L.v,N .i64 k] (L,k) S:=⟨v,rfl,h⟩
theorem O8 (x:Str) : (gq++[46]++x).length=4 + x.length:=by simp; omega
def F6 (B:Base) (c:aj) : Prop:=∀ {M:RM} {cs:List AV} {L:Ln} {k:Int} {S:Nat→Prop} {Q:ai},M.base=B→iO.rel M cs (L,k) S→LB 1000000 L→(dF L).length≤140737488355328→(∀ M',ae [] M M'→Q (mJ (aT L)) M')→c [.agg cs] M Q
theorem Lc {L:Ln} (h:LB 1000000 L) : LB 1000000000 L:=h.mono (by omega)
theorem RV {B:Base} {TL TP:Nat} {cn ct cu ce:aj} (hn:Lx B cn) (ht:KL ct) (hu:Nc (N .i64 14) (N .i64 0) cu) (he:QC ce) : F6 B fun args M Q=>∃ a0,args=[a0]∧uT TL TP cn ct cu ce a0 M Q:=by
 intro M cs L k S Q hBM hrel hB hPl hQ
 obtain⟨v,rfl,hps,hall,_⟩:=zU hrel
 refine⟨_,rfl, ?_⟩
 unfold uT
 rw[iZ hall (by simp),aG]
 have k1:ae [] M (M.push (.row [St L.g,St L.n,v,St L.v,N .i64 k] false TL 0)):=(ae.refl _ _).push _
 have h1:(M.push (.row [St L.g,St L.n,v,St L.v,N .i64 k] false TL 0)).heap M.next=some (.row [St L.g,St L.n,v,St L.v,N .i64 k] false TL 0):=RM.aS _
 have n1:(M.push (.row [St L.g,St L.n,v,St L.v,N .i64 k] false TL 0)).next=M.next + 1:=bH _
 generalize M.push (.row [St L.g,St L.n,v,St L.v,N .i64 k] false TL 0)=M1 at *
 rw[aG]
 have k2:ae [] M1 (M1.push (.row [St [],St []] false TP 0)):=(ae.refl _ _).push _
 have h2:(M1.push (.row [St [],St []] false TP 0)).heap M1.next=some (.row [St [],St []] false TP 0):=RM.aS _
 have n2:(M1.push (.row [St [],St []] false TP 0)).next=M1.next + 1:=bH _
 generalize M1.push (.row [St [],St []] false TP 0)=M2 at *
 have h12:=k2.ax h1 (by omega) (by simp)
 rw[aO (n:=5) h12 rfl,bi,az h12 rfl,OJ]
 have k3:ae [] M2 (M2.push (.row [St [],St []] false TP 0)):=(ae.refl _ _).push _
 have h3:(M2.push (.row [St [],St []] false TP 0)).heap M2.next=some (.row [St [],St []] false TP 0):=RM.aS _
 have n3:(M2.push (.row [St [],St []] false TP 0)).next=M2.next + 1:=bH _
 generalize M2.push (.row [St [],St []] false TP 0)=M3 at *
 have k03:=(k1.trans k2).trans k3
 refine hn (k03.base.trans hBM) (kQ (hps.keep k03 (by simp))) (Lc hB) hPl fun M4 k4=>?_
 have h14:=(k3.trans k4).ax h12 (by omega) (by simp)
 have h24:=(k3.trans k4).ax h2 (by omega) (by simp)
 have h34:=k4.ax h3 (by omega) (by simp)
 have n4:=k4.next
 rw[az h14 rfl]
 refine⟨rfl,⟨h34,rfl⟩, ?_⟩
 rw[jX]
 refine⟨[St (dF L),St L.v],by simp[nA,known,AV.cells,oneCell], ?_⟩
 have k04:=k03.trans k4
 rw[bK (n:=2) (x:=.agg [St (dF L),St L.v]) (l:=[St [],St []]) h34 rfl rfl rfl]
 have k5:ae [] M (M4.put M2.next (.row (AV.agg [St (dF L),St L.v]).cells false TP 0)):=k04.put _ (.inl (by omega))
 have h15:(M4.put M2.next (.row (AV.agg [St (dF L),St L.v]).cells false TP 0)).heap M.next=_:=dC h14 (by omega)
 have h25:(M4.put M2.next (.row (AV.agg [St (dF L),St L.v]).cells false TP 0)).heap M1.next=_:=dC h24 (by omega)
 have h35:(M4.put M2.next (.row (AV.agg [St (dF L),St L.v]).cells false TP 0)).heap M2.next=some (.row [St (dF L),St L.v] false TP 0):=ay _
 have n5:(M4.put M2.next (.row (AV.agg [St (dF L),St L.v]).cells false TP 0)).next=M4.next:=rfl
 generalize M4.put M2.next (.row (AV.agg [St (dF L),St L.v]).cells false TP 0)=M5 at *
 rw[bi,az h15 rfl]
 refine ht ?_
 rw[bP]
 have fin:∀ {M6:RM} {p:Fd} {Q' : AV→RM→Prop},ae [] M M6→M6.heap M1.next=some (.row [St [],St []] false TP 0)→M6.heap M2.next=some (.row [St p.1,St p.2] false TP 0)→(∀ M',ae [] M M'→Q' (mJ p) M') →
   aH M6 (.ptr M2.next 0) 2 fun t15=>aA M6 (.ptr M1.next 0) t15 2 fun M_5=>aH M_5 (.ptr M1.next 0) 2 fun res=>Q' res M_5:=by
  intro M6 p Q' k6 g1 g2 hQ'
  rw[aO (n:=2) g2 rfl,bK (n:=2) (x:=.agg [St p.1,St p.2]) (l:=[St [],St []]) g1 rfl rfl rfl,aO (n:=2) (ay _) rfl]
  exact hQ' _ (k6.put _ (.inl (by omega)))
 unfold aT at hQ
 refine bg (fun h=>?_) (fun h=>?_)
 ·have h:yE L.n=false:=by simpa using h
  rw[h] at hQ
  exact fin (p:=(dF L,L.v)) k5 h25 h35 hQ
 ·have h:yE L.n=true:=by simpa using h
  rw[if_pos h] at hQ
  rw[bi,az h15 rfl]
  refine hu hB.v fun M6 k6=>?_
  have k06:=k5.trans k6
  have h16:=k6.ax h15 (by omega) (by simp)
  have h26:=k6.ax h25 (by omega) (by simp)
  have h36:=k6.ax h35 (by omega) (by simp)
  have n6:=k6.next
  unfold uB
  cases hx:fA L.v with
  | none =>
    rw[hx] at hQ
    dsimp only at hQ ⊢
    rw[bI,bJ,dV,show((14:Int) == 0)=false from rfl]
    simp only[oK,wY,Ms,jd,dI]
    rw[bi,az h36 rfl,bM]
    refine⟨by simp; omega, ?_⟩
    rw[bi,bN (l':=[St (gq++[46]++dF L),St L.v]) h36 (by simp) rfl rfl rfl]
    exact fin (p:=(gq++[46]++dF L,L.v)) (k06.put _ (.inl (by omega))) (dC h26 (by omega)) (ay _) hQ
  | some x =>
    rw[hx] at hQ
    dsimp only at hQ ⊢
    have hxl:=rX _ L.v x (Nat.le_refl _) hx
    have hvl:=hB.v
    rw[bI,bJ,dV,show((0:Int) == 0)=true from rfl]
    simp only[nu,oQ,Ub,gU]
    rw[bi,az h16 rfl]
    refine he (by omega) fun M7 k7=>?_
    have k07:=k06.trans k7
    have h17:=k7.ax h16 (by omega) (by simp)
    have h27:=k7.ax h26 (by omega) (by simp)
    have h37:=k7.ax h36 (by omega) (by simp)
    have n7:=k7.next
    rw[az h17 rfl]
    refine⟨rfl, ?_⟩
    rw[gP]
    refine bg (fun h=>?_) (fun h=>?_)
    ·have h:esc x=L.v:=by simpa using h
     rw[if_pos h] at hQ
     rw[bi,bN (l':=[St (dF L),St x]) h37 (by simp) rfl rfl rfl]
     exact fin (p:=(dF L,x)) (k07.put _ (.inl (by omega))) (dC h27 (by omega)) (ay _) hQ
    ·have h:¬ esc x=L.v:=by simpa using h
     rw[if_neg h] at hQ
     rw[bi,az h37 rfl,bM]
     refine⟨by simp; omega, ?_⟩
     rw[bi,bN (l':=[St (gq++[46]++dF L),St L.v]) h37 (by simp) rfl rfl rfl]
     exact fin (p:=(gq++[46]++dF L,L.v)) (k07.put _ (.inl (by omega))) (dC h27 (by omega)) (ay _) hQ
theorem Nk {L:Ln} (h:LB 1000000 L) : (aT L).1.length≤4 + (dF L).length∧(aT L).2.length≤1000000:=by
 have hv:=h.v
 unfold aT
 split
 ·split
  ·rename_i x hx
   have:=rX _ L.v x (Nat.le_refl _) hx
   split
   ·exact⟨by dsimp only; omega,by dsimp only; omega⟩
   ·exact⟨by dsimp only; rw[O8]; omega,hv⟩
  ·exact⟨by dsimp only; rw[O8]; omega,hv⟩
 ·exact⟨by dsimp only; omega,hv⟩
def F9 (B:Base) (c:aj) : Prop:=∀ {M:RM} {cs:List AV} {L:Ln} {k j:Int} {S:Nat→Prop} {Q:ai},M.base=B→iO.rel M cs (L,k) S→LB 1000000000 L→(ek L).length≤140737488355328→(∀ M',ae [] M M'→Q (.tup [mJ (jy L j).1,Bo (jy L j).2]) M')→c [.agg cs,N .i64 j] M Q
theorem QH {B:Base} {TL TP:Nat} {cp cr ca cn:aj} (hp:GQ B (gB bF) cp) (hr:KF cr) (ha:F6 B ca) (hn:Qf B cn) : F9 B fun args M Q=>∃ a0 a1,args=[a0,a1]∧sS TL TP cp cr ca cn a0 a1 M Q:=by
 intro M cs L k j S Q hBM hrel hB9 hLl hQ
 obtain⟨v,rfl,hps,hall,_⟩:=zU hrel
 refine⟨_,_,rfl, ?_⟩
 unfold sS
 simp only[dS]
 rw[iZ hall (by simp),aG]
 have k1:ae [] M (M.push (.row [St L.g,St L.n,v,St L.v,N .i64 k] false TL 0)):=(ae.refl _ _).push _
 have h1:(M.push (.row [St L.g,St L.n,v,St L.v,N .i64 k] false TL 0)).heap M.next=some (.row [St L.g,St L.n,v,St L.v,N .i64 k] false TL 0):=RM.aS _
 have n1:(M.push (.row [St L.g,St L.n,v,St L.v,N .i64 k] false TL 0)).next=M.next + 1:=bH _
 generalize M.push (.row [St L.g,St L.n,v,St L.v,N .i64 k] false TL 0)=M1 at *
 rw[aG]
 have k2:ae [] M1 (M1.push (.row [St [],St []] false TP 0)):=(ae.refl _ _).push _
 have h2:(M1.push (.row [St [],St []] false TP 0)).heap M1.next=some (.row [St [],St []] false TP 0):=RM.aS _
 have n2:(M1.push (.row [St [],St []] false TP 0)).next=M1.next + 1:=bH _
 generalize M1.push (.row [St [],St []] false TP 0)=M2 at *
 have h12:=k2.ax h1 (by omega) (by simp)
 have k02:=k1.trans k2
 rw[aO (n:=5) h12 rfl]
 refine hp (k02.base.trans hBM) (kQ (hps.keep k02 (by simp))) hB9 hLl fun M3 k3=>?_
 have h13:=k3.ax h12 (by omega) (by simp)
 have h23:=k3.ax h2 (by omega) (by simp)
 have n3:=k3.next
 have k03:=k02.trans k3
 rw[bI,bJ,dM]
 have hno:∀ {c:Bool},(jy L j=(([],[]),false))→c=true→∀ {M6:RM},ae [] M M6→M6.heap M1.next=some (.row [St [],St []] false TP 0) →
   eQ [(St []),(St [])] [] fun t30=>aA M6 (.ptr M1.next 0) t30 2 fun YU=>aH YU (.ptr M1.next 0) 2 fun res=>Q (.tup [res,(Bo false)]) YU:=by
  intro c hf _ M6 k6 g1
  rw[jX]
  refine⟨[St [],St []],rfl, ?_⟩
  rw[bK (n:=2) (x:=.agg [St [],St []]) (l:=[St [],St []]) g1 rfl rfl rfl,aO (n:=2) (ay _) rfl]
  rw[hf] at hQ
  exact hQ _ (k6.put _ (.inl (by omega)))
 refine qo (p:=L.g == gq) (fun hc kk hk=>?_) ?_
 ·rw[bi,az h13 rfl,gP]; exact hk
 refine qo (p:=xQ L.n) (fun hc kk hk=>?_) ?_
 ·rw[bi,az h13 rfl]; exact hr hk
 refine qo (p:=decide (j<0)) (fun hc kk hk=>?_) ?_
 ·rw[mP]; exact hk
 refine bg (fun h=>?_) (fun h=>?_)
 ·refine hno (c:=true) ?_ rfl k03 h23
  unfold jy
  rw[if_neg]
  rintro⟨a1,a2,a3,a4⟩
  have e1:((gB bF L).2 != 0)=false:=by simp[a1]
  have e2:(L.g == gq)=false:=by simpa using a2
  have e4:decide (j<0)=false:=decide_eq_false (by omega)
  rw[e1,e2,a3,e4] at h
  cases h
 ·simp only[Bool.or_eq_false_iff] at h
  obtain⟨⟨⟨a1,a2⟩,a3⟩,a4⟩:=h
  have e1:(gB bF L).2=0:=by simpa using a1
  have e2:L.g≠gq:=by simpa using a2
  have hsz:=OT (nU e1).2.1
  have hB:LB 1000000 L:=(hsz.mono (by omega)).lb
  have hPl:=hsz.YD
  have e4:0≤j:=by have:=of_decide_eq_false a4; omega
  have ef:jy L j=((gQ (aT L).1 j,(aT L).2),true):=by unfold jy; rw[if_pos ⟨e1,e2,a3,e4⟩]
  rw[ef] at hQ
  rw[aO (n:=5) h13 rfl]
  refine ha (k03.base.trans hBM) (kQ (hps.keep k03 (by simp))) hB (by omega) fun M4 k4=>?_
  have h24:=k4.ax h23 (by omega) (by simp)
  have n4:=k4.next
  have k04:=k03.trans k4
  unfold mJ
  rw[aG,bK (n:=2) (x:=.agg [St (aT L).1,St (aT L).2]) (l:=[St [],St []]) (RM.aS _) rfl rfl rfl]
  have k5:ae [] M4 ((M4.push (.row [St [],St []] false TP 0)).put M4.next (.row (AV.agg [St (aT L).1,St (aT L).2]).cells false TP 0)):=((ae.refl _ _).push _).new _ (Nat.le_refl _)
  have h5:((M4.push (.row [St [],St []] false TP 0)).put M4.next (.row (AV.agg [St (aT L).1,St (aT L).2]).cells false TP 0)).heap M4.next=some (.row [St (aT L).1,St (aT L).2] false TP 0):=ay _
  have n5:((M4.push (.row [St [],St []] false TP 0)).put M4.next (.row (AV.agg [St (aT L).1,St (aT L).2]).cells false TP 0)).next=M4.next + 1:=rfl
  generalize (M4.push (.row [St [],St []] false TP 0)).put M4.next (.row (AV.agg [St (aT L).1,St (aT L).2]).cells false TP 0)=M5 at *
  have h25:=k5.ax h24 (by omega) (by simp)
  rw[bi,az h5 rfl]
  have hpl:=Nk hB
  refine hn ((k04.trans k5).base.trans hBM) (by omega) fun M6 k6=>?_
  have h26:=k6.ax h25 (by omega) (by simp)
  have h56:=k6.ax h5 (by omega) (by simp)
  have n6:=k6.next
  have k06:=(k04.trans k5).trans k6
  rw[bi,bN (l':=[St (gQ (aT L).1 j),St (aT L).2]) h56 (by simp) rfl rfl rfl,aO (n:=2) (ay _) rfl,
   bK (n:=2) (x:=.agg [St (gQ (aT L).1 j),St (aT L).2]) (l:=[St [],St []]) (dC h26 (by omega)) rfl rfl rfl,aO (n:=2) (ay _) rfl]
  exact hQ _ ((k06.put _ (.inl (by omega))).put _ (.inl (by omega)))
def HZ (B:Base) (c:aj) : Prop:=∀ {M:RM} {s:Str} {Q:ai},M.base=B→s.length≤1000000000→(∀ M' b,ae [] M M'→(b && decide (s.length=5))=decide (s.map bV=cz)→Q (Bo b) M')→c [St s,St cz] M Q
def Nn (B:Base) (c:aj) : Prop:=∀ {M:RM} {cs:List AV} {L:Ln} {k:Int} {S:Nat→Prop} {n:Str} {Q:ai},M.base=B→iO.rel M cs (L,k) S→LB 1000000000 L→(∀ M',ae [] M M'→Q (Bo (fH L n)) M')→c [.agg cs,St n] M Q
theorem QJ {B:Base} {TL:Nat} {ce:aj} (he:HZ B ce) : Nn B fun args M Q=>∃ a0 a1,args=[a0,a1]∧pX TL ce a0 a1 M Q:=by
 intro M cs L k S n Q hBM hrel hB hQ
 obtain⟨v,rfl,hps,hall,_⟩:=zU hrel
 refine⟨_,_,rfl, ?_⟩
 unfold pX
 simp only[dS]
 rw[iZ hall (by simp),aG]
 have k1:ae [] M (M.push (.row [St L.g,St L.n,v,St L.v,N .i64 k] false TL 0)):=(ae.refl _ _).push _
 have h1:(M.push (.row [St L.g,St L.n,v,St L.v,N .i64 k] false TL 0)).heap M.next=some (.row [St L.g,St L.n,v,St L.v,N .i64 k] false TL 0):=RM.aS _
 have n1:(M.push (.row [St L.g,St L.n,v,St L.v,N .i64 k] false TL 0)).next=M.next + 1:=bH _
 generalize M.push (.row [St L.g,St L.n,v,St L.v,N .i64 k] false TL 0)=M1 at *
 rw[bi,az h1 rfl,mR]
 refine qo (p:=L.g != []) (fun hc kk hk=>?_) ?_
 ·rw[bi,az h1 rfl,mR]; exact hk
 refine qo (p:=decide (L.ps.length > 0)) (fun hc kk hk=>?_) ?_
 ·rw[bi,az h1 rfl,(hps.keep k1 (by simp)).len,show(N .i64 (0:Int))=N .i64 ((0:Nat) : Int) from rfl,Fz]; exact hk
 refine bg (fun h=>?_) (fun h=>?_)
 ·have:fH L n=false:=by
   unfold fH
   simp only[Bool.or_eq_true] at h
   rcases h with(h | h) | h
   ·have:¬ L.n=n:=by simpa using h
    rw[decide_eq_false this]; simp
   ·have:¬ L.g=[]:=by simpa using h
    rw[decide_eq_false this]; simp
   ·have:=of_decide_eq_true h
    rw[decide_eq_false (show ¬ L.ps.length=0 by omega)]; simp
  rw[this] at hQ
  exact hQ _ k1
 ·simp only[Bool.or_eq_false_iff] at h
  obtain⟨⟨a1,a2⟩,a3⟩:=h
  have e1:L.n=n:=by simpa using a1
  have e2:L.g=[]:=by simpa using a2
  have e3:L.ps.length=0:=by have:=of_decide_eq_false a3; omega
  have:fH L n=(if n=iE then decide (L.v=Tg) else decide (L.v.map bV=cz)):=by
   unfold fH
   rw[decide_eq_true e1,decide_eq_true e2,decide_eq_true e3]; rfl
  rw[this] at hQ
  rw[gP]
  refine bg (fun h=>?_) (fun h=>?_)
  ·have h:n=iE:=by simpa using h
   rw[if_pos h] at hQ
   rw[bi,az h1 rfl,gP]
   have:(L.v == [52,46,48])=decide (L.v=Tg):=by by_cases h:L.v=Tg <;> simp[h]
   rw[this]
   exact hQ _ k1
  ·have h:¬ n=iE:=by simpa using h
   rw[if_neg h] at hQ
   rw[bi,az h1 rfl]
   refine he (k1.base.trans hBM) hB.v fun M2 b k2 hb=>?_
   have h12:=k2.ax h1 (by omega) (by simp)
   refine wN (p:=decide (L.v.length=5)) (fun hc kk hk=>?_) ?_
   ·rw[bi,az h12 rfl,bC,dV]
    have:((L.v.length:Int) == 5)=decide (L.v.length=5):=by by_cases h:L.v.length=5 <;> simp[h]; omega
    rw[this]; exact hk
   rw[hb]
   exact hQ _ (k1.trans k2)
theorem Bf {α:Type} (p:α→Bool) (s:List α) : s.length - (s.dropWhile p).length=(s.takeWhile p).length:=by
 have:=congrArg List.length (List.takeWhile_append_dropWhile (p:=p) (l:=s))
 rw[List.length_append] at this; omega
def Mx (B:Base) (c:aj) : Prop:=∀ {M:RM} {s:Str} {Q:ai},M.base=B→s.length≤1000000000→(∀ M',ae [] M M'→Q (.tup [St (eB s).1,St (eB s).2]) M')→c [St s] M Q
theorem QI {B:Base} {ct:aj} (ht:Ld B ct) : Mx B fun args M Q=>∃ a0,args=[a0]∧vP ct a0 M Q:=by
 intro M s Q hBM hl hQ
 refine⟨_,rfl, ?_⟩
 unfold vP
 rw[bC]
 refine ht hBM hl fun M1 k1=>?_
 have hd:=sJ (cO.contains ·) s
 rw[bC,YH hd (by omega),Bf]
 have ht:=pW (cO.contains ·) s
 have hle:(s.takeWhile (cO.contains ·)).length≤s.length:=by rw[← Bf]; omega
 rw[gZ hle,dR,bD hle,dR,ht.1,ht.2]
 exact hQ M1 k1
def Qo (B:Base) (c:aj) : Prop:=∀ {M:RM} {s:Str} {Q:ai},M.base=B→s.length≤1000000000→(∀ M',ae [] M M'→Q (.tup [St (sN s).1,St (sN s).2.1,Bo (sN s).2.2]) M')→c [St s] M Q
theorem Ul {B:Base} {cp cc ci:aj} (hp:ku cp) (hc:zX 34 cc) (hi:mO mY B ci) : Qo B fun args M Q=>∃ a0,args=[a0]∧sI cp cc ci a0 M Q:=by
 intro M s Q hBM hl hQ
 refine⟨_,rfl, ?_⟩
 unfold sI
 simp only[dK]
 refine hp hl ?_
 unfold CG
 unfold sN at hQ
 cases hh:aN 34 s with
 | true =>
   rw[if_pos rfl,bI,bJ,eU]
   rw[if_pos hh] at hQ
   refine hc (by simp; omega) ?_
   unfold FR
   cases hb:brk 34 (s.drop 1) with
   | none =>
     rw[hb] at hQ
     dsimp only at hQ ⊢
     rw[bI,bJ,jf]
     exact hQ _ (ae.refl _ _)
   | some x =>
     rw[hb] at hQ
     dsimp only at hQ ⊢
     rw[bI,bJ,jf]
     exact hQ _ (ae.refl _ _)
 | false =>
   rw[if_neg (by simp),bI,bJ,dI]
   rw[if_neg (by rw[hh]; simp)] at hQ
   refine hi hBM hl fun M1 k1=>?_
   have hlt:=xW s mY
   have hge : -1≤Lib.indexAny s mY:=by
    rcases JR s with⟨e,_⟩ | ⟨a,c,b,_,e,_⟩ <;> omega
   refine bQ (fun ys M'=>M'=M1∧ys=[N .i64 (if Lib.indexAny s mY<0 then(s.length:Int) else Lib.indexAny s mY)]) ?_ ?_
   ·rintro _ _ ⟨rfl,rfl⟩
    dsimp only[ag]
    by_cases h:Lib.indexAny s mY<0
    ·rw[if_pos h,gZ (Nat.le_refl _),dR,bD (Nat.le_refl _),dR,List.take_length,List.drop_length]
     rw[if_pos h] at hQ
     exact hQ _ k1
    ·rw[if_neg h] at hQ ⊢
     obtain⟨i,hi⟩ : ∃ i:Nat,Lib.indexAny s mY=(i:Int):=⟨(Lib.indexAny s mY).toNat,by omega⟩
     rw[hi] at hQ hlt ⊢
     have hil:i≤s.length:=by omega
     rw[gZ hil,dR,bD hil,dR]
     rw[Int.toNat_natCast] at hQ
     exact hQ _ k1
   intro J hJ
   rw[mP]
   refine bg (fun h=>?_) (fun h=>?_)
   ·have h:=of_decide_eq_true h
    rw[if_pos h] at hJ
    rw[bC]; exact hJ _ _ ⟨rfl,rfl⟩
   ·have h:=of_decide_eq_false h
    rw[if_neg h] at hJ
    exact hJ _ _ ⟨rfl,rfl⟩
theorem uA (s:Str) : (eB s).1.length + (eB s).2.length=s.length:=by
 have:=congrArg List.length (List.takeWhile_append_dropWhile (p:=(cO.contains ·)) (l:=s))
 rw[List.length_append] at this; exact this
theorem O0 {x:UInt8} {s a b:Str} (h:brk x s=some (a,b)) : a.length + b.length + 1=s.length:=by
 rcases qp x s with⟨h1,_⟩ | ⟨a',b',h1,_,h3,_⟩
 ·rw[h1] at h; cases h
 ·rw[h1] at h; cases h
  have:=congrArg List.length h3; simp at this; omega
theorem AO (s:Str) : (sN s).1.length + (sN s).2.1.length≤s.length:=by
 unfold sN
 cases hh:aN 34 s with
 | true =>
   have:=aW hh
   rw[if_pos rfl]
   cases hb:brk 34 (s.drop 1) with
   | none=>simp
   | some x =>
     have:=O0 (a:=x.1) (b:=x.2) (by rw[hb])
     simp at this ⊢; omega
 | false =>
   rw[if_neg (by simp)]
   split
   ·simp
   ·simp; omega
theorem AU:∀ (k:Nat) (s:Str) (acc vs:List Str) (r:Str),1≤s.length→jb k s acc=some (vs,r)→eF vs + 3 * r.length≤eF acc + 3 * s.length
 | 0,_,_,_,_,_,h=>by cases h
 | k + 1,s,acc,vs,r,h1,h=>by
   rw[jb] at h
   have hl:=AO (s.drop 1)
   rw[List.length_drop] at hl
   generalize sN (s.drop 1)=x at *
   obtain⟨v,q,ok⟩:=x
   cases ok with
   | false=>cases h
   | true =>
     dsimp only at h hl
     split at h
     ·rename_i hh
      have:=AU k q _ vs r (aW hh) h
      rw[Dy] at this
      omega
     ·cases h
      rw[Dy]; omega
theorem xM:∀ (k:Nat) (s:Str) (acc vs:List Str) (r:Str),1≤s.length→jb k s acc=some (vs,r)→r.length + 1≤s.length
 | 0,_,_,_,_,_,h=>by cases h
 | k + 1,s,acc,vs,r,h1,h=>by
   rw[jb] at h
   have hl:=AO (s.drop 1)
   rw[List.length_drop] at hl
   generalize sN (s.drop 1)=x at *
   obtain⟨v,q,ok⟩:=x
   cases ok with
   | false=>cases h
   | true =>
     dsimp only at h hl
     split at h
     ·rename_i hh
      have:=xM k q _ vs r (aW hh) h
      omega
     ·cases h
      omega
theorem xL:∀ (n:Nat) (s:Str) (acc:List Str) (k:Nat),s.length≤n→1≤s.length→s.length≤k→jb k s acc=jb s.length s acc
 | 0,s,acc,k,h1,h2,h3=>by omega
 | n + 1,s,acc,k,h1,h2,h3=>by
   obtain⟨i,rfl⟩ : ∃ i,k=i + 1:=⟨k - 1,by omega⟩
   obtain⟨j,hj⟩ : ∃ j,s.length=j + 1:=⟨s.length - 1,by omega⟩
   rw[hj,jb,jb]
   have hl:=AO (s.drop 1)
   rw[List.length_drop] at hl
   generalize sN (s.drop 1)=x at *
   obtain⟨v,q,ok⟩:=x
   cases ok with
   | false=>rfl
   | true =>
     dsimp only at hl ⊢
     split
     ·rename_i hh
      have h4:=aW hh
      rw[xL n q _ i (by omega) h4 (by omega),xL n q _ j (by omega) h4 (by omega)]
     ·rfl
theorem FW:∀ (k:Nat) (s:Str) (acc ps:List gF) (r:Str),kZ k s acc=some (ps,r)→jo ps + 3 * r.length≤jo acc + 3 * s.length
 | 0,_,_,_,_,h=>by cases h
 | k + 1,s,acc,ps,r,h=>by
   rw[kZ] at h
   split at h
   ·rename_i h59
    have hp:=aW h59
    have hw:=uA (s.drop 1)
    rw[List.length_drop] at hw
    split at h
    ·rename_i h61
     have hq:=aW h61
     cases hv:jb (eB (s.drop 1)).2.length (eB (s.drop 1)).2 [] with
     | none=>rw[hv] at h; cases h
     | some x =>
       obtain⟨vs,q⟩:=x
       rw[hv] at h
       dsimp only at h
       have h1:=AU _ _ _ _ _ hq hv
       have h2:=FW k q _ ps r h
       rw[PN] at h2
       dsimp only at h2
       simp only[show eF []=0 from rfl] at h1
       omega
    ·cases h
   ·cases h; omega
theorem xO:∀ (n:Nat) (s:Str) (acc:List gF) (k:Nat),s.length≤n→s.length + 1≤k→kZ k s acc=kZ (s.length + 1) s acc
 | n,s,acc,k,h1,h3=>by
   obtain⟨i,rfl⟩ : ∃ i,k=i + 1:=⟨k - 1,by omega⟩
   rw[kZ,kZ]
   split
   ·rename_i h59
    have hp:=aW h59
    have hw:=uA (s.drop 1)
    rw[List.length_drop] at hw
    split
    ·rename_i h61
     have hq:=aW h61
     cases hv:jb (eB (s.drop 1)).2.length (eB (s.drop 1)).2 [] with
     | none=>rfl
     | some x =>
       obtain⟨vs,q⟩:=x
       have h1:=AU _ _ _ _ _ hq hv
       have h4:q.length<s.length:=by
        have:=xM _ _ _ _ _ hq hv
        omega
       dsimp only
       cases n with
       | zero=>omega
       | succ n=>rw[xO n q _ i (by omega) (by omega),xO n q _ s.length (by omega) (by omega)]
    ·rfl
   ·rfl
end Go.Ab.Vc
