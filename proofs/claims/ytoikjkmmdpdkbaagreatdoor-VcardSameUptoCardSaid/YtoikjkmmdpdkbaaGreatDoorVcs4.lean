/- Part 4 of the ground of the proofs of this seat (texts VlG2 to N4). By an AI agent. -/
import Derived.Test.YtoikjkmmdpdkbaaGreatDoorVcs3
import Derived.Lib.ValidLaws
import Derived.Lib.IndexAny
import Derived.Lib.SlTrimSet
import Derived.Lib.ItoaLen
import Derived.Lib.AtoiAll
import Derived.RangeFuncRecord
import Derived.RangeFuncSeq
import Derived.OrdersIn
import Derived.LoopNIn
set_option maxRecDepth 10000
set_option linter.unusedVariables false
set_option linter.unusedSimpArgs false
namespace Go.Ab.Vl
open Go Go.Ab
def aN (x:UInt8) : List UInt8→Bool
 | []=>false
 | c :: _=>c == x
def nC (c:ak) : Prop:=∀ {M:RM} {s:List UInt8} {x:UInt8} {Q:aj},s.length≤1000000000→Q (Bo (aN x s)) M→c [St s,St [x]] M Q
theorem Fq:nC fun args M Q=>∃ a0 a1,args=[a0,a1]∧dF a0 a1 M Q:=by
 intro M s x Q hl hQ
 refine⟨_,_,rfl, ?_⟩
 unfold dF
 simp only[dR]
 rw[bA,bA,fM]
 cases s with
 | nil =>
   rw[show decide ((([] : List UInt8).length:Int) ≥ (([x] : List UInt8).length:Int))=false from rfl]
   simp only[go_sem]
   exact hQ
 | cons c r =>
   rw[show decide (((c :: r).length:Int) ≥ (([x] : List UInt8).length:Int))=true by simp; omega]
   simp only[go_sem]
   rw[show aT (St (c :: r)) none (some (N .i64 ((1:Nat) : Int)))=some (St [c]) from gZ (h:=1) (by simp) .i64]
   simp only[go_sem]
   rw[show(([c] : List UInt8) == [x])=(c == x) by simp]
   exact hQ
theorem NW {ch:ak} (hh:nC ch) : nC fun args M Q=>∃ a0 a1,args=[a0,a1]∧lZ ch a0 a1 M Q:=by
 intro M s x Q hl hQ
 refine⟨_,_,rfl, ?_⟩
 unfold lZ
 exact hh hl hQ
def bZ (c:UInt8) : Bool:=(decide (32≤c.toNat) && decide (c.toNat≠127)) || decide (c.toNat=9)
def KL (c:ak) : Prop:=∀ {M:RM} {x:UInt8} {Q:aj},Q (Bo (bZ x)) M→c [By x] M Q
theorem QU:KL fun args M Q=>∃ a0,args=[a0]∧sI a0 M Q:=by
 intro M x Q hQ
 refine⟨_,rfl, ?_⟩
 unfold sI
 simp only[dR]
 unfold bZ at hQ
 by_cases h1:32≤x.toNat
 ·have e1:decide ((x.toNat:Int) ≥ 32)=true:=by simp; omega
  rw[fM,e1]
  by_cases h2:x.toNat=127
  ·have e2:((x.toNat:Int) != 127)=false:=by simp[h2]
   have e9:((x.toNat:Int) == 9)=false:=by simp; omega
   simp only[go_sem,e2,e9]
   simpa [h2] using hQ
  ·have e2:((x.toNat:Int) != 127)=true:=by simp; omega
   simp only[go_sem,e2]
   simpa [h1,h2] using hQ
 ·have e1:decide ((x.toNat:Int) ≥ 32)=false:=by simp; omega
  rw[fM,e1]
  by_cases h9:x.toNat=9
  ·have e9:((x.toNat:Int) == 9)=true:=by simp[h9]
   simp only[go_sem,e9]
   simpa [h1,h9] using hQ
  ·have e9:((x.toNat:Int) == 9)=false:=by simp; omega
   simp only[go_sem,e9]
   simpa [h1,h9] using hQ
def bW (c:UInt8) : UInt8:=if 65≤c.toNat∧c.toNat≤90 then UInt8.ofNat (c.toNat + 32) else c
def Ms (c:ak) : Prop:=∀ {M:RM} {s:List UInt8} {Q:aj},s.length≤1000000000→(∀ M',ae [] M M'→Q (St (s.map bW)) M')→c [St s] M Q
theorem O8 {s:List UInt8} {i:Nat} (hi:i<s.length) : ((s.take i).map bW).length=i:=by simp; omega
theorem Uw {s:List UInt8} {i:Nat} (hi:i<s.length) (x:UInt8) : ((s.take i).map bW++s.drop i).set i x=(s.take i).map bW++x :: s.drop (i + 1):=by
 have hl:=O8 hi
 rw[List.drop_eq_getElem_cons hi,List.set_append_right _ _ (by omega),hl,Nat.sub_self,List.set_cons_zero]
theorem MQ {s:List UInt8} {i:Nat} (hi:i<s.length) : (s.take (i + 1)).map bW++s.drop (i + 1)=(s.take i).map bW++bW s[i] :: s.drop (i + 1):=by
 rw[List.take_succ_eq_append_getElem hi,List.map_append,List.append_assoc]
 rfl
theorem WL {s:List UInt8} {i:Nat} (hi:i<s.length) (h:i<((s.take i).map bW++s.drop i).length) : ((s.take i).map bW++s.drop i)[i]=s[i]:=by
 have hl:=O8 hi
 rw[List.getElem_append_right (by omega)]
 simp only[hl,Nat.sub_self,List.getElem_drop,Nat.add_zero]
theorem Qe {T8:Nat} : Ms fun args M Q=>∃ a0,args=[a0]∧sK T8 a0 M Q:=by
 intro M s Q hl hQ
 refine⟨_,rfl, ?_⟩
 unfold sK
 simp only[dR,aG,rV,vO]
 have hk1:ae [] M (M.push (.row (BY.row s) true T8 0)):=(ae.refl _ _).push _
 have hr1:Rw BY (M.push (.row (BY.row s) true T8 0)) M.next true T8 s:=Rw.new M s
 generalize M.push (.row (BY.row s) true T8 0)=M1 at *
 refine aP (fun m ys M3=>∃ i:Nat,m=s.length - i∧ys=[N .i64 i]∧i≤s.length∧Rw BY M3 M.next true T8 ((s.take i).map bW++s.drop i)∧ae [] M M3) _
  ⟨0,rfl,rfl,Nat.zero_le _,by simpa using hr1,hk1⟩ ?_
 rintro next m ys M3 hnext ⟨i,rfl,rfl,hi,hR,hK⟩
 simp only[go_sem]
 refine⟨fun hlt=>?_,fun hge=>?_⟩
 ·have hlt:i<s.length:=by simpa using hlt
  have hlen:i<((s.take i).map bW++s.drop i).length:=by simp; omega
  have hc:=hR.ah hlen
  have w1:=kI (show i<9223372036854775807 by omega)
  rw[WL hlt hlen] at hc
  refine⟨by omega,_,hc, ?_⟩
  have same:bW s[i]=s[i]→next [N .i64 ((i + 1:Nat) : Int)] M3:=fun h=>by
   refine hnext _ _ _ (by omega) ⟨i + 1,rfl,rfl,by omega, ?_,hK⟩
   rw[MQ hlt,h,← List.drop_eq_getElem_cons hlt]
   exact hR
  have cb:=Ky s[i]
  simp only[w1]
  by_cases h1:65≤s[i].toNat
  ·have e1:((s[i].toNat:Int) ≥ 65):=by omega
   by_cases h2:s[i].toNat≤90
   ·have e2:((s[i].toNat:Int)≤90):=by omega
    have hlow:bW s[i]=UInt8.ofNat (s[i].toNat + 32):=by rw[bW,if_pos ⟨h1,h2⟩]
    have wv:N IntKind.u8 (IntKind.u8.wrap (IntKind.u8.wrap ((s[i].toNat:Int) + 97) - 65))=By (bW s[i]):=by
     rw[hlow,By,Sy,Nat.mod_eq_of_lt (by omega)]
     congr 1
     rw[show IntKind.u8.wrap ((s[i].toNat:Int) + 97)=(s[i].toNat:Int) + 97 from tZ (by omega) (by omega)]
     rw[tZ (by omega) (by omega)]; omega
    obtain⟨hs,hR'⟩:=hR.Rz hlen (bW s[i])
    simp only[e1,e2,decide_true,go_sem]
    rw[Uw hlt] at hs hR'
    refine⟨by omega,_,(congrArg (fun x=>M3.stores M.next i [x]) wv).trans hs, ?_⟩
    refine hnext _ _ _ (by omega) ⟨i + 1,rfl,rfl,by omega, ?_,hK.put _ (.inl (Nat.le_refl _))⟩
    rw[MQ hlt]
    exact hR'
   ·have e2:¬ ((s[i].toNat:Int)≤90):=by omega
    simp only[e1,e2,decide_true,decide_false,go_sem]
    exact same (by rw[bW,if_neg (by omega)])
  ·have e1:¬ ((s[i].toNat:Int) ≥ 65):=by omega
   simp only[e1,decide_false,go_sem]
   exact same (by rw[bW,if_neg (by omega)])
 ·have:i=s.length:=by simp at hge; omega
  subst this
  rw[List.take_length,List.drop_length,List.append_nil] at hR
  have:=hR.sl (cap:=.op 1)
  rw[List.length_map] at this
  rw[Sl.str this]
  exact hQ M3 hK
theorem NV (s:List UInt8) (h:s≠[]) : Lib.decodeL s=dec s:=by
 have hp:=List.length_pos_iff.2 h
 have g:∀ i,((⟨⟨s⟩⟩ : ByteArray).get! i).toNat=bt s i:=fun i=>by
  simp only[ByteArray.get!,bt,List.getD_eq_getElem?_getD]
  simp[getElem!_def]
  cases s[i]? <;> rfl
 first
  | (rw[Lib.decodeL]; rw[Lib.decode_at,g,g,g,g]; rfl)
  | (simp only[Lib.decodeL,dec,bt])
theorem Gr:∀ (n:Nat) (s:List UInt8),s.length≤n→Lib.validD s=eB s
 | n,s,hn=>by
   by_cases hne:s=[]
   ·subst hne; rw[Lib.validD_nil,qN]
   have hrk:rk s=if dec s=(65533,1) then 0 else(dec s).2:=by rw[rk,if_neg hne]; rfl
   rw[Lib.validD_step s hne,NV s hne]
   have h1:=uP s
   by_cases hb:(dec s).1=65533∧(dec s).2=1
   ·rw[if_pos hb,Oz hne (by rw[hrk,if_pos (Prod.ext hb.1 hb.2)])]
   ·rw[if_neg hb]
    have h0:rk s=(dec s).2:=by
     rw[hrk,if_neg]
     intro e; rw[e] at hb; exact hb ⟨rfl,rfl⟩
    rw[qL (by omega),h0]
    cases n with
    | zero=>exact absurd (List.eq_nil_of_length_eq_zero (by omega)) hne
    | succ n =>
      refine Gr n _ ?_
      have:=uj hne h1
      omega
def NC (B:Base) (c:ak) : Prop:=∀ {M:RM} {s:List UInt8} {Q:aj},M.base=B→s.length≤1000000000→Q (Bo (eB s)) M→c [St s] M Q
def okB (x:List UInt8) (c:UInt8) : Bool:=bZ c && !(decide (c∈x))
def fP (x s:List UInt8) : Bool:=s.all (okB x) && eB s
def nG (B:Base) (c:ak) : Prop:=∀ {M:RM} {s x:List UInt8} {Q:aj},M.base=B→s.length≤1000000000→(∀ M',ae [] M M'→Q (Bo (fP x s)) M')→c [St s,St x] M Q
theorem Hu {B:Base} {T8:Nat} {cp ci cv:ak} (hp:KL cp) (hi:qp ci) (hv:NC B cv) : nG B fun args M Q=>∃ a0 a1,args=[a0,a1]∧nO T8 cp ci cv a0 a1 M Q:=by
 intro M s x Q hM hl hQ
 refine⟨_,_,rfl, ?_⟩
 unfold nO
 simp only[dR,aG,rV,vO]
 have hk1:ae [] M (M.push (.row (BY.row s) true T8 0)):=(ae.refl _ _).push _
 have hr1:Rw BY (M.push (.row (BY.row s) true T8 0)) M.next true T8 s:=Rw.new M s
 generalize M.push (.row (BY.row s) true T8 0)=M1 at *
 refine aP (fun m ys M3=>M3=M1∧∃ i:Nat,m=s.length - i∧ys=[N .i64 i]∧i≤s.length∧(s.take i).all (okB x)=true) _
  ⟨rfl,0,rfl,rfl,Nat.zero_le _,by simp⟩ ?_
 rintro next m ys M3 hnext ⟨hM3,i,rfl,rfl,hile,hall⟩
 subst hM3
 simp only[go_sem]
 refine⟨fun hlt=>?_,fun hge=>?_⟩
 ·have hlt:i<s.length:=by simpa using hlt
  have hc:=hr1.ah hlt
  have htk:=List.take_succ_eq_append_getElem hlt
  have hmem:=List.getElem_mem hlt
  generalize s[i]=c at *
  have w1:=kI (show i<9223372036854775807 by omega)
  have bad:okB x c=false→Q (Bo false) M3:=fun h=>by
   have:fP x s=false:=by
    have h2:s.all (okB x)=false:=by
     rw[List.all_eq_false]
     exact⟨c,hmem,by rw[h]; simp⟩
    rw[fP,h2]; rfl
   rw[← this]; exact hQ M3 hk1
  have good:okB x c=true→next [N .i64 ((i + 1:Nat) : Int)] M3:=fun h=>by
   refine hnext _ _ _ (by omega) ⟨rfl,i + 1,rfl,rfl,by omega, ?_⟩
   rw[htk,List.all_append,hall]
   simp[h]
  refine⟨by omega,By c,hc,hp ?_⟩
  cases hpl:bZ c with
  | false =>
    simp only[go_sem]
    exact bad (by simp[okB,hpl])
  | true =>
    simp only[go_sem]
    refine hi ?_
    have hge:=qO x c
    by_cases hcx:c∈x
    ·have e1:decide (Lib.indexByte x c ≥ 0)=true:=decide_eq_true (hge.2 hcx)
     simp only[go_sem,e1]
     exact bad (by simp[okB,hcx])
    ·have e1:decide (Lib.indexByte x c ≥ 0)=false:=decide_eq_false fun h=>hcx (hge.1 h)
     simp only[go_sem,e1,w1]
     exact good (by simp[okB,hcx,hpl])
 ·have:i=s.length:=by simp at hge; omega
  subst this
  rw[List.take_length] at hall
  refine hv (by rw[hk1.base,hM]) hl ?_
  have:=hQ M3 hk1
  rw[fP,hall,Bool.true_and] at this
  exact this
def CZ (x:UInt8) (s:List UInt8) : AV:=if aN x s then .tup [St (s.drop 1),Bo true] else .tup [St s,Bo false]
def jR (c:ak) : Prop:=∀ {M:RM} {s:List UInt8} {x:UInt8} {Q:aj},s.length≤1000000000→Q (CZ x s) M→c [St s,St [x]] M Q
theorem Bn {ch:ak} (hh:nC ch) : jR fun args M Q=>∃ a0 a1,args=[a0,a1]∧dE ch a0 a1 M Q:=by
 intro M s x Q hl hQ
 refine⟨_,_,rfl, ?_⟩
 unfold dE
 refine hh hl ?_
 unfold CZ at hQ
 cases h:aN x s with
 | false =>
   simp only[h,Bool.false_eq_true,if_false] at hQ
   simp only[go_sem]
   exact hQ
 | true =>
   simp only[h,if_true] at hQ
   have hne:s≠[]:=by intro e; subst e; cases h
   have hp:=List.length_pos_iff.2 hne
   simp only[go_sem]
   rw[show aT (St s) (some (N .i64 ((1:Nat) : Int))) none=some (St (s.drop 1)) from bF (by omega) .i64]
   simp only[go_sem]
   exact hQ
theorem Im {ch:ak} (hh:jR ch) : jR fun args M Q=>∃ a0 a1,args=[a0,a1]∧iE ch a0 a1 M Q:=by
 intro M s x Q hl hQ
 refine⟨_,_,rfl, ?_⟩
 unfold iE
 refine hh hl ?_
 unfold CZ at hQ ⊢
 cases h:aN x s with
 | false=>rw[h] at hQ; simpa only[go_sem,Bool.false_eq_true,if_false] using hQ
 | true=>rw[h] at hQ; simpa only[go_sem,if_true] using hQ
def dx:List UInt8:=[97,98,99,100,101,102,103,104,105,106,107,108,109,110,111,112,113,114,115,116,117,118,119,120,121,122,48,49,50,51,52,53,54,55,56,57,45]
def Ls (B:Base) (c:ak) : Prop:=∀ {M:RM} {s:List UInt8} {Q:aj},M.base=B→s.length≤1000000000→(∀ M',ae [] M M'→Q (St (s.dropWhile (dx.contains ·))) M')→c [St s,St dx] M Q
theorem rX {α:Type} (p:α→Bool) : ∀ l:List α,(l.dropWhile p).length≤l.length
 | []=>by simp
 | x :: l=>by
   rw[List.dropWhile_cons]
   have:=rX p l
   split
   ·simp; omega
   ·exact Nat.le_refl _
def wk (s:List UInt8) : Nat:=s.length - ((s.map bW).dropWhile (dx.contains ·)).length
theorem wM (s:List UInt8) : wk s≤s.length:=Nat.sub_le _ _
def PT (s:List UInt8) : AV:=.tup [St ((s.take (wk s)).map bW),St (s.drop (wk s))]
def Kt (B:Base) (c:ak) : Prop:=∀ {M:RM} {s:List UInt8} {Q:aj},M.base=B→s.length≤1000000000→(∀ M',ae [] M M'→Q (PT s) M')→c [St s] M Q
theorem Rx {B:Base} {cs ct:ak} (hs:Ms cs) (ht:Ls B ct) : Kt B fun args M Q=>∃ a0,args=[a0]∧uz cs ct a0 M Q:=by
 intro M s Q hM hl hQ
 refine⟨_,rfl, ?_⟩
 unfold uz
 rw[bA]
 refine hs hl fun M1 k1=>?_
 refine ht (by rw[k1.base,hM]) (by simpa using hl) fun M2 k2=>?_
 have hd:=rX (dx.contains ·) (s.map bW)
 rw[List.length_map] at hd
 rw[bA,mY]
 rw[show IntKind.wrap .i64 ((s.length:Int) - (((s.map bW).dropWhile (dx.contains ·)).length:Int))=((wk s:Nat) : Int) by rw[A8 (by omega) (by omega)]; unfold wk; omega]
 rw[gZ (wM s),bF (wM s)]
 simp only[go_sem]
 have:=wM s
 refine hs (by simp; omega) fun M3 k3=>?_
 exact hQ M3 ((k1.trans k2).trans k3)
def Ng (B:Base) (f:List UInt8→List UInt8) (c:ak) : Prop:=∀ {M:RM} {s:List UInt8} {Q:aj},M.base=B→s.length≤1000000000→(∀ M',ae [] M M'→Q (St (f s)) M')→c [St s,St dx] M Q
def gT (f:List UInt8→List UInt8) (s:List UInt8) : Bool:=decide (1≤s.length) && decide (s.length≤20) && (f s == [])
def rT (B:Base) (f:List UInt8→List UInt8) (c:ak) : Prop:=∀ {M:RM} {s:List UInt8} {Q:aj},M.base=B→s.length≤1000000000→(∀ M',ae [] M M'→Q (Bo (gT f s)) M')→c [St s] M Q
theorem JU {B:Base} {f:List UInt8→List UInt8} {ct:ak} (ht:Ng B f ct) : rT B f fun args M Q=>∃ a0,args=[a0]∧oz ct a0 M Q:=by
 intro M s Q hM hl hQ
 refine⟨_,rfl, ?_⟩
 unfold oz
 simp only[dR]
 rw[bA,fM]
 unfold gT at hQ
 by_cases h1:1≤s.length
 ·have e1:decide ((s.length:Int) ≥ 1)=true:=by simp; omega
  rw[e1]
  by_cases h2:s.length≤20
  ·have e2:decide ((s.length:Int)≤20)=true:=by simp; omega
   simp only[go_sem,e2]
   refine ht hM hl fun M1 k1=>?_
   simp only[go_sem]
   have:=hQ M1 k1
   simpa [h1,h2] using this
  ·have e2:decide ((s.length:Int)≤20)=false:=by simp; omega
   simp only[go_sem,e2]
   simpa [h1,h2] using hQ M (ae.refl _ _)
 ·have e1:decide ((s.length:Int) ≥ 1)=false:=by simp; omega
  rw[e1]
  simp only[go_sem]
  simpa [h1] using hQ M (ae.refl _ _)
def brk (x:UInt8) : List UInt8→Option (List UInt8 × List UInt8)
 | []=>none
 | c :: t=>if c=x then some ([],t) else(brk x t).map fun p=>(c :: p.1,p.2)
theorem qA (x:UInt8) : ∀ s:List UInt8,(brk x s=none∧Lib.indexByte s x=-1∧x ∉ s)∨∃ a b,brk x s=some (a,b)∧Lib.indexByte s x=(a.length:Int)∧s=a++x :: b∧x ∉ a
 | []=>.inl ⟨rfl,rfl,by simp⟩
 | c :: t=>by
   by_cases h:c=x
   ·subst h
    exact .inr ⟨[],t,by simp[brk],by simp[Lib.indexByte],rfl,by simp⟩
   ·have hc:(c == x)=false:=by simpa using h
    rcases qA x t with⟨h1,h2,h4⟩ | ⟨a,b,h1,h2,h3,h4⟩
    ·exact .inl ⟨by simp[brk,h,h1],by simp[Lib.indexByte,hc,h2],by simp[h4,Ne.symm h]⟩
    ·refine .inr ⟨c :: a,b,by simp[brk,h,h1], ?_,by rw[h3]; rfl,by simp[h4,Ne.symm h]⟩
     have:((a.length:Int) == -1)=false:=by simp
     simp[Lib.indexByte,hc,h2,this]
def Hl (x:UInt8) (c:ak) : Prop:=∀ {M:RM} {s:List UInt8} {Q:aj},Q (N .i64 (Lib.indexByte s x)) M→c [St s,St [x]] M Q
def Gu (x:UInt8) (s:List UInt8) : AV:=match brk x s with
 | some (a,b)=>.tup [St a,St b,Bo true]
 | none=>.tup [St s,St [],Bo false]
def Ar (x:UInt8) (c:ak) : Prop:=∀ {M:RM} {s:List UInt8} {Q:aj},s.length≤1000000000→Q (Gu x s) M→c [St s,St [x]] M Q
theorem HV {x:UInt8} {ci:ak} (hi:Hl x ci) : Ar x fun args M Q=>∃ a0 a1,args=[a0,a1]∧eQ ci a0 a1 M Q:=by
 intro M s Q hl hQ
 refine⟨_,_,rfl, ?_⟩
 unfold eQ
 refine hi ?_
 unfold Gu at hQ
 rcases qA x s with⟨h1,h2,_⟩ | ⟨a,b,h1,h2,h3,_⟩
 ·rw[h1] at hQ
  simp only[go_sem,h2]
  exact⟨fun h=>absurd h (by decide),fun _=>hQ⟩
 ·rw[h1] at hQ
  have hsl:=congrArg List.length h3
  simp at hsl
  rw[h2,fM,show decide ((a.length:Int) ≥ 0)=true by simp]
  refine⟨fun _=>?_,fun h=>by cases h⟩
  rw[gZ (by omega)]
  simp only[go_sem]
  rw[show IntKind.wrap .i64 ((a.length:Int) + ((1:Nat) : Int))=((a.length + 1:Nat) : Int) by rw[A8 (by omega) (by omega)]; omega]
  rw[bF (by omega)]
  simp only[go_sem]
  rw[h3]
  rw[show(a++x :: b).take a.length=a by simp,show(a++x :: b).drop (a.length + 1)=b by rw[← List.drop_drop]; simp]
  exact hQ
theorem Sd {x:UInt8} {ci:ak} (hi:Ar x ci) : Ar x fun args M Q=>∃ a0 a1,args=[a0,a1]∧lX ci a0 a1 M Q:=by
 intro M s Q hl hQ
 refine⟨_,_,rfl, ?_⟩
 unfold lX
 refine hi hl ?_
 unfold Gu at hQ ⊢
 cases h:brk x s with
 | none=>rw[h] at hQ; simpa only[go_sem] using hQ
 | some p=>rw[h] at hQ; simpa only[go_sem] using hQ
theorem get_bt (s:List UInt8) (i:Nat) : ((⟨⟨s⟩⟩ : ByteArray).get! i).toNat=bt s i:=by
 unfold bt
 show((⟨s⟩ : Array UInt8)[i]!).toNat=_
 simp only[getElem!_def]
 rw[List.getElem?_toArray]
 cases h:s[i]? with
 | none=>simp only[List.getD_eq_getElem?_getD,h]; rfl
 | some x=>simp[List.getD_eq_getElem?_getD,h]
theorem vM {s:List UInt8} {i:Nat} (hi:i<s.length) :
  (bt s i<128∧Utf8.decode ⟨⟨s⟩⟩ i=(bt s i,1))∨(128≤bt s i∧128≤(Utf8.decode ⟨⟨s⟩⟩ i).1∧(Utf8.decode ⟨⟨s⟩⟩ i).1<2147483648∧1≤(Utf8.decode ⟨⟨s⟩⟩ i).2∧i + (Utf8.decode ⟨⟨s⟩⟩ i).2≤s.length∧∀ k,i≤k→k<i + (Utf8.decode ⟨⟨s⟩⟩ i).2→128≤bt s k):=by
 have hs:(⟨⟨s⟩⟩ : ByteArray).size=s.length:=rfl
 unfold Utf8.decode
 simp only[get_bt,hs,Nat.add_zero,Utf8.runeError]
 by_cases h0:bt s i<128
 ·exact .inl ⟨h0,by rw[if_pos h0]⟩
 right
 have h8:bt s i<256:=by unfold bt; exact(s.getD i 0).toNat_lt
 refine⟨by omega, ?_⟩
 rw[if_neg h0]
 have one:∀ k,i≤k→k<i + 1→128≤bt s k:=fun k h1 h2=>by
  have:k=i:=by omega
  subst this; omega
 split
 ·rename_i h2
  simp only[Bool.and_eq_true,beq_iff_eq,decide_eq_true_eq] at h2
  split
  ·refine⟨by simpa using ‹_›,by simp; omega,by simp,by simp; omega,fun k h3 h4=>?_⟩
   simp at h4
   rcases Nat.lt_or_ge k (i + 1) with h5 | h5
   ·exact one k h3 h5
   ·have:k=i + 1:=by omega
    subst this; omega
  ·exact⟨by simp,by simp,by simp,by simp; omega,fun k h3 h4=>one k h3 (by simpa using h4)⟩
 ·split
  ·rename_i h3
   simp only[Bool.and_eq_true,beq_iff_eq,decide_eq_true_eq] at h3
   split
   ·rename_i h4
    simp only[Bool.and_eq_true,decide_eq_true_eq,ge_iff_le] at h4
    refine⟨by simp; omega,by simp; omega,by simp,by simp; omega,fun k h5 h6=>?_⟩
    simp at h6
    rcases Nat.lt_or_ge k (i + 1) with h7 | h7
    ·exact one k h5 h7
    ·rcases Nat.lt_or_ge k (i + 2) with h7 | h7
     ·have:k=i + 1:=by omega
      subst this; omega
     ·have:k=i + 2:=by omega
      subst this; omega
   ·exact⟨by simp,by simp,by simp,by simp; omega,fun k h3 h4=>one k h3 (by simpa using h4)⟩
  ·split
   ·rename_i h3
    simp only[Bool.and_eq_true,beq_iff_eq,decide_eq_true_eq] at h3
    split
    ·rename_i h4
     simp only[Bool.and_eq_true,decide_eq_true_eq,ge_iff_le] at h4
     refine⟨by simp; omega,by simp; omega,by simp,by simp; omega,fun k h5 h6=>?_⟩
     simp at h6
     rcases Nat.lt_or_ge k (i + 1) with h7 | h7
     ·exact one k h5 h7
     ·rcases Nat.lt_or_ge k (i + 2) with h7 | h7
      ·have:k=i + 1:=by omega
       subst this; omega
      ·rcases Nat.lt_or_ge k (i + 3) with h7 | h7
       ·have:k=i + 2:=by omega
        subst this; omega
       ·have:k=i + 3:=by omega
        subst this; omega
    ·exact⟨by simp,by simp,by simp,by simp; omega,fun k h3 h4=>one k h3 (by simpa using h4)⟩
   ·exact⟨by simp,by simp,by simp,by simp; omega,fun k h3 h4=>one k h3 (by simpa using h4)⟩
theorem NG {r:Nat} (h:128≤r) : ∃ a x,(Utf8.encode (r:Int)).data.toList=a++[x]∧128≤x.toNat∧1≤a.length∧a.length≤3:=by
 have key:∀ c:Nat,128≤c→∃ a x,(if c<0x80 then(⟨#[UInt8.ofNat c]⟩ : ByteArray) else if c<0x800 then⟨#[UInt8.ofNat (0xC0 + c / 64),UInt8.ofNat (0x80 + c % 64)]⟩
   else if c<0x10000 then⟨#[UInt8.ofNat (0xE0 + c / 4096),UInt8.ofNat (0x80 + c / 64 % 64),UInt8.ofNat (0x80 + c % 64)]⟩
   else⟨#[UInt8.ofNat (0xF0 + c / 262144),UInt8.ofNat (0x80 + c / 4096 % 64),UInt8.ofNat (0x80 + c / 64 % 64),UInt8.ofNat (0x80 + c % 64)]⟩).data.toList=a++[x]∧128≤x.toNat∧1≤a.length∧a.length≤3:=by
  intro c hc
  rw[if_neg (by omega)]
  have hx:128≤(UInt8.ofNat (0x80 + c % 64)).toNat:=by simp; omega
  split
  ·exact⟨[_],_,rfl,hx,by simp,by simp⟩
  ·split
   ·exact⟨[_,_],_,rfl,hx,by simp,by simp⟩
   ·exact⟨[_,_,_],_,rfl,hx,by simp,by simp⟩
 have h2:128≤(if Utf8.valid (r:Int)=true then(r:Int).toNat else Utf8.runeError):=by
  split
  ·simpa using h
  ·decide
 simp only[Utf8.encode]
 generalize (if Utf8.valid (r:Int)=true then(r:Int).toNat else Utf8.runeError)=c at h2 ⊢
 exact key c h2
theorem J8 {s:List UInt8} {x:UInt8} (h:x ∉ s) : Lib.indexByte s x=-1:=by
 rcases qA x s with⟨_,h2,_⟩ | ⟨a,b,_,_,h3,_⟩
 ·exact h2
 ·exact absurd (by rw[h3]; simp) h
def Asc (cs:List UInt8) : Prop:=∀ x∈cs,x.toNat<128
theorem Asc.bt {cs:List UInt8} (h:Asc cs) {i:Nat} (hi:i<cs.length) : bt cs i<128:=by
 rw[← Km hi]; exact h _ (List.getElem_mem hi)
def Aa (c:ak) : Prop:=∀ {M:RM} {r:Nat} {Q:aj},(∀ b,Q (Bo b) M)→c [N .i32 (r:Int)] M Q
theorem Hd:Aa fun args M Q=>∃ a0,args=[a0]∧jA a0 M Q:=by
 intro M r Q hQ
 refine⟨_,rfl, ?_⟩
 unfold jA
 simp only[dR,oI]
 simp only[go_sem,decide_true]
 refine⟨fun _=>hQ _,fun _=>?_⟩
 cases decide ((57343:Int)<(r:Int)) with
 | true=>simp only[go_sem]; exact⟨fun _=>hQ _,fun _=>hQ _⟩
 | false=>simp only[go_sem]; exact hQ _
def DR (cs:List UInt8) (r:Nat) : Int:=if r<128 then Lib.indexByte cs (UInt8.ofNat r) else -1
def Af (cs:List UInt8) (c:ak) : Prop:=∀ {M:RM} {r:Nat} {Q:aj},r<2147483648→(∀ M',ae [] M M'→Q (N .i64 (DR cs r)) M')→c [St cs,N .i32 (r:Int)] M Q
def ni (cs:List UInt8) (B:Base) (c:ak) : Prop:=∀ {M:RM} {s:List UInt8} {Q:aj},M.base=B→s.length≤1000000000→(∀ M',ae [] M M'→Q (N .i64 (Lib.indexAny s cs)) M')→c [St s,St cs] M Q
theorem IQ {cs:List UInt8} {T:Nat} {cr cu cm ct:ak} {M:RM} {s:List UInt8} {Q:aj} (hcs:Asc cs) (h2:2≤cs.length) (hl:cs.length≤1000) (hs:s.length≤8) (hr:Af cs cr)
  (hu:∀ {M:RM} {n:Nat} {Q:aj},Q (Bo (decide (8<n))) M→cu [N .i64 (n:Int)] M Q) (hQ:∀ M',ae [] M M'→Q (N .i64 (Lib.indexAny s cs)) M') : mQ cr cu cm T ct (St s) (St cs) M Q:=by
 unfold mQ
 have e0:(cs == ([] : List UInt8))=false:=by
  cases cs with
  | nil=>simp at h2
  | cons=>rfl
 have e1:((cs.length:Int) == 1)=false:=by simp; omega
 simp only[dK,go_sem,e0,e1]
 refine Aw ?_
 refine hu ?_
 rw[show decide (8<s.length)=false by simp; omega]
 simp only[go_sem]
 refine⟨s,rfl, ?_⟩
 simp only[go_sem]
 refine aP (fun m ys M3=>∃ pos:Nat,m=s.length - pos∧ys=[]∧M3.heap M.next=some (.gP s pos)∧ae [] M M3∧M.next<M3.next∧pos≤s.length∧Lib.NoAny s cs pos) _
  ⟨0,rfl,rfl,RM.aS _,(ae.refl _ _).push _,by simp[RM.push],Nat.zero_le _,Lib.NoAny.zero _ _⟩ ?_
 rintro next m ys M3 hnext ⟨pos,rfl,rfl,hh,hk,hlt,hple,hno⟩
 refine⟨_,_,_,rfl,hh, ?_⟩
 have Un:∀ y,ae [] M (M3.put M.next y):=fun y=>hk.put y (.inl (Nat.le_refl _))
 split
 ·rename_i hp
  rcases vM hp with⟨d1,d2⟩ | ⟨d1,d2,d3,d4,d5,d6⟩
  ·rw[d2]
   simp only[go_sem]
   refine hr (by omega) fun M4 k4=>?_
   rw[DR,if_pos d1]
   have hx:UInt8.ofNat (bt s pos)=s[pos]:=by rw[← Km hp]; simp
   rw[hx]
   have hc:=Lib.contains_iff_indexByte cs s[pos]
   simp only[go_sem]
   refine⟨fun h=>?_,fun h=>?_⟩
   ·have h:(0:Int)≤Lib.indexByte cs s[pos]:=by simpa using h
    rw[decide_eq_true h] at hc
    have:=hQ M4 ((Un _).trans k4)
    rw[Lib.indexAny_hit hno (List.getElem?_eq_getElem hp) hc] at this
    exact this
   ·have h:¬ (0:Int)≤Lib.indexByte cs s[pos]:=by simpa using h
    rw[decide_eq_false h] at hc
    refine hnext _ _ _ (by omega) ⟨pos + 1,rfl,rfl,k4.ax (RM.kN _ _) (by simpa [RM.nZ] using hlt) (by simp),(Un _).trans k4, ?_,by omega,hno.succ (List.getElem?_eq_getElem hp) hc⟩
    have:=k4.next
    simp[RM.nZ] at this; omega
  ·generalize Utf8.decode ⟨⟨s⟩⟩ pos=d at *
   obtain⟨r,n⟩:=d
   simp only at d2 d3 d4 d5 d6
   simp only[go_sem]
   refine hr d3 fun M4 k4=>?_
   rw[DR,if_neg (by omega)]
   simp only[go_sem,show decide ((-1:Int) ≥ 0)=false from rfl]
   refine hnext _ _ _ (by omega) ⟨pos + n,rfl,rfl,k4.ax (RM.kN _ _) (by simpa [RM.nZ] using hlt) (by simp),(Un _).trans k4, ?_,by omega,fun j b hj hb=>?_⟩
   ·have:=k4.next
    simp[RM.nZ] at this; omega
   ·rcases Nat.lt_or_ge j pos with h | h
    ·exact hno j b h hb
    ·have hjl:j<s.length:=(List.getElem?_eq_some_iff.1 hb).1
     have h7:=d6 j h hj
     rw[← Km hjl] at h7
     have h8:s[j]=b:=(List.getElem?_eq_some_iff.1 hb).2
     rw[h8] at h7
     cases hcb:cs.contains b with
     | false=>rfl
     | true =>
       have:=hcs b (by simpa using hcb)
       omega
 ·simp only[go_sem]
  have:pos=s.length:=by omega
  subst this
  rw[Lib.indexAny_none hno] at hQ
  exact hQ M3 hk
def iR:List UInt8:=[44,59,58]
def iN (s:List UInt8) : List UInt8 × List UInt8 × Bool :=
 if aN 34 s then match brk 34 (s.drop 1) with
  | some (a,b)=>(a,b,fP [] a)
  | none=>(s.drop 1,[],false)
 else if Lib.indexAny s iR<0 then([],[],false)
 else(s.take (Lib.indexAny s iR).toNat,s.drop (Lib.indexAny s iR).toNat,fP [34] (s.take (Lib.indexAny s iR).toNat))
theorem xY:∀ (s cs:List UInt8),Lib.indexAny s cs<(s.length:Int)∨Lib.indexAny s cs=-1
 | [],cs=>.inr rfl
 | b :: s,cs=>by
   have:=xY s cs
   rw[Lib.indexAny]
   split
   ·left; simp only[List.length_cons]; omega
   ·split
    ·right; rfl
    ·rename_i h1 h2
     left
     rcases this with h | h
     ·simp only[List.length_cons]; omega
     ·rw[h] at h2; simp at h2
theorem uO (s:List UInt8) : (iN s).1.length≤s.length∧(iN s).2.1.length≤s.length:=by
 unfold iN
 split
 ·rcases qA 34 (s.drop 1) with⟨h1,_⟩ | ⟨a,b,h1,_,h3,_⟩
  ·rw[h1]; simp
  ·rw[h1]
   have:=congrArg List.length h3
   simp at this ⊢; omega
 ·split
  ·simp
  ·simp; omega
def MZ (B:Base) (c:ak) : Prop:=∀ {M:RM} {s:List UInt8} {Q:aj},M.base=B→s.length≤1000000→(∀ M',ae [] M M'→Q (.tup [St (iN s).1,St (iN s).2.1,Bo (iN s).2.2]) M')→c [St s] M Q
theorem PG {B:Base} {cp cc cg ci:ak} (hp:jR cp) (hc:Ar 34 cc) (hg:nG B cg) (hi:ni iR B ci) : MZ B fun args M Q=>∃ a0,args=[a0]∧sD cp cc cg ci a0 M Q:=by
 intro M s Q hM hl hQ
 refine⟨_,rfl, ?_⟩
 unfold sD
 refine hp (by omega) ?_
 unfold CZ
 unfold iN at hQ
 cases hh:aN 34 s with
 | true =>
   simp only[hh,if_true] at hQ
   simp only[go_sem,dR]
   refine hc (by simp; omega) ?_
   unfold Gu
   cases hb:brk 34 (s.drop 1) with
   | none =>
     simp only[hb] at hQ
     simp only[go_sem]
     exact hQ M (ae.refl _ _)
   | some p =>
     obtain⟨a,b⟩:=p
     simp only[hb] at hQ
     have:=uO s
     unfold iN at this
     simp only[hh,if_true,hb] at this
     simp only[go_sem]
     refine hg hM (by omega) fun M1 k1=>?_
     exact hQ M1 k1
 | false =>
   simp only[hh,Bool.false_eq_true,if_false] at hQ
   simp only[go_sem,Bool.false_eq_true,if_false]
   refine hi hM (by omega) fun M1 k1=>?_
   have hlt:=xY s iR
   generalize Lib.indexAny s iR=n at *
   simp only[go_sem]
   refine⟨fun h=>?_,fun h=>?_⟩
   ·have h:n<0:=by simpa using h
    simp only[h,if_true] at hQ
    exact hQ M1 k1
   ·have h:¬ n<0:=by simpa using h
    simp only[h,if_false] at hQ
    obtain⟨k,rfl⟩ : ∃ k:Nat,n=(k:Int):=⟨n.toNat,by omega⟩
    simp only[Int.toNat_natCast] at hQ
    have hk:k≤s.length:=by omega
    rw[gZ hk,bF hk]
    simp only[go_sem]
    refine hg (by rw[k1.base,hM]) (by simp; omega) fun M2 k2=>?_
    exact hQ M2 (k1.trans k2)
abbrev gV:=List UInt8 × List (List UInt8)
def jd:jL gV:=jL.pre jm jm.jQ.slice
theorem Lv {M:RM} {n:List UInt8} {v:AV} {vs:List (List UInt8)} {S:Nat→Prop} (h:bE jm.jQ M v vs S) : jd.rel M [St n,v] (n,vs) S:=⟨[v],rfl,v,rfl,h⟩
def gJ:Nat→List UInt8→List (List UInt8)→Option (List (List UInt8) × List UInt8)
 | 0,_,_=>none
 | k + 1,s,acc=>match iN (s.drop 1) with
   | (v,after,ok)=>if ok then(if aN 44 after then gJ k after (acc++[v]) else some (acc++[v],after)) else none
def kS (f:List UInt8→List UInt8) : Nat→List UInt8→List gV→Option (List gV × List UInt8)
 | 0,_,_=>none
 | k + 1,s,acc=>if aN 59 s then
     (if gT f (((s.drop 1).take (wk (s.drop 1))).map bW) && aN 61 ((s.drop 1).drop (wk (s.drop 1))) then
      match gJ ((s.drop 1).drop (wk (s.drop 1))).length ((s.drop 1).drop (wk (s.drop 1))) [] with
      | some (vs,s3)=>kS f k s3 (acc++[(((s.drop 1).take (wk (s.drop 1))).map bW,vs)])
      | none=>none
     else none)
   else some (acc,s)
theorem aZ {x:UInt8} {s:List UInt8} (h:aN x s=true) : 1≤s.length:=by
 cases s with
 | nil=>cases h
 | cons=>simp
theorem rW:∀ (k:Nat) (s:List UInt8) (acc vs:List (List UInt8)) (r:List UInt8),1≤s.length→gJ k s acc=some (vs,r)→r.length + vs.length≤s.length + acc.length
 | 0,_,_,_,_,_,h=>by cases h
 | k + 1,s,acc,vs,r,h1,h=>by
   rw[gJ] at h
   have hl:=uO (s.drop 1)
   generalize iN (s.drop 1)=x at *
   obtain⟨v,after,ok⟩:=x
   simp only[List.length_drop] at hl h
   split at h
   ·split at h
    ·rename_i hh
     have:=rW k after _ vs r (aZ hh) h
     simp at this; omega
    ·cases h; simp; omega
   ·cases h
theorem Am:∀ (n:Nat) (s:List UInt8) (acc:List (List UInt8)) (k:Nat),s.length≤n→1≤s.length→s.length≤k→gJ k s acc=gJ s.length s acc
 | 0,s,acc,k,h1,h2,h3=>by omega
 | n + 1,s,acc,k,h1,h2,h3=>by
   obtain⟨j,hj⟩ : ∃ j,s.length=j + 1:=⟨s.length - 1,by omega⟩
   obtain⟨i,rfl⟩ : ∃ i,k=i + 1:=⟨k - 1,by omega⟩
   rw[hj,gJ,gJ]
   have hl:=uO (s.drop 1)
   generalize iN (s.drop 1)=x at *
   obtain⟨v,after,ok⟩:=x
   simp only[List.length_drop] at hl ⊢
   split
   ·split
    ·rename_i hh
     have h4:=aZ hh
     rw[Am n after _ i (by omega) h4 (by omega),Am n after _ j (by omega) h4 (by omega)]
    ·rfl
   ·rfl
theorem CU (f:List UInt8→List UInt8) : ∀ (n:Nat) (s:List UInt8) (acc:List gV) (k:Nat),s.length≤n→s.length + 1≤k→kS f k s acc=kS f (s.length + 1) s acc
 | n,s,acc,k,h1,h3=>by
   obtain⟨i,rfl⟩ : ∃ i,k=i + 1:=⟨k - 1,by omega⟩
   rw[kS,kS]
   split
   ·rename_i h59
    have hpos:=aZ h59
    split
    ·rename_i hc
     simp only[Bool.and_eq_true] at hc
     have h61:=aZ hc.2
     cases hv:gJ ((s.drop 1).drop (wk (s.drop 1))).length ((s.drop 1).drop (wk (s.drop 1))) [] with
     | none=>rfl
     | some p =>
       obtain⟨vs,s3⟩:=p
       have:=rW _ _ _ _ _ h61 hv
       simp at this
       simp only
       cases n with
       | zero=>omega
       | succ n =>
         rw[CU f n s3 _ i (by omega) (by omega),CU f n s3 _ s.length (by omega) (by omega)]
    ·rfl
   ·rfl
def om (f:List UInt8→List UInt8) (s:List UInt8) : Option (List gV × List UInt8):=kS f (s.length + 1) s []
def Iz (B:Base) (f:List UInt8→List UInt8) (TP:Nat) (c:ak) : Prop:=∀ {M:RM} {s:List UInt8} {Q:aj},M.base=B→s.length≤100000 →
 (∀ M',ae [] M M'→om f s=none→Q (.tup [aF,St [],Bo false]) M') →
 (∀ v M' ps r,ae [] M M'→om f s=some (ps,r)→bE jd M' v ps (fun b=>M.next≤b)→ps.length + r.length≤s.length→Q (.tup [v,St r,Bo true]) M')→c [St s] M Q
theorem Oe {B:Base} {f:List UInt8→List UInt8} {TP TS:Nat} {ch cw cg cv:ak} (hh:nC ch) (hw:Kt B cw) (hg:rT B f cg) (hv:MZ B cv) :
  Iz B f TP fun args M Q=>∃ a0,args=[a0]∧qm ch TP cw cg cv TS a0 M Q:=by
 intro M s Q hM hl hN hS
 refine⟨_,rfl, ?_⟩
 unfold qm
 simp only[dR,dK]
 refine aP (fun m ys M3=>∃ (t:List UInt8) (v:AV) (acc:List gV),m=t.length∧ys=[St t,v]∧acc.length + t.length≤s.length∧ae [] M M3 ∧
   fB jd M3 M.next TP v acc (fun b=>M.next≤b∧b<M3.next∧b ∉ aH v)∧kS f (t.length + 1) t acc=om f s) _
  ⟨s,aF,[],rfl,rfl,by simp,ae.refl _ _,.nil,rfl⟩ ?_
 rintro next m ys M3 hnext ⟨t,v,acc,rfl,rfl,hal,hK,ho,hp⟩
 have hM3:M3.base=B:=by rw[hK.base,hM]
 rw[kS] at hp
 dsimp only[ag]
 refine hh (by omega) ?_
 cases h59:aN 59 t with
 | false =>
   simp only[h59,Bool.false_eq_true,if_false] at hp
   rw[dS]
   refine hS v M3 acc t hK hp.symm ((ho.mono (fun b h=>h.1)).Ef (fun b hb _=>hb)) hal
 | true =>
   simp only[h59,if_true] at hp
   have htl:=aZ h59
   rw[dW,aG,show aT (St t) (some (N .i64 1)) none=some (St (t.drop 1)) from bF (l:=1) (by omega) .i64,dM]
   have hb5:(M3.push (.row [St [],aF] false TP 0)).heap M3.next=some (.row [St [],aF] false TP 0):=RM.aS _
   refine hw (by rw[RM.SH,hM3]) (by simp; omega) fun M4 k4=>?_
   have hb5:=k4.ax hb5 (by simp[RM.push]) (by simp)
   have hn4:M3.next<M4.next:=by have:=k4.next; simp[RM.push] at this; omega
   have kk4:ae [] M3 M4:=((ae.refl _ _).push _).trans k4
   unfold PT
   rw[bH,bK,dP,Nat.zero_add,BR hb5 (by decide) rfl rfl,dP,Nat.zero_add,ay (aA _) rfl]
   generalize ht1:t.drop 1=t1 at *
   have ht1l:t1.length + 1=t.length:=by rw[← ht1]; simp; omega
   have hwk:=wM t1
   generalize wk t1=k at *
   refine hg (by rw[RM.Ux,kk4.base,hM3]) (by simp; omega) fun M5 k5=>?_
   rw[bU]
   have fail:om f s=none→Q (.tup [aF,St [],Bo false]) M5:=fun h=>hN M5 ((hK.trans kk4).new _ hK.next |>.trans k5) h
   cases hgn:gT f ((t1.take k).map bW) with
   | false =>
     simp only[hgn,Bool.false_and,Bool.false_eq_true,if_false] at hp
     rw[Bool.not_false,eu]
     dsimp only
     rw[fq,dW]
     exact fail hp.symm
   | true =>
   rw[Bool.not_true,iQ]
   refine hh (by simp; omega) ?_
   rw[bU]
   cases h61:aN 61 (t1.drop k) with
   | false =>
     simp only[h61,Bool.and_false,Bool.false_eq_true,if_false] at hp
     rw[Bool.not_false,iw,dW]
     exact fail hp.symm
   | true =>
   simp only[hgn,h61,Bool.and_self,if_true] at hp
   rw[Bool.not_true,iw,dS]
   generalize ht2:t1.drop k=t2 at *
   have ht2l:t2.length≤t1.length:=by rw[← ht2]; simp
   generalize hnm:(t1.take k).map bW=nm at *
   -- the block of this parameter
   have hb5:M5.heap M3.next=some (.row [St nm,aF] false TP 0):=k5.ax (aA _) (by rw[kG]; exact hn4) (by simp)
   have kk5:ae [] M3 M5:=(kk4.new _ (Nat.le_refl _)).trans k5
   have hn5:M3.next<M5.next:=by have:=k5.next; rw[kG] at this; omega
   refine aP (fun m zs M6=>∃ (u:List UInt8) (vs:List (List UInt8)) (w:AV) (more:Bool),m=2 * u.length + (if more then 1 else 0)∧zs=[St u,v,Bo more]∧u.length + vs.length≤t2.length∧ae [] M3 M6∧M5.next≤M6.next ∧
     M6.heap M3.next=some (.row [St nm,w] false TP 0)∧fB jm.jQ M6 M5.next TS w vs (fun _=>False) ∧
     (more=true→1≤u.length∧gJ u.length u vs=gJ t2.length t2 [])∧(more=false→gJ t2.length t2 []=some (vs,u))) _
    ⟨t2,[],aF,true,rfl,rfl,by simp,kk5,Nat.le_refl _,hb5,.nil,fun _=>⟨aZ h61,rfl⟩,fun h=>by cases h⟩ ?_
   rintro AP m zs M6 jU ⟨u,vs,w,more,rfl,rfl,hul,hk6,hn6,hb6,how,hm1,hm2⟩
   dsimp only[ag]
   have hM6:M6.base=B:=by rw[hk6.base,hM3]
   cases more with
   | true =>
     obtain⟨hu1,hvf⟩:=hm1 rfl
     obtain⟨j,hj⟩ : ∃ j,u.length=j + 1:=⟨u.length - 1,by omega⟩
     rw[hj,gJ] at hvf
     rw[dW,show aT (St u) (some (N .i64 1)) none=some (St (u.drop 1)) from bF (l:=1) (by omega) .i64,dM]
     have hvl:=uO (u.drop 1)
     refine hv hM6 (by simp; omega) fun M7 k7=>?_
     generalize iN (u.drop 1)=x at *
     obtain⟨a,after,ok⟩:=x
     simp only[List.length_drop] at hvl hvf
     rw[bH,bK,iK,bU]
     dsimp only
     cases ok with
     | false =>
       simp only[Bool.false_eq_true,if_false] at hvf
       rw[Bool.not_false,dW]
       refine hN M7 (hK.trans (hk6.trans k7)) ?_
       rw[← hp,← hvf]
     | true =>
     simp only[if_true] at hvf
     have hb7:=k7.ax hb6 (by omega) (by simp)
     rw[Bool.not_true,dS,dP,Nat.zero_add,ay hb7 rfl,jV (x:=St a) (size:=1) rfl rfl rfl,aG]
     have aba:=how.keep k7 (by simp) (by simp)
     refine fB.app (R:=jm.jQ) (a:=a) (cs:=[St a]) aba rfl (by have:=k7.next; omega) (Nat.le_refl _) (by simp) (by simp) (by omega) (by omega) ?_
     intro w' M8 o8 k8 n8 hw8 _
     have hwb:∀ b∈aH w,M5.next≤b:=fun b hb=>(how.blk b hb).1
     have hb8:=k8.ax hb7 (by have:=k7.next; omega) (fun h=>by have:=hwb _ h; omega)
     have VI:∀ b∈aH w',M5.next≤b:=fun b hb=>(o8.blk b hb).1
     rw[dP,Nat.zero_add,BR hb8 (by simp) o8.cells o8.one]
     refine hh (by omega) ?_
     have k9:ae [] M3 (M8.put M3.next (.row [St nm,w'] false TP 0)):=ae.new ((hk6.trans k7).fK k8 fun c hc=>.inl (by have:=hwb c hc; omega)) _ (Nat.le_refl _)
     refine jU _ _ _ ?_ ⟨after,vs++[a],w',aN 44 after,rfl,rfl,by simp; omega,k9,by rw[kG]; have:=k7.next; omega,aA _, ?_, ?_, ?_⟩
     ·split <;> simp <;> omega
     ·refine o8.keep (bs:=[M3.next]) ((ae.refl _ _).put _ (.inr (by simp))) (by simp) fun b hb=>?_
      have:=VI b hb
      simp; omega
     ·intro hmo
      rw[if_pos hmo] at hvf
      refine⟨aZ hmo, ?_⟩
      rw[← hvf,Am after.length after _ j (Nat.le_refl _) (aZ hmo) (by omega)]
     ·intro hmo
      rw[hmo] at hvf
      simp only[Bool.false_eq_true,if_false] at hvf
      exact hvf.symm
   | false =>
     rw[hm2 rfl] at hp
     simp only at hp
     rw[dS,aO (n:=2) hb6 rfl,jV (x:=.agg [St nm,w]) (size:=2) rfl (by simp[AV.cells,how.one]; rfl) rfl,aG]
     have hvl:=ho.blk
     let S' : Nat→Prop:=fun b=>M.next≤b∧b<M6.next∧b ∉ aH v
     have ho6:fB jd M6 M.next TP v acc S':=(ho.keep hk6 (by simp) (by simp)).mono fun b h=>⟨h.1,by have:=hk6.next; omega,h.2.2⟩
     have hel:jd.rel M6 [St nm,w] (nm,vs) S':=Lv ((how.mono (S':=S') (fun _ h=>h.elim)).Ef (fun b h1 h2=>⟨by have:=hK.next; omega,h2,fun hb=>by have:=(hvl b hb).2; omega⟩))
     refine fB.app (R:=jd) ho6 hel (by have:=hK.next; have:=hk6.next; omega) (by decide) (fun b hb h=>h.2.2 hb) (fun b h=>h.2.1) (by omega) (by omega) ?_
     intro v' M7 o7 k7 n7 hv7 hd7
     have hvs:=rW _ _ _ _ _ (aZ h61) (hm2 rfl)
     simp at hvs
     refine hnext _ _ _ (by omega) ⟨u,v',acc++[(nm,vs)],rfl,rfl,by simp; omega, ?_, ?_, ?_⟩
     ·exact(hK.trans hk6).fK k7 fun c hc=>.inl (hvl c hc).1
     ·exact o7.mono fun b h=>⟨h.1,by omega,fun hb=>hd7 b hb h⟩
     ·rw[← hp,CU f u.length u _ t.length (Nat.le_refl _) (by omega)]
structure Ln where
 g:List UInt8
 n:List UInt8
 ps:List gV
 v:List UInt8
 deriving DecidableEq
def iC:jL (Ln × Int) where
 size:=5
 rel M cs a S:=∃ v,cs=[St a.1.g,St a.1.n,v,St a.1.v,N .i64 a.2]∧bE jd M v a.1.ps S
 len h:=by obtain⟨v,rfl,h⟩:=h; rfl
 one h:=by obtain⟨v,rfl,h⟩:=h; simp[h.one,eZ]
 mono h hs:=by obtain⟨v,rfl,h⟩:=h; exact⟨v,rfl,h.mono hs⟩
 lt h:=by obtain⟨v,rfl,h⟩:=h; exact⟨v,rfl,h.lt⟩
 keep h hk hb:=by obtain⟨v,rfl,h⟩:=h; exact⟨v,rfl,h.keep hk hb⟩
abbrev lz:List AV:=[St [],St [],aF,St [],N .i64 0]
def cB (s:List UInt8) : List UInt8:=(s.take (wk s)).map bW
theorem KD (s:List UInt8) : PT s=.tup [St (cB s),St (s.drop (wk s))]:=rfl
def qP (f:List UInt8→List UInt8) (s:List UInt8) : Option (List UInt8 × List UInt8 × List UInt8) :=
 if aN 46 (s.drop (wk s)) then
  (if gT f (cB s) then some (cB s,cB ((s.drop (wk s)).drop 1),((s.drop (wk s)).drop 1).drop (wk ((s.drop (wk s)).drop 1))) else none)
 else some ([],cB s,s.drop (wk s))
def tq (f:List UInt8→List UInt8) (g n s:List UInt8) : Option Ln :=
 match om f s with
 | none=>none
 | some (ps,r)=>if gT f n && aN 58 r && fP [] (r.drop 1) then some ⟨g,n,ps,r.drop 1⟩ else none
def iy (f:List UInt8→List UInt8) (s:List UInt8) : Option Ln :=
 if eB s then(match qP f s with
  | none=>none
  | some (g,n,r)=>tq f g n r)
 else none
def XZ (B:Base) (f:List UInt8→List UInt8) (c:ak) : Prop:=∀ {M:RM} {s:List UInt8} {Q:aj},M.base=B→s.length≤10000 →
 (∀ M',ae [] M M'→iy f s=none→Q (.tup [.agg lz,Bo false]) M') →
 (∀ cs M' L,ae [] M M'→iy f s=some L→iC.rel M' cs (L,0) (fun b=>M.next≤b)→Q (.tup [.agg cs,Bo true]) M')→c [St s] M Q
theorem PV {M:RM} {b T:Nat} {l:List AV} {Q:aj} (h:M.heap b=some (.row l false T 0)) (hl:l.length=5) (hQ:Q (.tup [.agg lz,Bo false]) (M.put b (.row lz false T 0))) :
  eT lz [] fun t=>aC M (.ptr b 0) t 5 fun M1=>aK M1 (.ptr b 0) 5 fun res=>Q (.tup [res,Bo false]) M1:=by
 rw[jk]
 refine⟨_,rfl, ?_⟩
 rw[bN (n:=5) h rfl hl rfl,aO (n:=5) (aA _) rfl]
 exact hQ
theorem CK {B:Base} {f:List UInt8→List UInt8} {TP TL:Nat} {cvs cw ch cg cp cv:ak} (hvs:NC B cvs) (hw:Kt B cw) (hh:nC ch) (hg:rT B f cg) (hp:Iz B f TP cp) (hv:nG B cv) :
  XZ B f fun args M Q=>∃ a0,args=[a0]∧vE TL cvs cw ch cg cp cv a0 M Q:=by
 intro M s Q hM hl hN hS
 refine⟨_,rfl, ?_⟩
 unfold vE
 simp only[dR,dK]
 rw[aG]
 have h2:(M.push (.row lz false TL 0)).heap M.next=some (.row lz false TL 0):=RM.aS _
 have k1:ae [] M (M.push (.row lz false TL 0)):=(ae.refl _ _).push _
 have n1:(M.push (.row lz false TL 0)).next=M.next + 1:=rfl
 generalize M.push (.row lz false TL 0)=M1 at *
 refine hvs (by rw[k1.base,hM]) (by omega) ?_
 rw[bU]
 unfold iy at hN hS
 cases hf:eB s with
 | false =>
   rw[Bool.not_false,dW]
   exact PV h2 rfl (hN _ (k1.new _ (Nat.le_refl _)) (by simp[hf]))
 | true =>
 simp only[hf,if_true] at hN hS
 rw[Bool.not_true,dS,aG]
 have h4:(M1.push (.row lz false TL 0)).heap (M.next + 1)=some (.row lz false TL 0):=by rw[← n1]; exact RM.aS _
 have h2:(M1.push (.row lz false TL 0)).heap M.next=some (.row lz false TL 0):=pU h2 (by omega)
 have k2:ae [] M (M1.push (.row lz false TL 0)):=k1.push _
 have n2:(M1.push (.row lz false TL 0)).next=M.next + 2:=by rw[bG,n1]
 rw[n1]
 generalize M1.push (.row lz false TL 0)=M2 at *
 refine hw (by rw[k2.base,hM]) (by omega) fun M3 k3=>?_
 rw[KD]
 have h2:=k3.ax h2 (by omega) (by simp)
 have h4:=k3.ax h4 (by omega) (by simp)
 have n3:=k3.next
 rw[bH,bK,aQ,bR [St [],St (cB s),aF,St [],N .i64 0] h4 (by simp) rfl rfl rfl]
 have k4:ae [] M (M3.put (M.next + 1) (.row [St [],St (cB s),aF,St [],N .i64 0] false TL 0)):=(k2.trans k3).new _ (by omega)
 have h2:=dI (z:=.row [St [],St (cB s),aF,St [],N .i64 0] false TL 0) h2 (show M.next≠M.next + 1 by omega)
 have h4:(M3.put (M.next + 1) (.row [St [],St (cB s),aF,St [],N .i64 0] false TL 0)).heap (M.next + 1)=some (.row [St [],St (cB s),aF,St [],N .i64 0] false TL 0):=aA _
 have n4:M.next + 2≤(M3.put (M.next + 1) (.row [St [],St (cB s),aF,St [],N .i64 0] false TL 0)).next:=by rw[kG]; omega
 generalize M3.put (M.next + 1) (.row [St [],St (cB s),aF,St [],N .i64 0] false TL 0)=M4 at *
 have hdl:=wM s
 refine bO (fun xs M'=>∃ g n r,xs=[St r]∧qP f s=some (g,n,r)∧r.length≤s.length∧n.length≤s.length∧ae [] M M'∧M.next + 2≤M'.next∧M'.heap M.next=some (.row lz false TL 0) ∧
   M'.heap (M.next + 1)=some (.row [St g,St n,aF,St [],N .i64 0] false TL 0)) ?_ ?_
 ·rintro _ M5 ⟨g,n,r,rfl,hhd,hrl,hnl,k5,n5,h2,h4⟩
  rw[hhd] at hN hS
  simp only at hN hS
  unfold tq at hN hS
  dsimp only[ag]
  have stop:∀ M',ae [] M5 M'→om f r=none∨(∃ ps q,om f r=some (ps,q)∧(gT f n && aN 58 q && fP [] (q.drop 1))=false)→eT lz [] fun t=>aC M' (.ptr M.next 0) t 5 fun M1=>aK M1 (.ptr M.next 0) 5 fun res=>Q (.tup [res,Bo false]) M1:=by
   intro M' k' hc
   refine PV (k'.ax h2 (by omega) (by simp)) rfl (hN _ ((k5.trans k').new _ (Nat.le_refl _)) ?_)
   rcases hc with hc | ⟨ps,q,hc,hc2⟩
   ·simp[hc]
   ·rw[hc]; simp only[hc2,Bool.false_eq_true,if_false]
  refine hp (by rw[k5.base,hM]) (by omega) ?_ ?_
  ·intro M6 k6 hpn
   rw[bH,bK,iK,bU,Bool.not_false,eu]
   dsimp only
   rw[fq,eu]
   dsimp only
   rw[fq,eu]
   dsimp only
   rw[fq,dW]
   exact stop M6 k6 (.inl hpn)
  ·intro v M6 ps q k6 hps hsl hlen
   have h4:=k6.ax h4 (by omega) (by simp)
   have n6:=k6.next
   rw[bH,bK,iK,bU,Bool.not_true,iQ,aQ,ay h4 rfl]
   refine hg (by rw[k6.base,k5.base,hM]) (by omega) fun M7 k7=>?_
   have h4:=k7.ax h4 (by omega) (by simp)
   have n7:=k7.next
   have k67:=k6.trans k7
   rw[bU]
   dsimp only
   rw[iw]
   cases hgn:gT f n with
   | false =>
     rw[Bool.not_false,eu]
     dsimp only
     rw[fq,eu]
     dsimp only
     rw[fq,dW]
     exact stop M7 k67 (.inr ⟨ps,q,hps,by rw[hgn]; rfl⟩)
   | true =>
   rw[Bool.not_true,iQ]
   refine hh (by omega) ?_
   rw[bU]
   dsimp only
   rw[iw]
   cases h58:aN 58 q with
   | false =>
     rw[Bool.not_false,eu]
     dsimp only
     rw[fq,dW]
     exact stop M7 k67 (.inr ⟨ps,q,hps,by rw[hgn,h58]; rfl⟩)
   | true =>
   have hq1:=aZ h58
   rw[Bool.not_true,iQ,show aT (St q) (some (N .i64 1)) none=some (St (q.drop 1)) from bF (l:=1) hq1 .i64,dM]
   refine hv (by rw[k7.base,k6.base,k5.base,hM]) (by simp; omega) fun M8 k8=>?_
   have h4:=k8.ax h4 (by omega) (by simp)
   have n8:=k8.next
   have k68:=k67.trans k8
   rw[bU]
   dsimp only
   rw[iw]
   cases hgv:fP [] (q.drop 1) with
   | false =>
     rw[Bool.not_false,dW]
     exact stop M8 k68 (.inr ⟨ps,q,hps,by rw[hgn,h58,hgv]; rfl⟩)
   | true =>
   have hs8:=hsl.keep (k7.trans k8) (by simp)
   rw[Bool.not_true,dS,dM,aQ,bR [St g,St n,v,St [],N .i64 0] h4 (by simp) hs8.cells hs8.one rfl,dM]
   refine⟨rfl, ?_⟩
   rw[aQ,bR [St g,St n,v,St (q.drop 1),N .i64 0] (aA _) (by simp) rfl rfl rfl,aO (n:=5) (aA _) rfl]
   have h2:=dI (z:=.row [St g,St n,v,St (q.drop 1),N .i64 0] false TL 0) (dI (z:=.row [St g,St n,v,St [],N .i64 0] false TL 0) (k68.ax h2 (by omega) (by simp)) (show M.next≠M.next + 1 by omega)) (show M.next≠M.next + 1 by omega)
   rw[bN (n:=5) h2 rfl rfl (by simp[AV.cells,eZ,hs8.one]),aO (n:=5) (aA _) rfl]
   refine hS _ _ ⟨g,n,ps,q.drop 1⟩ ?_ (by rw[hps]; simp only[hgn,h58,hgv,Bool.and_self,if_true]) ⟨v,rfl, ?_⟩
   ·exact(((k5.trans k68).new _ (by omega)).new _ (by omega)).new _ (Nat.le_refl _)
   ·refine(hs8.keep (bs:=[M.next,M.next + 1]) ((((ae.refl _ _).put _ (.inr (by simp))).put _ (.inr (by simp))).put _ (.inr (by simp))) ?_).mono fun b hb=>by omega
    intro b hb h
    simp at hb
    omega
 ·intro J hJ
  refine hh (by simp; omega) ?_
  unfold qP at hJ hN
  cases h46:aN 46 (s.drop (wk s)) with
  | false =>
    rw[dS]
    simp only[h46,Bool.false_eq_true,if_false] at hJ
    exact hJ _ _ ⟨[],cB s,_,rfl,rfl,by simp,by simp[cB]; omega,k4,n4,h2,h4⟩
  | true =>
    simp only[h46,if_true] at hJ hN
    rw[dW,aQ,ay h4 rfl,aQ,bR [St (cB s),St (cB s),aF,St [],N .i64 0] h4 (by simp) rfl rfl rfl,aQ,ay (aA _) rfl]
    have k5:ae [] M (M4.put (M.next + 1) (.row [St (cB s),St (cB s),aF,St [],N .i64 0] false TL 0)):=k4.new _ (by omega)
    have h2:=dI (z:=.row [St (cB s),St (cB s),aF,St [],N .i64 0] false TL 0) h2 (show M.next≠M.next + 1 by omega)
    have h4:(M4.put (M.next + 1) (.row [St (cB s),St (cB s),aF,St [],N .i64 0] false TL 0)).heap (M.next + 1)=some (.row [St (cB s),St (cB s),aF,St [],N .i64 0] false TL 0):=aA _
    have n5:M.next + 2≤(M4.put (M.next + 1) (.row [St (cB s),St (cB s),aF,St [],N .i64 0] false TL 0)).next:=n4
    generalize M4.put (M.next + 1) (.row [St (cB s),St (cB s),aF,St [],N .i64 0] false TL 0)=M5 at *
    refine hg (by rw[k5.base,hM]) (by simp[cB]; omega) fun M6 k6=>?_
    have h2:=k6.ax h2 (by omega) (by simp)
    have h4:=k6.ax h4 (by omega) (by simp)
    have n6:=k6.next
    rw[bU]
    cases hgn:gT f (cB s) with
    | false =>
      rw[Bool.not_false,dW]
      refine PV h2 rfl (hN _ ((k5.trans k6).new _ (Nat.le_refl _)) (by simp[hgn]))
    | true =>
      simp only[hgn,if_true] at hJ
      rw[Bool.not_true,dS,show aT (St (s.drop (wk s))) (some (N .i64 1)) none=some (St ((s.drop (wk s)).drop 1)) from bF (l:=1) (aZ h46) .i64,dM]
      refine hw (by rw[k6.base,k5.base,hM]) (by simp; omega) fun M7 k7=>?_
      have h2:=k7.ax h2 (by omega) (by simp)
      have h4:=k7.ax h4 (by omega) (by simp)
      have n7:=k7.next
      rw[KD,bH,bK,aQ,bR [St (cB s),St (cB ((s.drop (wk s)).drop 1)),aF,St [],N .i64 0] h4 (by simp) rfl rfl rfl]
      have hdl2:=wM ((s.drop (wk s)).drop 1)
      refine hJ _ _ ⟨cB s,cB ((s.drop (wk s)).drop 1),_,rfl,rfl,by simp,by simp[cB]; omega,((k5.trans k6).trans k7).new _ (by omega),by rw[kG]; omega,dI h2 (by omega),aA _⟩
inductive Rds where
 | ok (l:List (Ln × Int))
 | bad (k:Int) (e:Int)
def gB (f:List UInt8→List UInt8) : List (List UInt8 × Int)→List (Ln × Int)→Rds
 | [],acc=>.ok acc
 | (s,k) :: r,acc=>if s=[] then gB f r acc else if 912<s.length then .bad k 2 else match iy f s with
   | none=>.bad k 3
   | some L=>gB f r (acc++[(L,k)])
def Nv (s:List UInt8) : List (List UInt8 × Int):=(kH [] [] 1 (bD [] s)).1.zip (kH [] [] 1 (bD [] s)).2
def Cu (f:List UInt8→List UInt8) (s:List UInt8) : Rds:=gB f (Nv s) []
theorem NQ (acc:List (List UInt8)) (x:List UInt8) : (glue acc x).length=if acc≠[]∧isSp x=true then acc.length else acc.length + 1:=by
 unfold glue
 split
 ·rename_i h; simp
 ·rename_i h; simp
theorem Fx:∀ (xs:List (List UInt8)) (acc:List (List UInt8)) (ns:List Int) (k:Int),acc.length=ns.length→(kH acc ns k xs).1.length=(kH acc ns k xs).2.length
 | [],acc,ns,k,h=>h
 | x :: xs,acc,ns,k,h=>by
   rw[kH]
   refine Fx xs _ _ _ ?_
   rw[NQ]
   split <;> simp[h]
theorem Hw:∀ (xs:List (List UInt8)) (acc:List (List UInt8)) (ns:List Int) (k:Int),(kH acc ns k xs).1.length≤acc.length + xs.length
 | [],acc,ns,k=>by simp[kH]
 | x :: xs,acc,ns,k=>by
   rw[kH]
   have:=Hw xs (glue acc x) (if acc≠[]∧isSp x=true then ns else ns++[k]) (IntKind.i64.wrap (k + 1))
   have h:=UQ acc x
   simp only[List.length_cons]
   omega
def u6 (B:Base) (f:List UInt8→List UInt8) (c:ak) : Prop:=∀ {M:RM} {s:List UInt8} {Q:aj},M.base=B→s.length≤100000000 →
 (∀ v M' ls,ae [] M M'→Cu f s=.ok ls→bE iC M' v ls (fun b=>M.next≤b)→ls.length≤s.length + 1→Q (.tup [v,N .i64 0,N .i64 0]) M') →
 (∀ M' k e,ae [] M M'→Cu f s=.bad k e→Q (.tup [aF,N .i64 k,N .i64 e]) M')→c [St s] M Q
theorem MV {B:Base} {f:List UInt8→List UInt8} {T TI TL:Nat} {cu cr:ak} (hu:EQ T TI cu) (hr:XZ B f cr) : u6 B f fun args M Q=>∃ a0,args=[a0]∧uR cu cr TL a0 M Q:=by
 intro M s Q hM hl hS hN
 refine⟨_,rfl, ?_⟩
 unfold uR
 simp only[dR,dK]
 refine hu (by omega) fun v u M1 ho1 ho2 hd k1=>?_
 have s1:=ho1.vR
 have s2:=ho2.vR
 have hlen:=Fx (bD [] s) [] [] 1 rfl
 have hle:=Hw (bD [] s) [] [] 1
 have hrl:=vI s []
 simp only[List.length_nil,Nat.zero_add] at hle
 unfold Cu Nv at hS hN
 generalize (kH [] [] 1 (bD [] s)).1=xs at *
 generalize (kH [] [] 1 (bD [] s)).2=ns at *
 rw[bH,bK,dC.len s1]
 refine aP (fun m ys M3=>∃ (i:Nat) (w:AV) (acc:List (Ln × Int)),m=xs.length - i∧ys=[w,N .i64 i]∧i≤xs.length∧acc.length≤i∧ae [] M1 M3 ∧
   fB iC M3 M1.next TL w acc (fun b=>M1.next≤b∧b<M3.next∧b ∉ aH w)∧gB f ((xs.zip ns).drop i) acc=gB f (xs.zip ns) []) _
  ⟨0,aF,[],rfl,rfl,Nat.zero_le _,Nat.le_refl _,ae.refl _ _,.nil,rfl⟩ ?_
 rintro next m ys M3 hnext ⟨i,w,acc,rfl,rfl,hi,hal,hK,ho,hp⟩
 dsimp only[ag]
 rw[ku]
 refine aY (fun hlt=>?_) (fun hge=>?_)
 ·have hlt:i<xs.length:=by simpa using hlt
  have t1:=dC.keep s1 hK (by simp)
  have t2:=dC.keep s2 hK (by simp)
  have hz:(xs.zip ns).drop i=(xs[i],ns[i]'(by omega)) :: (xs.zip ns).drop (i + 1):=by
   rw[List.drop_eq_getElem_cons (by simp; omega)]; simp
  rw[hz,gB] at hp
  refine bO (fun zs M'=>∃ (w' : AV) (acc' : List (Ln × Int)),zs=[w']∧acc'.length≤i + 1∧ae [] M1 M'∧fB iC M' M1.next TL w' acc' (fun b=>M1.next≤b∧b<M'.next∧b ∉ aH w')∧gB f ((xs.zip ns).drop (i + 1)) acc'=gB f (xs.zip ns) []) ?_ ?_
  ·rintro _ M4 ⟨w',acc',rfl,h1,h2,h3,h4⟩
   dsimp only[ag]
   rw[eH,kI (by omega)]
   exact hnext _ _ _ (by omega) ⟨i + 1,w',acc',rfl,rfl,by omega,h1,h2,h3,h4⟩
  ·intro J hJ
   obtain⟨b,o,hb,hbm,hidx,hc⟩:=Sl.O5 (E:=jm) t1 (i:Int) hlt
   have hc:=hc _ rfl
   rw[hidx,bM]
   refine⟨_,hc, ?_⟩
   rw[gy]
   obtain⟨b2,o2,hb2,hbm2,PY,hc2⟩:=Sl.O5 (E:=INT) t2 (i:Int) (show i<ns.length by omega)
   have hc2:=hc2 _ rfl
   generalize hxi:xs[i]=x at *
   generalize hni:ns[i]'(by omega)=k at *
   refine aY (fun he=>?_) (fun hne=>?_)
   ·have he:x=[]:=by simpa using he
    rw[if_pos he] at hp
    exact hJ _ _ ⟨w,acc,rfl,by omega,hK,ho,hp⟩
   ·have hne:¬ x=[]:=by simpa using hne
    rw[if_neg hne] at hp
    rw[bA,vW]
    refine aY (fun hg=>?_) (fun hg=>?_)
    ·have hg:912<x.length:=by simp at hg; omega
     rw[if_pos hg] at hp
     rw[PY,bM]
     exact⟨_,hc2,hN M3 k 2 (k1.trans hK) hp.symm⟩
    ·have hg:¬ 912<x.length:=by simp at hg; omega
     rw[if_neg hg] at hp
     have hM3:M3.base=B:=by rw[hK.base,k1.base,hM]
     refine hr hM3 (by omega) ?_ ?_
     ·intro M4 k4 hrd
      rw[hrd] at hp
      rw[bH,bK,aG,bN (n:=5) (RM.aS _) rfl rfl rfl,bU,Bool.not_false,dW,PY,bM]
      have kk:ae [] M3 ((M4.push (.row lz false TL 0)).put M4.next (.row lz false TL 0)):=(k4.push _).new _ k4.next
      exact⟨_,(kk.cell hb2 (by simp)).trans hc2,hN _ k 3 ((k1.trans hK).trans kk) hp.symm⟩
     ·intro cs M4 L k4 hrd hrel
      rw[hrd] at hp
      obtain⟨pv,rfl,hpv⟩:=hrel
      simp only at hpv hp
      have abh:([St L.g,St L.n,pv,St L.v,N .i64 0] : List AV).all oneCell=true:=by simp[eZ,hpv.one]
      have abq:([St L.g,St L.n,pv,St L.v,N .i64 k] : List AV).all oneCell=true:=by simp[eZ,hpv.one]
      rw[bH,bK,aG,bN (n:=5) (x:=.agg [St L.g,St L.n,pv,St L.v,N .i64 0]) (l:=lz) (RM.aS _) rfl rfl abh,bU,Bool.not_true,dS,PY,bM]
      have k45:ae [] M4 (((M4.push (.row lz false TL 0)).put M4.next (.row [St L.g,St L.n,pv,St L.v,N .i64 0] false TL 0)).put M4.next (.row [St L.g,St L.n,pv,St L.v,N .i64 k] false TL 0)) :=
       (((ae.refl _ _).push _).new _ (Nat.le_refl _)).new _ (Nat.le_refl _)
      have k4' : ae [] M3 ((M4.push (.row lz false TL 0)).put M4.next (.row [St L.g,St L.n,pv,St L.v,N .i64 0] false TL 0)):=(k4.push _).new _ k4.next
      refine⟨_,(k4'.cell hb2 (by simp)).trans hc2, ?_⟩
      rw[aQ,bR [St L.g,St L.n,pv,St L.v,N .i64 k] (aA _) (by simp[AV.cells]) rfl rfl rfl,aO (n:=5) (aA _) rfl,jV (x:=.agg [St L.g,St L.n,pv,St L.v,N .i64 k]) (size:=5) rfl abq rfl,aG]
      have n5:(((M4.push (.row lz false TL 0)).put M4.next (.row [St L.g,St L.n,pv,St L.v,N .i64 0] false TL 0)).put M4.next (.row [St L.g,St L.n,pv,St L.v,N .i64 k] false TL 0)).next=M4.next + 1:=rfl
      have n4:=k4.next
      have n3:=hK.next
      have hvl:=ho.blk
      let S' : Nat→Prop:=fun b=>M1.next≤b∧b<M4.next + 1∧b ∉ aH w
      have ho5:=(ho.keep (k4.trans k45) (by simp) (by simp)).mono (S':=S') fun b h=>⟨h.1,by omega,h.2.2⟩
      have hel:=(show iC.rel _ _ (L,k) _ from⟨pv,rfl,(hpv.lt.keep k45 (by simp)).mono (S':=S') fun b h=>⟨by omega,by omega,fun hb=>by have:=(hvl b hb).2; omega⟩⟩)
      refine fB.app (R:=iC) ho5 hel (show M1.next≤M4.next + 1 by omega) (by decide) (fun b hb h=>h.2.2 hb) (fun b h=>(show b<M4.next + 1 from h.2.1)) (by omega) (by omega) ?_
      intro w' M6 o6 k6 n6 _ hd6
      have n6:M4.next + 1≤M6.next:=n6
      refine hJ _ _ ⟨w',acc++[(L,k)],rfl,by simp; omega, ?_,o6.mono fun b h=>⟨h.1,by have:=h.2.1; omega,fun hb=>hd6 b hb h⟩,hp⟩
      exact(hK.trans (k4.trans k45)).fK k6 fun c hc=>.inl (hvl c hc).1
 ·have hge:i=xs.length:=by simp at hge; omega
  subst hge
  rw[List.drop_of_length_le (by simp; omega)] at hp
  refine hS w M3 acc (k1.trans hK) hp.symm ((ho.mono (fun b h=>h.1)).Ef (fun b hb _=>hb) |>.mono fun b hb=>Nat.le_trans k1.next hb) (by omega)
def Y8 (c:ak) : Prop:=∀ {M:RM} {cs ds:List AV} {L L' : Ln} {k k' : Int} {S S' : Nat→Prop} {Q:aj},iC.rel M cs (L,k) S→iC.rel M ds (L',k') S'→L.ps.length≤1000000000→(∀ p∈L.ps,p.2.length≤1000000000) →
 (∀ M',ae [] M M'→Q (Bo (decide (L=L'))) M')→c [.agg cs,.agg ds] M Q
theorem take_eq_all {α:Type} {xs ys:List α} (h:xs.length=ys.length) (ht:xs.take xs.length=ys.take xs.length) : xs=ys:=by
 rw[List.take_length,h,List.take_length] at ht; exact ht
theorem Ct {α:Type} {xs ys:List α} {i:Nat} (h1:i<xs.length) (h2:i<ys.length) (h:xs.take i=ys.take i) (he:xs[i]=ys[i]) : xs.take (i + 1)=ys.take (i + 1):=by
 rw[List.take_succ_eq_append_getElem h1,List.take_succ_eq_append_getElem h2,h,he]
theorem Jv {T:Nat} : Y8 fun args M Q=>∃ a0 a1,args=[a0,a1]∧Cz T a0 a1 M Q:=by
 intro M cs ds L L' k k' S S' Q hr1 hr2 hpl hpv hQ
 refine⟨_,_,rfl, ?_⟩
 obtain⟨v,rfl,hv⟩:=hr1
 obtain⟨v',rfl,hv'⟩:=hr2
 simp only at hv hv'
 have hall:([St L.g,St L.n,v,St L.v,N .i64 k] : List AV).all oneCell=true:=by simp[eZ,hv.one]
 have Za:([St L'.g,St L'.n,v',St L'.v,N .i64 k'] : List AV).all oneCell=true:=by simp[eZ,hv'.one]
 unfold Cz
 simp only[dR,Ki]
 rw[gX hall (by simp),aG,gX Za (by simp),aG]
 have h1:((M.push (.row [St L.g,St L.n,v,St L.v,N .i64 k] false T 0)).push (.row [St L'.g,St L'.n,v',St L'.v,N .i64 k'] false T 0)).heap M.next=some (.row [St L.g,St L.n,v,St L.v,N .i64 k] false T 0):=pU (RM.aS _) (by simp[RM.push])
 have h2:((M.push (.row [St L.g,St L.n,v,St L.v,N .i64 k] false T 0)).push (.row [St L'.g,St L'.n,v',St L'.v,N .i64 k'] false T 0)).heap (M.next + 1)=some (.row [St L'.g,St L'.n,v',St L'.v,N .i64 k'] false T 0):=RM.aS _
 have kk:ae [] M ((M.push (.row [St L.g,St L.n,v,St L.v,N .i64 k] false T 0)).push (.row [St L'.g,St L'.n,v',St L'.v,N .i64 k'] false T 0)):=((ae.refl _ _).push _).push _
 rw[bG]
 generalize (M.push (.row [St L.g,St L.n,v,St L.v,N .i64 k] false T 0)).push (.row [St L'.g,St L'.n,v',St L'.v,N .i64 k'] false T 0)=M1 at *
 have g1:=hv.keep kk (by simp)
 have g2:=hv'.keep kk (by simp)
 have no:L≠L'→Q (Bo false) M1:=fun h=>by have:=hQ M1 kk; rwa [decide_eq_false h] at this
 rw[aQ,ay h1 rfl,aQ,ay h2 rfl,ja]
 have e2:M1.heap (M.next + 1)=_:=h2
 by_cases hg:L.g=L'.g
 ·have b1:(L.g != L'.g)=false:=by simp[hg]
  rw[b1,iQ,aQ,ay h1 rfl,aQ,ay h2 rfl,ja]
  dsimp only
  rw[iw]
  by_cases hn:L.n=L'.n
  ·have b1:(L.n != L'.n)=false:=by simp[hn]
   rw[b1,iQ,aQ,ay h1 rfl,aQ,ay h2 rfl,ja]
   dsimp only
   rw[iw]
   by_cases hva:L.v=L'.v
   ·have b1:(L.v != L'.v)=false:=by simp[hva]
    rw[b1,iQ,aQ,ay h1 rfl,g1.len,aQ,ay h2 rfl,g2.len,dh]
    dsimp only
    rw[iw]
    by_cases hln:L.ps.length=L'.ps.length
    ·have b1:((L.ps.length:Int) != (L'.ps.length:Int))=false:=by simp[hln]
     rw[b1,dS]
     refine aP (fun m ys M3=>M3=M1∧∃ i:Nat,m=L.ps.length - i∧ys=[N .i64 i]∧i≤L.ps.length∧L.ps.take i=L'.ps.take i) _
      ⟨rfl,0,rfl,rfl,Nat.zero_le _,by simp⟩ ?_
     rintro next m ys M3 hnext ⟨rfl,i,rfl,rfl,hi,ht⟩
     dsimp only[ag]
     rw[aQ,ay h1 rfl,g1.len,ku]
     refine aY (fun hlt=>?_) (fun hge=>?_)
     ·have hlt:i<L.ps.length:=by simpa using hlt
      obtain⟨b,o,c1,hb,hbm,hidx,hld,hrel⟩:=bE.at g1 2 (i:Int) hlt
      obtain⟨_,rfl,pv,rfl,hpv1⟩:=hrel
      obtain⟨b',o',c2,hb',hbm',Px,XY,hrel'⟩:=bE.at g2 2 (i:Int) (show i<L'.ps.length by omega)
      obtain⟨_,rfl,pv',rfl,hpv2⟩:=hrel'
      have hc0:M3.cell b (o + 0)=some (St L.ps[i].1):=dB hld (j:=0) rfl
      have hc1:M3.cell b (o + 1)=some pv:=dB hld (j:=1) rfl
      have hc0' : M3.cell b' (o' + 0)=some (St (L'.ps[i]'(by omega)).1):=dB XY (j:=0) rfl
      have hc1' : M3.cell b' (o' + 1)=some pv':=dB XY (j:=1) rfl
      have hm:=hpv L.ps[i] (List.getElem_mem hlt)
      have noi:L.ps[i]≠L'.ps[i]'(by omega)→L≠L':=fun h e=>by subst e; exact h rfl
      generalize hp1:L.ps[i]=p at *
      generalize hp2:L'.ps[i]'(by omega)=p' at *
      rw[aQ,ay h1 rfl,hidx,dP,bM]
      refine⟨_,hc0, ?_⟩
      rw[aQ,ay h2 rfl,Px,dP,bM]
      refine⟨_,hc0', ?_⟩
      rw[ja]
      by_cases he:p.1=p'.1
      ·have b1:(p.1 != p'.1)=false:=by simp[he]
       rw[b1,TM,aQ,ay h1 rfl,hidx,dP,bM]
       refine⟨_,hc1, ?_⟩
       rw[hpv1.len,aQ,ay h2 rfl,Px,dP,bM]
       refine⟨_,hc1', ?_⟩
       rw[hpv2.len,dh]
       dsimp only
       rw[iw]
       by_cases hl2:p.2.length=p'.2.length
       ·have b1:((p.2.length:Int) != (p'.2.length:Int))=false:=by simp[hl2]
        rw[b1,dS]
        refine aP (fun m ys M4=>M4=M3∧∃ j:Nat,m=p.2.length - j∧ys=[N .i64 j]∧j≤p.2.length∧p.2.take j=p'.2.take j) _
         ⟨rfl,0,rfl,rfl,Nat.zero_le _,by simp⟩ ?_
        rintro AP m ys M4 jU ⟨rfl,j,rfl,rfl,hj,ht2⟩
        dsimp only[ag]
        rw[aQ,ay h1 rfl,hidx,dP,bM]
        refine⟨_,hc1, ?_⟩
        rw[hpv1.len,ku]
        refine aY (fun hlt2=>?_) (fun EY=>?_)
        ·have hlt2:j<p.2.length:=by simpa using hlt2
         rw[aQ,ay h1 rfl,hidx,dP,bM]
         refine⟨_,hc1, ?_⟩
         obtain⟨b3,o3,_,_,ZE,hc3⟩:=Sl.O5 (E:=jm) hpv1.sl (j:Int) hlt2
         have hc3:=hc3 _ rfl
         rw[ZE,bM]
         refine⟨_,hc3, ?_⟩
         rw[aQ,ay h2 rfl,Px,dP,bM]
         refine⟨_,hc1', ?_⟩
         obtain⟨b4,o4,_,_,Zb,hc4⟩:=Sl.O5 (E:=jm) hpv2.sl (j:Int) (show j<p'.2.length by omega)
         have hc4:=hc4 _ rfl
         rw[Zb,bM]
         refine⟨_,hc4, ?_⟩
         rw[ja]
         refine aY (fun h=>?_) (fun h=>?_)
         ·refine no (noi fun e=>?_)
          subst e
          simp at h
         ·have h:p.2[j]=p'.2[j]'(by omega):=by simpa using h
          rw[eH,kI (by omega)]
          exact jU _ _ _ (by omega) ⟨rfl,j + 1,rfl,rfl,by omega,Ct hlt2 (by omega) ht2 h⟩
        ·have EY:j=p.2.length:=by simp at EY; omega
         subst EY
         have:=take_eq_all hl2 ht2
         rw[eH,kI (by omega)]
         exact hnext _ _ _ (by omega) ⟨rfl,i + 1,rfl,rfl,by omega,Ct hlt (by omega) ht (by rw[hp1,hp2]; exact Prod.ext he this)⟩
       ·have b1:((p.2.length:Int) != (p'.2.length:Int))=true:=by simp; omega
        rw[b1,dW]
        exact no (noi fun e=>hl2 (by rw[e]))
      ·have b1:(p.1 != p'.1)=true:=by simp[he]
       rw[b1,RZ]
       dsimp only
       rw[fq,dW]
       exact no (noi fun e=>he (by rw[e]))
     ·have hge:i=L.ps.length:=by simp at hge; omega
      subst hge
      have hps:=take_eq_all hln ht
      have:=hQ M3 kk
      rwa [decide_eq_true (show L=L' by
       obtain⟨a1,a2,a3,a4⟩:=L
       obtain⟨b1,b2,b3,b4⟩:=L'
       simp only at hg hn hva hps
       rw[hg,hn,hva,hps])] at this
    ·have b1:((L.ps.length:Int) != (L'.ps.length:Int))=true:=by simp; omega
     rw[b1,dW]
     exact no fun e=>hln (by rw[e])
   ·have b1:(L.v != L'.v)=true:=by simp[hva]
    rw[b1,eu]
    dsimp only
    rw[fq,dW]
    exact no fun e=>hva (by rw[e])
  ·have b1:(L.n != L'.n)=true:=by simp[hn]
   rw[b1,eu]
   dsimp only
   rw[fq,eu]
   dsimp only
   rw[fq,dW]
   exact no fun e=>hn (by rw[e])
 ·have b1:(L.g != L'.g)=true:=by simp[hg]
  rw[b1,eu]
  dsimp only
  rw[fq,eu]
  dsimp only
  rw[fq,eu]
  dsimp only
  rw[fq,dW]
  exact no fun e=>hg (by rw[e])
def nI (c:UInt8) : Bool:=(decide (97≤c.toNat) && decide (c.toNat≤122)) || (decide (65≤c.toNat) && decide (c.toNat≤90)) || (decide (48≤c.toNat) && decide (c.toNat≤57)) || decide (c.toNat=45)
def wn (s:List UInt8) : Nat:=(s.takeWhile nI).length
theorem Zc (s:List UInt8) : wn s≤s.length:=by
 unfold wn
 induction s with
 | nil=>simp
 | cons c s ih =>
   rw[List.takeWhile_cons]
   split <;> simp <;> omega
def uK (c:UInt8) : Bool:=c != 34 && bZ c
def uN (c:UInt8) : Bool:=bZ c && c != 34 && c != 44 && c != 59 && c != 58
def zK (s:List UInt8) : Option (List UInt8 × List UInt8) :=
 if aN 34 s then
  (if aN 34 ((s.drop 1).dropWhile uK) then some ((s.drop 1).takeWhile uK,((s.drop 1).dropWhile uK).drop 1) else none)
 else some (s.takeWhile uN,s.dropWhile uN)
def tu:Nat→List UInt8→List (List UInt8)→Option (List (List UInt8) × List UInt8)
 | 0,_,_=>none
 | k + 1,s,acc=>match zK s with
   | none=>none
   | some (v,r)=>if aN 44 r then tu k (r.drop 1) (acc++[v]) else some (acc++[v],r)
theorem pM {α:Type} (p:α→Bool) : ∀ s:List α,s.drop (s.takeWhile p).length=s.dropWhile p∧s.take (s.takeWhile p).length=s.takeWhile p
 | []=>by simp
 | c :: s=>by
   rw[List.takeWhile_cons,List.dropWhile_cons]
   split
   ·have:=pM p s
    simp[this.1,this.2]
   ·simp
def V3 (s:List UInt8) : Option (List (List UInt8) × List UInt8):=tu (s.length + 1) s []
def bad (n:Nat) : Bool:=decide (n<1) || decide (20<n)
def Ba (n:Nat) (s:List UInt8) : List UInt8:=(s.take n).map bW
def Kz (s:List UInt8) : Option (List UInt8 × List UInt8) :=
 if aN 46 (s.drop (wn s)) then(if bad (wn s) then none else some (Ba (wn s) s,s.drop (wn s + 1))) else some ([],s)
def qR:Nat→List UInt8→List gV→Option (List gV × List UInt8)
 | 0,_,_=>none
 | k + 1,s,acc=>if aN 59 s then
     (if bad (wn (s.drop 1)) then none else if aN 61 ((s.drop 1).drop (wn (s.drop 1))) then
      match V3 ((s.drop 1).drop (wn (s.drop 1) + 1)) with
      | some (vs,r)=>qR k r (acc++[(Ba (wn (s.drop 1)) (s.drop 1),vs)])
      | none=>none
     else none)
   else some (acc,s)
def GH (g s:List UInt8) : Option Ln :=
 if bad (wn s) then none else match qR ((s.drop (wn s)).length + 1) (s.drop (wn s)) [] with
  | none=>none
  | some (ps,r)=>if aN 58 r && (r.drop 1).all bZ then some ⟨g,Ba (wn s) s,ps,r.drop 1⟩ else none
def Wy (s:List UInt8) : Option Ln :=
 if eB s then(match Kz s with
  | none=>none
  | some (g,r)=>GH g r)
 else none
theorem Lh (f:List UInt8→List UInt8) (N:Nat) : ∀ (k:Nat) (s:List UInt8) (acc ps:List gV) (r:List UInt8),s.length≤N→(∀ p∈acc,p.2.length≤N)→kS f k s acc=some (ps,r)→ps.length + r.length≤acc.length + s.length∧∀ p∈ps,p.2.length≤N
 | 0,s,acc,ps,r,_,_,h=>by cases h
 | k + 1,s,acc,ps,r,hN,ha,h=>by
   rw[kS] at h
   split at h
   ·rename_i h59
    have hpos:=aZ h59
    split at h
    ·rename_i hc
     simp only[Bool.and_eq_true] at hc
     have h61:=aZ hc.2
     generalize hk:((s.drop 1).drop (wk (s.drop 1))).length=kk at h
     cases hv:gJ kk ((s.drop 1).drop (wk (s.drop 1))) [] with
     | none=>rw[hv] at h; cases h
     | some p =>
       obtain⟨vs,s3⟩:=p
       rw[hv] at h
       have h2:=rW _ _ _ _ _ h61 hv
       simp at h2
       simp only at h
       have:=Lh f N k s3 _ ps r (by omega) (fun p hp=>by
        rcases List.mem_append.1 hp with hp | hp
        ·exact ha p hp
        ·simp at hp; subst hp; simp; omega) h
       refine⟨?_,this.2⟩
       have h3:=this.1
       simp at h3
       omega
    ·cases h
   ·cases h
    exact⟨Nat.le_refl _,ha⟩
def Small (N:Nat) (L:Ln) : Prop:=L.ps.length≤N∧∀ p∈L.ps,p.2.length≤N
theorem NP {f:List UInt8→List UInt8} {s:List UInt8} {L:Ln} {N:Nat} (hN:s.length≤N) (h:iy f s=some L) : Small N L:=by
 unfold iy at h
 split at h
 ·cases hh:qP f s with
  | none=>rw[hh] at h; cases h
  | some x =>
    obtain⟨g,n,r⟩:=x
    rw[hh] at h
    simp only[tq] at h
    have hr:r.length≤N:=by
     unfold qP at hh
     split at hh
     ·split at hh
      ·cases hh; simp; omega
      ·cases hh
     ·cases hh; simp; omega
    unfold om at h
    cases hp:kS f (r.length + 1) r [] with
    | none=>rw[hp] at h; cases h
    | some y =>
      obtain⟨ps,q⟩:=y
      rw[hp] at h
      simp only at h
      split at h
      ·cases h
       have:=Lh f N _ r [] ps q hr (by simp) hp
       refine⟨?_,this.2⟩
       have h3:=this.1
       simp at h3 ⊢; omega
      ·cases h
 ·cases h
theorem vT {f:List UInt8→List UInt8} : ∀ (l:List (List UInt8 × Int)) (acc ls:List (Ln × Int)),(∀ x∈acc,Small 912 x.1)→gB f l acc=.ok ls→∀ x∈ls,Small 912 x.1
 | [],acc,ls,ha,h=>by cases h; exact ha
 | (s,k) :: r,acc,ls,ha,h=>by
   rw[gB] at h
   split at h
   ·exact vT r acc ls ha h
   ·split at h
    ·cases h
    ·cases hr:iy f s with
     | none=>rw[hr] at h; cases h
     | some L =>
       rw[hr] at h
       refine vT r _ ls (fun x hx=>?_) h
       rcases List.mem_append.1 hx with hx | hx
       ·exact ha x hx
       ·simp at hx; subst hx
        exact NP (by omega) hr
theorem KG {a:List UInt8} (h:∀ b∈a,b.toNat≠13) : strip a=a:=by
 unfold strip
 rw[if_neg]
 intro e
 have:(13:UInt8)∈a:=List.mem_of_mem_drop (by rw[e]; simp)
 exact h _ this rfl
theorem VO {n b0 b1 b2 b3:Nat} (h0:lY n b0 b1 b2 b3≠0) : (2≤lY n b0 b1 b2 b3→128≤b1)∧(3≤lY n b0 b1 b2 b3→128≤b2)∧(4≤lY n b0 b1 b2 b3→128≤b3):=by
 by_cases r1:b0<128
 ·rw[Ci r1]; omega
 by_cases r2:b0<194∨245≤b0
 ·exact absurd (KO (by omega)) h0
 by_cases r3:b0<224
 ·by_cases g:n<2∨b1<128∨191<b1
  ·exact absurd (LM (by omega) g) h0
  ·rw[U9 (by omega) (by omega) (by omega)]; omega
 by_cases r4:b0<240
 ·by_cases g:n<3∨b1<128∨191<b1∨b2<128∨191<b2
  ·exact absurd (MR (by omega) g) h0
  ·rw[Um (by omega) (by omega) (by omega) (by omega) rfl]
   split <;> omega
 ·by_cases g:n<4∨b1<128∨191<b1∨b2<128∨191<b2∨b3<128∨191<b3
  ·exact absurd (Nl (by omega) g) h0
  ·omega
theorem WG {s:List UInt8} (h0:rk s≠0) {i:Nat} (h1:1≤i) (hi:i<rk s) : 128≤bt s i:=by
 have hne:s≠[]:=by intro e; subst e; simp[rk] at h0
 have hk:rk s=lY s.length (bt s 0) (bt s 1) (bt s 2) (bt s 3):=by rw[rk,if_neg hne]
 have hl:=(PW (s:=s)).2
 have:=VO (hk▸h0)
 rw[← hk] at this
 obtain rfl | rfl | rfl:i=1∨i=2∨i=3:=by omega
 ·exact this.1 (by omega)
 ·exact this.2.1 (by omega)
 ·exact this.2.2 (by omega)
theorem LU {c:UInt8} {s:List UInt8} (h:c.toNat<128) : rk (c :: s)=1:=by
 rw[rk,if_neg (by simp)]
 exact Ci (by simpa [bt] using h)
theorem wR {c:UInt8} {s:List UInt8} (h:c.toNat<128) : eB (c :: s)=eB s:=by
 rw[qL (by rw[LU h]; omega),LU h]; rfl
theorem BQ {c:UInt8} (hc:c.toNat<128) : ∀ (n:Nat) (a b:List UInt8),a.length≤n→eB (a++c :: b)=true→eB a=true∧eB b=true
 | n,[],b,_,h=>⟨qN,by rwa [List.nil_append,wR hc] at h⟩
 | 0,x :: a,b,hl,h=>by simp at hl
 | n + 1,x :: a,b,hl,h=>by
   have hne:(x :: a)++c :: b≠[]:=by simp
   have h0:=VU hne h
   have hle:rk ((x :: a)++c :: b)≤(x :: a).length:=by
    rcases Nat.lt_or_ge (x :: a).length (rk ((x :: a)++c :: b)) with hlt | hge
    ·have:=WG h0 (i:=(x :: a).length) (by simp) hlt
     have hb:bt ((x :: a)++c :: b) (x :: a).length=c.toNat:=by simp[bt,List.getD_eq_getElem?_getD]
     omega
    ·exact hge
   have hr:=Tw (s:=(x :: a)++c :: b) (t:=(x :: a).drop (rk ((x :: a)++c :: b))) h0
   rw[List.take_append_of_le_length hle,List.take_append_drop] at hr
   have hpos:1≤rk ((x :: a)++c :: b):=by omega
   rw[qL h0,List.drop_append_of_le_length hle] at h
   have:=BQ hc n ((x :: a).drop (rk ((x :: a)++c :: b))) b (by rw[List.length_drop]; simp only[List.length_cons] at hl ⊢; omega) h
   refine⟨?_,this.2⟩
   rw[qL (s:=x :: a) (by rw[hr]; exact h0),hr]
   exact this.1
theorem qj:∀ (a b:List UInt8),(∀ c∈a,c.toNat<128)→eB (a++b)=eB b
 | [],b,_=>rfl
 | c :: a,b,h=>by rw[List.cons_append,wR (h c (by simp)),qj a b (fun d hd=>h d (by simp[hd]))]
theorem MJ (c:UInt8) : dx.contains (bW c)=nI c:=by
 have key:∀ n:Fin 256,dx.contains (bW (UInt8.ofNat n.val))=nI (UInt8.ofNat n.val):=by decide +kernel
 have:=key ⟨c.toNat,c.toNat_lt⟩
 simpa using this
theorem sO:∀ s:List UInt8,((s.map bW).dropWhile (dx.contains ·)).length + wn s=s.length
 | []=>rfl
 | c :: s=>by
   have ih:=sO s
   unfold wn at *
   rw[List.map_cons,List.dropWhile_cons,List.takeWhile_cons,MJ c]
   cases nI c with
   | true=>simp only[if_true,List.length_cons]; omega
   | false=>simp only[Bool.false_eq_true,if_false,List.length_cons,List.length_map,List.length_nil]
theorem sU (s:List UInt8) : wk s=wn s:=by
 have:=sO s
 unfold wk; omega
theorem Hm (s:List UInt8) : s.take (wn s)=s.takeWhile nI:=(pM nI s).2
theorem all_takeWhile {α:Type} (p:α→Bool) : ∀ s:List α,∀ x∈s.takeWhile p,p x=true
 | [],x,hx=>by cases hx
 | c :: s,x,hx=>by
   rw[List.takeWhile_cons] at hx
   split at hx
   ·rcases List.mem_cons.1 hx with rfl | hx
    ·assumption
    ·exact all_takeWhile p s x hx
   ·cases hx
theorem IV {c:UInt8} (h:nI c=true) : c.toNat<128:=by
 simp[nI] at h; omega
theorem yK {α:Type} {p:α→Bool} : ∀ {s:List α},(∀ x∈s,p x=true)→s.dropWhile p=[]
 | [],_=>rfl
 | c :: s,h=>by rw[List.dropWhile_cons,if_pos (h c (by simp))]; exact yK fun x hx=>h x (by simp[hx])
theorem Vk (s:List UInt8) : Lib.trimS (cB s) dx=[]:=by
 have h:∀ x∈cB s,dx.contains x=true:=fun x hx=>by
  unfold cB at hx
  rw[sU,Hm] at hx
  obtain⟨y,hy,rfl⟩:=List.mem_map.1 hx
  rw[MJ]; exact all_takeWhile nI s y hy
 unfold Lib.trimS Lib.trimRightS Lib.trimLeftS
 rw[yK (s:=(cB s).reverse) fun x hx=>h x (by simpa using hx)]
 rfl
abbrev bX:List UInt8→List UInt8:=fun s=>Lib.trimS s dx
theorem EJ (s:List UInt8) : gT bX (cB s)=!bad (wn s):=by
 have hl:(cB s).length=wn s:=by
  unfold cB; rw[sU]; have:=Zc s; simp; omega
 unfold gT bad
 rw[show bX (cB s)=[] from Vk s,hl]
 by_cases h1:1≤wn s <;> by_cases h2:wn s≤20 <;> simp[h1,h2] <;> omega
theorem BX (s:List UInt8) : cB s=Ba (wn s) s:=by unfold cB Ba; rw[sU]
theorem Ez {s:List UInt8} (h:eB s=true) : eB (s.drop (wn s))=true:=by
 have:=qj (s.take (wn s)) (s.drop (wn s)) (fun c hc=>by rw[Hm] at hc; exact IV (all_takeWhile nI s c hc))
 rw[List.take_append_drop] at this
 rw[← this]; exact h
theorem jh {x:UInt8} {s:List UInt8} (h:aN x s=true) : s=x :: s.drop 1:=by
 cases s with
 | nil=>cases h
 | cons c s=>simp[aN] at h; subst h; rfl
theorem qC {x:UInt8} {s:List UInt8} (hx:x.toNat<128) (h:aN x s=true) (hf:eB s=true) : eB (s.drop 1)=true:=by
 rw[jh h,wR hx] at hf; exact hf
theorem ic {α:Type} {p:α→Bool} : ∀ {a b:List α},(∀ x∈a,p x=true)→(∀ x,b.head?=some x→p x=false)→(a++b).takeWhile p=a∧(a++b).dropWhile p=b
 | [],[],_,_=>⟨rfl,rfl⟩
 | [],y :: b,_,h=>by
   have:=h y rfl
   simp[List.takeWhile_cons,List.dropWhile_cons,this]
 | x :: a,b,h,hb=>by
   have ih:=ic (a:=a) (b:=b) (fun y hy=>h y (by simp[hy])) hb
   simp[List.takeWhile_cons,List.dropWhile_cons,h x (by simp),ih.1,ih.2]
theorem pq {α:Type} {p:α→Bool} : ∀ {s:List α},(∃ x∈s,p x=false)→∃ a y b,s=a++y :: b∧(∀ x∈a,p x=true)∧p y=false
 | [],⟨x,hx,_⟩=>by cases hx
 | c :: s,⟨x,hx,hp⟩=>by
   cases hc:p c with
   | false=>exact⟨[],c,s,rfl,by simp,hc⟩
   | true =>
     rcases List.mem_cons.1 hx with rfl | hx
     ·rw[hp] at hc; cases hc
     ·obtain⟨a,y,b,rfl,h1,h2⟩:=pq ⟨x,hx,hp⟩
      exact⟨c :: a,y,b,rfl,fun z hz=>by rcases List.mem_cons.1 hz with rfl | hz; exact hc; exact h1 z hz,h2⟩
theorem DD (c:UInt8) : okB [] c=bZ c:=by simp[okB]
def SL (r:List UInt8) : Prop:=aN 44 r=false∧aN 59 r=false∧aN 58 r=false
theorem Eb {c:UInt8} {r:List UInt8} (h:c≠44∧c≠59∧c≠58) : SL (c :: r):=by
 refine⟨?_, ?_, ?_⟩ <;> simp[aN,h]
theorem NB (s:List UInt8) : (Lib.indexAny s iR=-1∧∀ x∈s,x ∉ iR)∨∃ a c b,s=a++c :: b∧Lib.indexAny s iR=(a.length:Int)∧c∈iR∧∀ x∈a,x ∉ iR:=by
 induction s with
 | nil=>exact .inl ⟨rfl,by simp⟩
 | cons d s ih =>
   rw[Lib.indexAny]
   by_cases hd:d∈iR
   ·have:iR.contains d=true:=by simpa using hd
    exact .inr ⟨[],d,s,rfl,by rw[if_pos this]; rfl,hd,by simp⟩
   ·have:¬ iR.contains d=true:=by simpa using hd
    rw[if_neg this]
    rcases ih with⟨h1,h2⟩ | ⟨a,c,b,rfl,h1,h2,h3⟩
    ·exact .inl ⟨by rw[h1]; rfl,fun x hx=>by rcases List.mem_cons.1 hx with rfl | hx; exact hd; exact h2 x hx⟩
    ·refine .inr ⟨d :: a,c,b,rfl, ?_,h2,fun x hx=>by rcases List.mem_cons.1 hx with rfl | hx; exact hd; exact h3 x hx⟩
     rw[h1]
     have:((a.length:Int) == -1)=false:=by simp
     rw[this]; simp
theorem Rs {c:UInt8} (h:c∈iR) : c.toNat<128:=by
 simp[iR] at h
 rcases h with rfl | rfl | rfl <;> decide
theorem GD {c:UInt8} (h:c∈iR) : bZ c=true∧c≠34∧uN c=false:=by
 simp[iR] at h
 rcases h with rfl | rfl | rfl <;> decide
theorem UK {t:List UInt8} (hf:eB t=true) :
  ((iN t).2.2=true→zK t=some ((iN t).1,(iN t).2.1)∧eB (iN t).2.1=true) ∧
  ((iN t).2.2=false→zK t=none∨∃ w r,zK t=some (w,r)∧SL r):=by
 unfold iN zK
 cases h34:aN 34 t with
 | true =>
   have ht:=jh h34
   have hf1:=qC (x:=34) (by decide) h34 hf
   generalize t.drop 1=t1 at *
   simp only[if_true]
   rcases qA 34 t1 with⟨h1,_,hn⟩ | ⟨a,b,h1,_,h3,hn⟩
   ·rw[h1]
    refine⟨fun h=>(by cases h),fun _=>.inl ?_⟩
    have:aN 34 (t1.dropWhile uK)=false:=by
     cases hd:t1.dropWhile uK with
     | nil=>rfl
     | cons c r =>
       have hm:c∈t1:=(List.dropWhile_suffix uK).subset (by rw[hd]; simp)
       have:c≠34:=fun e=>hn (e▸hm)
       simpa [aN] using this
    rw[this]; rfl
   ·rw[h1]
    simp only
    rw[h3] at hf1
    have hsp:=BQ (c:=34) (by decide) a.length a b (Nat.le_refl _) hf1
    by_cases hp:a.all bZ=true
    ·have hq:∀ x∈a,uK x=true:=fun x hx=>by
      have h5:=List.all_eq_true.1 hp x hx
      have h6:x≠34:=fun e=>hn (e▸hx)
      simp[uK,h5,h6]
     have:=ic (p:=uK) (a:=a) (b:=34 :: b) hq (fun x hx=>by simp at hx; subst hx; decide)
     rw[h3,this.1,this.2]
     refine⟨fun _=>⟨by simp[aN],hsp.2⟩,fun h=>?_⟩
     have:fP [] a=true:=by
      unfold fP
      rw[hsp.1,Bool.and_true,List.all_eq_true]
      intro x hx
      rw[DD]; exact List.all_eq_true.1 hp x hx
     rw[this] at h; cases h
    ·have hp:∃ x∈a,bZ x=false:=by simpa using hp
     obtain⟨a1,y,a2,rfl,h5,h6⟩:=pq hp
     have hq:∀ x∈a1,uK x=true:=fun x hx=>by
      have h8:x≠34:=fun e=>hn (by subst e; simp[hx])
      simp[uK,h5 x hx,h8]
     have hy:y≠34:=fun e=>hn (by subst e; simp)
     have:=ic (p:=uK) (a:=a1) (b:=y :: (a2++34 :: b)) hq (fun x hx=>by simp at hx; subst hx; simp[uK,h6])
     have he:t1=a1++y :: (a2++34 :: b):=by rw[h3]; simp
     rw[he,this.1,this.2]
     refine⟨fun h=>?_,fun _=>.inl (by simp[aN,hy])⟩
     have:fP [] (a1++y :: a2)=false:=by
      unfold fP
      have:(a1++y :: a2).all (okB [])=false:=by rw[List.all_eq_false]; exact⟨y,by simp,by rw[DD]; simp[h6]⟩
      rw[this]; rfl
     rw[this] at h; cases h
 | false =>
   simp only[Bool.false_eq_true,if_false]
   rcases NB t with⟨h1,h2⟩ | ⟨a,c,b,rfl,h1,h2,h3⟩
   ·rw[h1]
    refine⟨fun h=>(by cases h),fun _=>.inr ⟨_,_,rfl, ?_⟩⟩
    cases hd:t.dropWhile uN with
    | nil=>exact⟨rfl,rfl,rfl⟩
    | cons d r =>
      have hm:d∈t:=(List.dropWhile_suffix uN).subset (by rw[hd]; simp)
      have:=h2 d hm
      simp[iR] at this
      exact Eb ⟨this.1,this.2.1,this.2.2⟩
   ·rw[h1,if_neg (by omega),Int.toNat_natCast]
    have ht1:(a++c :: b).take a.length=a:=by simp
    have ht2:(a++c :: b).drop a.length=c :: b:=by simp
    rw[ht1,ht2]
    have hca:=Rs h2
    have hsp:=BQ hca a.length a b (Nat.le_refl _) hf
    by_cases hp:a.all (okB [34])=true
    ·have hq:∀ x∈a,uN x=true:=fun x hx=>by
      have h5:=List.all_eq_true.1 hp x hx
      have h6:=h3 x hx
      simp[okB] at h5
      simp[iR] at h6
      simp[uN,h5,h6]
     have:=ic (p:=uN) (a:=a) (b:=c :: b) hq (fun x hx=>by simp at hx; subst hx; exact(GD h2).2.2)
     refine⟨fun _=>⟨by rw[this.1,this.2],by rw[wR hca]; exact hsp.2⟩,fun h=>?_⟩
     have:fP [34] a=true:=by unfold fP; rw[hsp.1,hp]; rfl
     rw[this] at h; cases h
    ·have hp:∃ x∈a,okB [34] x=false:=by simpa using hp
     obtain⟨a1,y,a2,rfl,h5,h6⟩:=pq hp
     have hyn:=h3 y (by simp)
     have hbad:uN y=false:=by
      simp[okB] at h6
      by_cases hpl:bZ y=true
      ·have:=h6 hpl
       subst this; decide
      ·simp[uN,hpl]
     have hq:∀ x∈a1,uN x=true:=fun x hx=>by
      have h7:=h5 x hx
      have h8:=h3 x (by simp[hx])
      simp[okB] at h7
      simp[iR] at h8
      simp[uN,h7,h8]
     have:=ic (p:=uN) (a:=a1) (b:=y :: (a2++c :: b)) hq (fun x hx=>by simp at hx; subst hx; exact hbad)
     have he:(a1++y :: a2)++c :: b=a1++y :: (a2++c :: b):=by simp
     refine⟨fun h=>?_,fun _=>.inr ⟨_,_,rfl, ?_⟩⟩
     ·have:fP [34] (a1++y :: a2)=false:=by
       unfold fP
       have:(a1++y :: a2).all (okB [34])=false:=by rw[List.all_eq_false]; exact⟨y,by simp,by simp[h6]⟩
       rw[this]; rfl
      rw[this] at h; cases h
     ·rw[he,this.2]
      simp[iR] at hyn
      exact Eb ⟨hyn.1,hyn.2.1,hyn.2.2⟩
theorem Pb:∀ (n:Nat) (s:List UInt8) (acc:List (List UInt8)) (k k' : Nat),s.length≤n→1≤s.length→s.length≤k→s.length≤k'→eB (s.drop 1)=true →
  (∀ vs r,gJ k s acc=some (vs,r)→tu k' (s.drop 1) acc=some (vs,r)∧eB r=true) ∧
  (gJ k s acc=none→tu k' (s.drop 1) acc=none∨∃ vs r,tu k' (s.drop 1) acc=some (vs,r)∧aN 59 r=false∧aN 58 r=false)
 | 0,s,acc,k,k',h1,h2,_,_,_=>by omega
 | n + 1,s,acc,k,k',h1,h2,h3,h4,hf=>by
   obtain⟨i,rfl⟩ : ∃ i,k=i + 1:=⟨k - 1,by omega⟩
   obtain⟨j,rfl⟩ : ∃ j,k'=j + 1:=⟨k' - 1,by omega⟩
   rw[gJ,tu]
   have hv:=UK hf
   have hlen:=uO (s.drop 1)
   generalize iN (s.drop 1)=x at *
   obtain⟨v,after,ok⟩:=x
   simp only[List.length_drop] at hv hlen ⊢
   cases ok with
   | true =>
     obtain⟨hs,hfa⟩:=hv.1 rfl
     rw[hs]
     simp only[if_true]
     cases h44:aN 44 after with
     | true =>
       simp only[if_true]
       have hp:=aZ h44
       exact Pb n after (acc++[v]) i j (by omega) hp (by omega) (by omega) (qC (x:=44) (by decide) h44 hfa)
     | false =>
       simp only[Bool.false_eq_true,if_false]
       refine⟨fun vs r h=>?_,fun h=>by cases h⟩
       cases h
       exact⟨rfl,hfa⟩
   | false =>
     simp only[Bool.false_eq_true,if_false]
     refine⟨fun vs r h=>(by cases h),fun _=>?_⟩
     rcases hv.2 rfl with h | ⟨w,r,h,hm⟩
     ·rw[h]; exact .inl rfl
     ·rw[h]
      simp only[hm.1,Bool.false_eq_true,if_false]
      exact .inr ⟨_,_,rfl,hm.2.1,hm.2.2⟩
theorem O7:∀ (n:Nat) (s:List UInt8) (acc:List gV) (k k' : Nat),s.length≤n→s.length + 1≤k→s.length + 1≤k'→eB s=true →
  (∀ ps r,kS bX k s acc=some (ps,r)→qR k' s acc=some (ps,r)∧eB r=true) ∧
  (kS bX k s acc=none→qR k' s acc=none∨∃ ps r,qR k' s acc=some (ps,r)∧aN 58 r=false)
 | n,s,acc,k,k',h1,h3,h4,hf=>by
   obtain⟨i,rfl⟩ : ∃ i,k=i + 1:=⟨k - 1,by omega⟩
   obtain⟨j,rfl⟩ : ∃ j,k'=j + 1:=⟨k' - 1,by omega⟩
   rw[kS,qR]
   cases h59:aN 59 s with
   | false =>
     simp only[Bool.false_eq_true,if_false]
     refine⟨fun ps r h=>?_,fun h=>by cases h⟩
     cases h; exact⟨rfl,hf⟩
   | true =>
     simp only[if_true]
     have hp:=aZ h59
     have hf1:=qC (x:=59) (by decide) h59 hf
     have hul:(s.drop 1).length + 1=s.length:=by simp; omega
     generalize s.drop 1=u at *
     rw[show(u.take (wk u)).map bW=cB u from rfl,EJ,BX,sU]
     cases hb:bad (wn u) with
     | true =>
       simp only[Bool.not_true,Bool.false_and,Bool.false_eq_true,if_false,if_true]
       exact⟨fun ps r h=>(by cases h),fun _=>.inl (by simp)⟩
     | false =>
       simp only[Bool.not_false,Bool.true_and,Bool.false_eq_true,if_false]
       have hf2:=Ez hf1
       cases h61:aN 61 (u.drop (wn u)) with
       | false =>
         simp only[Bool.false_eq_true,if_false]
         exact⟨fun ps r h=>(by cases h),fun _=>.inl (by simp)⟩
       | true =>
         simp only[if_true]
         have hp2:=aZ h61
         have hf3:=qC (x:=61) (by decide) h61 hf2
         have hq:=Pb (u.drop (wn u)).length (u.drop (wn u)) [] (u.drop (wn u)).length ((u.drop (wn u + 1)).length + 1) (Nat.le_refl _) hp2 (Nat.le_refl _) (by simp at hp2 ⊢; omega) hf3
         rw[List.drop_drop] at hq
         unfold V3
         have hlen:=rW (u.drop (wn u)).length (u.drop (wn u)) []
         cases hv:gJ (u.drop (wn u)).length (u.drop (wn u)) [] with
         | none =>
           simp only
           refine⟨fun ps r h=>(by cases h),fun _=>?_⟩
           rcases hq.2 hv with h | ⟨vs,r,h,h5,h6⟩
           ·rw[h]; exact .inl rfl
           ·rw[h]
            simp only
            right
            have hr1:1≤j:=by omega
            obtain⟨j',rfl⟩ : ∃ j',j=j' + 1:=⟨j - 1,by omega⟩
            rw[qR]
            simp only[h5,Bool.false_eq_true,if_false]
            exact⟨_,_,rfl,h6⟩
         | some p =>
           obtain⟨vs,r⟩:=p
           obtain⟨h5,h6⟩:=hq.1 vs r hv
           rw[h5]
           simp only
           have h7:=hlen vs r hp2 hv
           simp at h7
           cases n with
           | zero=>omega
           | succ n=>exact O7 n r _ i j (by omega) (by omega) (by omega) h6
theorem Oo {g r:List UInt8} (hf:eB r=true) : tq bX g (cB r) (r.drop (wk r))=GH g r:=by
 unfold tq GH
 rw[EJ,BX,sU]
 have hf1:=Ez hf
 have hq:=O7 (r.drop (wn r)).length (r.drop (wn r)) [] ((r.drop (wn r)).length + 1) ((r.drop (wn r)).length + 1) (Nat.le_refl _) (Nat.le_refl _) (Nat.le_refl _) hf1
 unfold om
 cases hp:kS bX ((r.drop (wn r)).length + 1) (r.drop (wn r)) [] with
 | none =>
   simp only
   rcases hq.2 hp with h | ⟨ps,q,h,h2⟩
   ·rw[h]; simp
   ·rw[h]; simp[h2]
 | some x =>
   obtain⟨ps,q⟩:=x
   obtain⟨h1,h2⟩:=hq.1 ps q hp
   rw[h1]
   simp only
   cases hb:bad (wn r) with
   | true=>simp
   | false =>
     simp only[Bool.not_false,Bool.true_and,Bool.false_eq_true,if_false]
     cases h58:aN 58 q with
     | false=>simp
     | true =>
       have hf2:=qC (x:=58) (by decide) h58 h2
       have:fP [] (q.drop 1)=(q.drop 1).all bZ:=by
        unfold fP
        rw[hf2,Bool.and_true]
        congr 1
        funext c
        exact DD c
       rw[this]
theorem WZ (s:List UInt8) : iy bX s=Wy s:=by
 unfold iy Wy
 cases hf:eB s with
 | false=>simp
 | true =>
   simp only[if_true]
   unfold qP Kz
   rw[sU]
   cases h46:aN 46 (s.drop (wn s)) with
   | false =>
     simp only[Bool.false_eq_true,if_false]
     rw[← sU s]
     exact Oo hf
   | true =>
     simp only[if_true]
     rw[EJ]
     cases hb:bad (wn s) with
     | true=>simp
     | false =>
       simp only[Bool.not_false,if_true,Bool.false_eq_true,if_false]
       rw[BX s,List.drop_drop]
       refine Oo ?_
       have:=qC (x:=46) (by decide) h46 (Ez hf)
       rwa [List.drop_drop] at this
end Go.Ab.Vl
namespace Go.Ab.Vl
open Go Go.Ab Go.Ab.Sm
def gp (c:UInt8) : UInt8:=if 97≤c.toNat∧c.toNat≤122 then UInt8.ofNat (c.toNat - 32) else c
def Nn (c:ak) : Prop:=∀ {M:RM} {s:List UInt8} {Q:aj},s.length≤1000000000→(∀ M',ae [] M M'→Q (St (s.map gp)) M')→c [St s] M Q
section
variable {f:UInt8→UInt8} {s:List UInt8} {i:Nat}
theorem map_set (hi:i<s.length) (x:UInt8) : ((s.take i).map f++s.drop i).set i x=(s.take i).map f++x :: s.drop (i + 1):=by
 have hl:((s.take i).map f).length=i:=by simp; omega
 rw[List.drop_eq_getElem_cons hi,List.set_append_right _ _ (by omega),hl,Nat.sub_self,List.set_cons_zero]
theorem map_take (hi:i<s.length) : (s.take (i + 1)).map f++s.drop (i + 1)=(s.take i).map f++f s[i] :: s.drop (i + 1):=by
 rw[List.take_succ_eq_append_getElem hi,List.map_append,List.append_assoc]
 rfl
theorem Xi (hi:i<s.length) (h:i<((s.take i).map f++s.drop i).length) : ((s.take i).map f++s.drop i)[i]=s[i]:=by
 have hl:((s.take i).map f).length=i:=by simp; omega
 rw[List.getElem_append_right (by omega)]
 simp only[hl,Nat.sub_self,List.getElem_drop,Nat.add_zero]
end
theorem WV {c:UInt8} (h:¬ (97≤c.toNat∧c.toNat≤122)) : gp c=c:=if_neg h
theorem XI {c:UInt8} (h:97≤c.toNat∧c.toNat≤122) : (gp c).toNat=c.toNat - 32:=by
 have:=Ky c
 unfold gp
 rw[if_pos h,Sy,Nat.mod_eq_of_lt (by omega)]
theorem Qd {T8:Nat} : Nn fun args M Q=>∃ a0,args=[a0]∧rY T8 a0 M Q:=by
 intro M s Q hl hQ
 refine⟨_,rfl, ?_⟩
 unfold rY
 simp only[dR,dK]
 rw[rV,aG,vO]
 have k1:ae [] M (M.push (.row (BY.row s) true T8 0)):=(ae.refl _ _).push _
 have o1:Ow BY (M.push (.row (BY.row s) true T8 0)) 0 T8 (.slc M.next 0 s.length (.op 1)) s:=.op M.next s.length _ (Nat.zero_le _) (by rw[bG]; omega) (RM.aS _) (BY.fU _)
 generalize M.push (.row (BY.row s) true T8 0)=M1 at *
 refine aP (fun m ys M3=>∃ i:Nat,m=s.length - i∧ys=[N .i64 (i:Int)]∧i≤s.length∧Ow BY M3 0 T8 (.slc M.next 0 s.length (.op 1)) ((s.take i).map gp++s.drop i)∧ae [] M M3) s.length
  ⟨0,rfl,rfl,Nat.zero_le _,by simpa using o1,k1⟩ ?_
 rintro next m ys M3 hnext ⟨i,rfl,rfl,hi,o3,k3⟩
 dsimp only[ag]
 rw[kJ]
 refine aY (fun hlt=>?_) (fun hge=>?_)
 ·have hlt:i<s.length:=of_decide_eq_true hlt
  have hlen:i<((s.take i).map gp++s.drop i).length:=by simp; omega
  obtain⟨b,hbk,hbl,hix,hld,hst⟩:=UI (E:=BY) rfl o3 hlen
  rw[Xi hlt hlen] at hld
  have hbe:M.next=b:=by simpa [aH] using hbk
  refine bO (fun _ M'=>Ow BY M' 0 T8 (.slc M.next 0 s.length (.op 1)) ((s.take (i + 1)).map gp++s.drop (i + 1))∧ae [] M M') ?_ ?_
  ·rintro xs M4 ⟨o4,k4⟩
   rw[add1 (by omega)]
   exact hnext _ _ _ (by omega) ⟨i + 1,rfl,rfl,by omega,o4,k4⟩
  intro J hJ
  have cb:=Ky s[i]
  have same:¬ (97≤s[i].toNat∧s[i].toNat≤122)→J [] M3:=fun h=>hJ _ _ ⟨by rw[map_take hlt,WV h,← List.drop_eq_getElem_cons hlt]; exact o3,k3⟩
  rw[hix,hld (By s[i]) rfl,By,fM]
  refine wC (p:=decide ((s[i].toNat:Int)≤122)) (fun _ k hk=>by rw[oI]; exact hk) ?_
  refine aY (fun hc=>?_) (fun hc=>same ?_)
  ·rw[Bool.and_eq_true,decide_eq_true_eq,decide_eq_true_eq] at hc
   have h:97≤s[i].toNat∧s[i].toNat≤122:=by omega
   obtain⟨M4,o4,e4,hs4⟩:=hst (gp s[i]) (By (gp s[i])) rfl rfl
   have wv:N IntKind.u8 (IntKind.u8.wrap (IntKind.u8.wrap ((s[i].toNat:Int) + 65) - 97))=By (gp s[i]):=by
    rw[By,XI h]
    rw[show IntKind.u8.wrap ((s[i].toNat:Int) + 65)=(s[i].toNat:Int) + 65 from tZ (by omega) (by omega)]
    rw[tZ (by omega) (by omega)]
    congr 1; omega
   rw[eH,mY,hix,wv,hs4]
   refine hJ _ _ ⟨?_, ?_⟩
   ·rw[map_take hlt,← map_set hlt]; exact o4
   ·rw[e4]; exact k3.put _ (.inl (by omega))
  ·rw[Bool.and_eq_false_iff,decide_eq_false_iff_not,decide_eq_false_iff_not] at hc
   omega
 ·have he:i=s.length:=by
   have:¬ i<s.length:=of_decide_eq_false hge
   omega
  subst he
  rw[List.take_length,List.drop_length,List.append_nil] at o3
  rw[Sl.str (Own.vR o3)]
  exact hQ M3 k3
def Co (s:List UInt8) : Bool:=s.any fun c=>decide (c∈iR)
def VP (B:Base) (c:ak) : Prop:=∀ {M:RM} {s:List UInt8} {Q:aj},M.base=B→s.length≤1000000000→(∀ M',ae [] M M'→Q (Bo (Co s)) M')→c [St s,St iR] M Q
theorem UU {B:Base} {ci:ak} (hi:ni iR B ci) : VP B fun args M Q=>∃ a0 a1,args=[a0,a1]∧gz ci a0 a1 M Q:=by
 intro M s Q hM hl hQ
 refine⟨_,_,rfl, ?_⟩
 unfold gz
 refine hi hM hl fun M' k=>?_
 have hQ:=hQ M' k
 rw[fM]
 rcases NB s with⟨e,h⟩ | ⟨a,c,b,e1,e2,h1,h2⟩
 ·have:Co s=false:=by
   unfold Co
   rw[List.any_eq_false]
   intro x hx
   simpa using h x hx
  rw[this] at hQ
  rw[e]; exact hQ
 ·have:Co s=true:=by
   unfold Co
   rw[List.any_eq_true]
   exact⟨c,by rw[e1]; simp,by simpa using h1⟩
  rw[this] at hQ
  rw[e2,show decide ((a.length:Int) ≥ 0)=true from decide_eq_true (by omega)]; exact hQ
structure DN (n0 b:Nat) (M M' : RM) : Prop where
 base:M'.base=M.base
 next:M.next≤M'.next
 heap:∀ c,c<n0→c≠b→M'.heap c=M.heap c
 shut:∀ c l e f,c<M.next→c≠b→M.heap c=some (.row l false e f)→M'.heap c=some (.row l false e f)
theorem jH.buf {TB T8 n0 b:Nat} {M:RM} {xs:List UInt8} {buf:AV} (hB:jH TB T8 n0 M b xs) (ho:Ow BY M n0 T8 buf xs) (he:xs=[]→buf=aF) : ∀ c∈aH buf,∀ l e f,M.heap c≠some (.row l false e f):=by
 intro c hc l e f hh
 by_cases hx:xs=[]
 ·rw[he hx] at hc; simp[aH] at hc
 ·obtain⟨d,rfl,_,h3⟩:=TT (Own.mono ho (Nat.zero_le _)) (List.length_pos_iff.2 hx)
  simp only[aH,List.mem_singleton] at hc
  subst hc
  rw[h3] at hh
  cases hh
theorem jH.keep {TB T8 n0 b:Nat} {M M' : RM} {xs:List UInt8} (hB:jH TB T8 n0 M b xs) (hk:ae [] M M') : jH TB T8 n0 M' b xs:=by
 obtain⟨addr,buf,hh,ha,ho,he⟩:=hB.row
 have:=hB.hn
 have:=hB.lt
 exact⟨hB.lt,Nat.le_trans hB.hn hk.next,addr,buf,hk.ax hh (by omega) (by simp),ha,Own.keep ho hk (by simp),he⟩
theorem DN.keep {n0 b:Nat} {M0 M M' : RM} (h0:ae [] M0 M) (h:DN n0 b M M') (hn:M0.next≤n0) (hb:M0.next≤b) : ae [] M0 M' :=
 ⟨h.base.trans h0.base,Nat.le_trans h0.next h.next,fun c h1 _=>(h.heap c (by omega) (by omega)).trans (h0.heap c h1 (by simp))⟩
def AU (TB T8:Nat) (c:ak) : Prop:=∀ {n0:Nat} {M:RM} {b:Nat} {xs:List UInt8} {x:UInt8} {Q:aj},jH TB T8 n0 M b xs→xs.length + 1≤140737488355328 →
 (∀ M',jH TB T8 n0 M' b (xs++[x])→DN n0 b M M'→Q (.sc .nilIface) M')→c [.ptr b 0,By x] M Q
theorem FU {TB T8:Nat} {c:ak} (hc:yN TB c) : AU TB T8 fun args M Q=>∃ a0 a1,args=[a0,a1]∧eD c T8 a0 a1 M Q:=by
 intro n0 M b xs x Q hB hl hQ
 obtain⟨addr,buf,hh,ha,ho,he⟩:=hB.row
 refine⟨_,_,rfl, ?_⟩
 unfold eD
 refine hc hh ha ho.one fun M1 h1 hnx hbs hot=>?_
 have hbuf:=hB.buf ho he
 have hlt:=hB.lt
 have hn:=hB.hn
 have ho1:Ow BY M1 n0 T8 buf xs:=Own.same ho hnx (fun c hc=>hot c (by have:=ho.blk c hc; omega)) hbs
 simp only[go_sem,RM.cell_of h1]
 rw[jV (x:=By x) (size:=1) rfl rfl rfl]
 simp only[aG]
 refine oP (E:=BY) (a:=x) ho1 (by omega) (Nat.le_refl _) (by omega) hl fun v' M2 h2 k2 hnx2 hv=>?_
 have hb2:b ∉ aH buf:=fun hm=>by have:=ho.blk b hm; omega
 have hh2:=k2.ax h1 (by omega) hb2
 simp only[go_sem,RM.jX hh2]
 rw[Own.cells h2,gU (by simp) (by simp) (by simp[Own.one h2])]
 simp only[go_sem]
 have hne:∀ c∈aH v',c≠b:=fun c hm=>by have:=h2.blk c hm; omega
 refine hQ _ ⟨hlt,by show n0≤M2.next; omega,.ptr b 0,v',RM.kN _ _,.inr rfl,Own.same h2 rfl (fun c hm=>by simp[go_sem,hne c hm]) rfl,by simp⟩ ⟨?_, ?_,fun c h3 h4=>?_,fun c l e f h3 h4 h5=>?_⟩
 ·exact k2.base.trans hbs
 ·show M.next≤M2.next
  omega
 ·simp only[go_sem,if_neg h4]
  rw[k2.heap c (by omega) (fun hm=>by have:=ho.blk c hm; omega),hot c h4]
 ·simp only[go_sem,if_neg h4]
  rw[k2.heap c (by omega) (fun hm=>hbuf c hm l e f h5),hot c h4,h5]
def vF (TB T8:Nat) (c:ak) : Prop:=∀ {n0:Nat} {M:RM} {b:Nat} {xs s:List UInt8} {Q:aj},jH TB T8 n0 M b xs→xs.length + s.length≤140737488355328 →
 (∀ M',jH TB T8 n0 M' b (xs++s)→DN n0 b M M'→Q (.tup [N .i64 s.length,.sc .nilIface]) M')→c [.ptr b 0,St s] M Q
theorem D8 {TB T8:Nat} {c:ak} (hc:yN TB c) : vF TB T8 fun args M Q=>∃ a0 a1,args=[a0,a1]∧dV c T8 a0 a1 M Q:=by
 intro n0 M b xs s Q hB hl hQ
 obtain⟨addr,buf,hh,ha,ho,he⟩:=hB.row
 refine⟨_,_,rfl, ?_⟩
 unfold dV
 refine hc hh ha ho.one fun M1 h1 hnx hbs hot=>?_
 have hbuf:=hB.buf ho he
 have hlt:=hB.lt
 have hn:=hB.hn
 have ho1:Ow BY M1 n0 T8 buf xs:=Own.same ho hnx (fun c hc=>hot c (by have:=ho.blk c hc; omega)) hbs
 simp only[go_sem,RM.cell_of h1]
 have hnew:nN M1 1 [N .u8 0] false (St s)=some (s.length,BY.row s):=by
  simp only[nN,rU,if_true]
 by_cases hne0:xs++s=[]
 ·obtain⟨rfl,rfl⟩:=List.append_eq_nil_iff.1 hne0
  have hb0:=he rfl
  subst hb0
  refine⟨0,[],hnew,by omega,by omega,aF,M1,by simp[sw], ?_⟩
  simp only[go_sem,RM.jX h1]
  rw[gU (by simp) (by simp) (by simp[oneCell])]
  simp only[go_sem]
  refine hQ _ ⟨hlt,by show n0≤M1.next; omega,.ptr b 0,aF,by simp[go_sem],.inr rfl,.nil,fun _=>rfl⟩ ⟨hbs,by show M.next≤M1.next; omega,fun c h3 h4=>?_,fun c l e f h3 h4 h5=>?_⟩
  ·simp only[go_sem,if_neg h4]
   exact hot c h4
  ·simp only[go_sem,if_neg h4]
   rw[hot c h4,h5]
 refine Du ho1 (by omega) (Nat.le_refl _) hnew (by rw[BY.fU]; rfl) (BY.kZ s) (by omega) (by omega) fun v' M2 h2 k2 hnx2 hv=>?_
 rw[← BY.sW] at h2
 have h2:Ow BY M2 n0 T8 v' (xs++s):=by
  show Own M2 n0 T8 1 v' (BY.row (xs++s)) (xs++s).length
  rw[List.length_append]; exact h2
 have hb2:b ∉ aH buf:=fun hm=>by have:=ho.blk b hm; omega
 have hh2:=k2.ax h1 (by omega) hb2
 simp only[go_sem,RM.jX hh2]
 rw[Own.cells h2,gU (by simp) (by simp) (by simp[Own.one h2])]
 simp only[go_sem]
 have hne:∀ c∈aH v',c≠b:=fun c hm=>by have:=h2.blk c hm; omega
 refine hQ _ ⟨hlt,by show n0≤M2.next; omega,.ptr b 0,v',RM.kN _ _,.inr rfl,Own.same h2 rfl (fun c hm=>by simp[go_sem,hne c hm]) rfl,fun e=>absurd e hne0⟩ ⟨?_, ?_,fun c h3 h4=>?_,fun c l e f h3 h4 h5=>?_⟩
 ·exact k2.base.trans hbs
 ·show M.next≤M2.next
  omega
 ·simp only[go_sem,if_neg h4]
  rw[k2.heap c (by omega) (fun hm=>by have:=ho.blk c hm; omega),hot c h4]
 ·simp only[go_sem,if_neg h4]
  rw[k2.heap c (by omega) (fun hm=>hbuf c hm l e f h5),hot c h4,h5]
def pO (v:List UInt8) : Bool:=!fP [34] v
def mq (f:List UInt8→List UInt8) (p:gV) : Bool:=!(!gT f p.1 || decide (p.2.length=0) || p.2.any pO)
def mi (f:List UInt8→List UInt8) (L:Ln) : Bool:=!((L.g != []) && !gT f L.g || !gT f L.n || !fP [] L.v) && L.ps.all (mq f)
structure LB (N:Nat) (L:Ln) : Prop where
 g:L.g.length≤N
 n:L.n.length≤N
 v:L.v.length≤N
 ps:L.ps.length≤N
 pn:∀ p∈L.ps,p.1.length≤N
 pl:∀ p∈L.ps,p.2.length≤N
 pv:∀ p∈L.ps,∀ v∈p.2,v.length≤N
theorem Ir {M:RM} {v:AV} {ps:List gV} {S:Nat→Prop} (h:bE jd M v ps S) {i:Nat} (hi:i<ps.length) : ∃ pv,bE jm.jQ M pv ps[i].2 S∧∀ K:AV→Prop,(aW v (N .i64 (i:Int)) 2 fun p=>aK M p 2 K)=K (.agg [St ps[i].1,pv]):=by
 obtain⟨b,o,cs,hb,hbm,hidx,hld,hrel⟩:=bE.at h 2 (i:Int) hi
 obtain⟨ds,rfl,pv,rfl,hpv⟩:=hrel
 refine⟨pv,hpv,fun K=>?_⟩
 rw[hidx,rP,hld]
 exact propext ⟨fun⟨_,e,hk⟩=>by cases e; exact hk,fun hk=>⟨_,rfl,hk⟩⟩
theorem Lp {M:RM} {v:AV} {xs:List (List UInt8)} (h:Sl jm M v xs) {i:Nat} (hi:i<xs.length) {K:AV→Prop} : (aW v (N .i64 (i:Int)) 1 fun p=>ah M p K)=K (St xs[i]):=by
 obtain⟨b,o,_,_,hidx,hc⟩:=Sl.O5 (E:=jm) h (i:Int) hi
 rw[hidx,bM,hc _ rfl]
 simp
section
variable {B:Base}
def VK (B:Base) (c:ak) : Prop:=∀ {M:RM} {s:List UInt8} {Q:aj},M.base=B→s.length≤1000000000→(∀ M',ae [] M M'→Q (Bo (pO s)) M')→c [St s] M Q
theorem Qa {cv:ak} (hv:nG B cv) : VK B fun args M Q=>∃ a0,args=[a0]∧qw cv a0 M Q:=by
 intro M s Q hM hl hQ
 refine⟨_,rfl, ?_⟩
 unfold qw
 refine hv hM hl fun M' k=>?_
 rw[bU]
 exact hQ M' k
def Ib (B:Base) (n:Nat) (c:ak) : Prop:=∀ {M:RM} {v:AV} {xs:List (List UInt8)} {Q:aj},M.base=B→Sl jm M v xs→xs.length≤1000000000→(∀ x∈xs,x.length≤1000000000)→(∀ M',ae [] M M'→Q (Bo (xs.any pO)) M')→c [v,.fn (.func n) [] []] M Q
def IP (B:Base) (n:Nat) (c:ak) : Prop:=∀ {M:RM} {v:AV} {xs:List (List UInt8)} {Q:aj},M.base=B→Sl jm M v xs→xs.length≤1000000000→(∀ x∈xs,x.length≤1000000000)→(∀ M' (k:Int),ae [] M M'→decide (k ≥ 0)=xs.any pO→Q (N .i64 k) M')→c [v,.fn (.func n) [] []] M Q
theorem J7 {n:Nat} {cv:FuncId→ak} (hv:VK B (cv n)) : IP B n fun args M Q=>∃ a0 a1,args=[a0,a1]∧mU cv a0 a1 M Q:=by
 intro M v xs Q hM hs hl hxl hQ
 refine⟨_,_,rfl, ?_⟩
 unfold mU
 rw[dC.len hs]
 refine aP (fun m ys M'=>∃ i:Nat,m=xs.length - i∧ys=[N .i64 (i:Int)]∧i≤xs.length∧ae [] M M'∧(xs.drop i).any pO=xs.any pO) xs.length ⟨0,rfl,rfl,Nat.zero_le _,ae.refl _ _,rfl⟩ ?_
 rintro next m ys M1 hnext ⟨i,rfl,rfl,hi,k1,hh⟩
 dsimp only[ag]
 rw[kJ]
 refine aY (fun hlt=>?_) (fun hge=>?_)
 ·have hlt:i<xs.length:=of_decide_eq_true hlt
  rw[Lp (dC.keep hs k1 (by simp)) hlt,Vt]
  rw[List.drop_eq_getElem_cons hlt,List.any_cons] at hh
  refine hv (k1.base.trans hM) (hxl _ (List.getElem_mem hlt)) fun M2 k2=>?_
  refine aY (fun hb=>?_) (fun hb=>?_)
  ·rw[hb,Bool.true_or] at hh
   exact hQ M2 _ (k1.trans k2) (by rw[← hh]; exact decide_eq_true (by omega))
  ·rw[hb,Bool.false_or] at hh
   rw[add1 (by omega)]
   exact hnext _ _ _ (by omega) ⟨i + 1,rfl,rfl,by omega,k1.trans k2,hh⟩
 ·have he:i=xs.length:=by
   have:¬ i<xs.length:=of_decide_eq_false hge
   omega
  subst he
  rw[List.drop_length] at hh
  exact hQ M1 _ k1 (by rw[← hh]; rfl)
theorem EE {n:Nat} {ci:ak} (hi:IP B n ci) : Ib B n fun args M Q=>∃ a0 a1,args=[a0,a1]∧lh ci a0 a1 M Q:=by
 intro M v xs Q hM hs hl hxl hQ
 refine⟨_,_,rfl, ?_⟩
 unfold lh
 refine hi hM hs hl hxl fun M' k k' he=>?_
 rw[fM,he]
 exact hQ M' k'
def ME (B:Base) (f:List UInt8→List UInt8) (c:ak) : Prop:=∀ {M:RM} {cs:List AV} {L:Ln} {k:Int} {S:Nat→Prop} {Q:aj},M.base=B→iC.rel M cs (L,k) S→LB 1000000000 L→(∀ M',ae [] M M'→Q (Bo (mi f L)) M')→c [.agg cs] M Q
theorem BU {f:List UInt8→List UInt8} {TL TP n:Nat} {cn cv cc:ak} (hn:rT B f cn) (hv:nG B cv) (hc:Ib B n cc) : ME B f fun args M Q=>∃ a0,args=[a0]∧uQ TL cn cv TP cc n a0 M Q:=by
 intro M cs L k S Q hM hrel hb hQ
 obtain⟨v,rfl,hps⟩:=hrel
 simp only at hps
 refine⟨_,rfl, ?_⟩
 unfold uQ
 simp only[dR]
 have hall:([St L.g,St L.n,v,St L.v,N .i64 k] : List AV).all oneCell=true:=by simp[eZ,hps.one]
 rw[gX hall (by simp),aG]
 have k1:ae [] M (M.push (.row [St L.g,St L.n,v,St L.v,N .i64 k] false TL 0)):=(ae.refl _ _).push _
 have h1:(M.push (.row [St L.g,St L.n,v,St L.v,N .i64 k] false TL 0)).heap M.next=some (.row [St L.g,St L.n,v,St L.v,N .i64 k] false TL 0):=RM.aS _
 have n1:(M.push (.row [St L.g,St L.n,v,St L.v,N .i64 k] false TL 0)).next=M.next + 1:=bG _
 generalize M.push (.row [St L.g,St L.n,v,St L.v,N .i64 k] false TL 0)=M1 at *
 have hk:∀ {M' : RM},ae [] M1 M'→M'.base=B∧M'.heap M.next=some (.row [St L.g,St L.n,v,St L.v,N .i64 k] false TL 0):=fun k'=>⟨(k'.base.trans k1.base).trans hM,k'.ax h1 (by omega) (by simp)⟩
 rw[aQ,ay h1 rfl,ja]
 refine Qh (p:=!gT f L.g) (P:=fun M'=>ae [] M1 M') (ae.refl _ _) (fun _ kk hkk=>?_) (fun M2 k2=>?_)
 ·rw[aQ,ay h1 rfl]
  refine hn (k1.base.trans hM) hb.g fun M' k'=>?_
  rw[bU]
  exact hkk _ k'
 refine PP (p:=!gT f L.n) (P:=fun M'=>ae [] M1 M') k2 (fun _ kk hkk=>?_) (fun M3 k3=>?_)
 ·rw[aQ,ay (hk k2).2 rfl]
  refine hn (hk k2).1 hb.n fun M' k'=>?_
  rw[bU]
  exact hkk _ (k2.trans k')
 refine PP (p:=!fP [] L.v) (P:=fun M'=>ae [] M1 M') k3 (fun _ kk hkk=>?_) (fun M4 k4=>?_)
 ·rw[aQ,ay (hk k3).2 rfl]
  refine hv (hk k3).1 hb.v fun M' k'=>?_
  rw[bU]
  exact hkk _ (k3.trans k')
 unfold mi at hQ
 refine aY (fun hcnd=>?_) (fun hcnd=>?_)
 ·rw[hcnd,Bool.not_true,Bool.false_and] at hQ
  exact hQ _ (k1.trans k4)
 rw[hcnd,Bool.not_false,Bool.true_and] at hQ
 have U1:bE jd M4 v L.ps S:=(hps.keep k1 (by simp)).keep k4 (by simp)
 rw[aQ,ay (hk k4).2 rfl,U1.len]
 refine aP (fun m ys M'=>∃ i:Nat,m=L.ps.length - i∧ys=[N .i64 (i:Int)]∧i≤L.ps.length∧ae [] M1 M'∧(L.ps.drop i).all (mq f)=L.ps.all (mq f)) L.ps.length ⟨0,rfl,rfl,Nat.zero_le _,k4,rfl⟩ ?_
 rintro next m ys M5 hnext ⟨i,rfl,rfl,hi,k5,hh⟩
 dsimp only[ag]
 rw[kJ]
 have hpl:=hb.ps
 refine aY (fun hlt=>?_) (fun hge=>?_)
 ·have hlt:i<L.ps.length:=of_decide_eq_true hlt
  have Ni:bE jd M5 v L.ps S:=(hps.keep k1 (by simp)).keep k5 (by simp)
  obtain⟨pv,hpv,hall⟩:=Ir Ni hlt
  have hmem:=List.getElem_mem hlt
  have b1:=hb.pn _ hmem
  have b2:=hb.pl _ hmem
  have b3:=hb.pv _ hmem
  rw[List.drop_eq_getElem_cons hlt,List.all_cons] at hh
  generalize L.ps[i]=p at *
  rw[hall,aG,bN (n:=2) (RM.aS _) rfl rfl (by simp[eZ,AV.cells,hpv.one])]
  have k6:ae [] M5 ((M5.push (.row [St [],aF] false TP 0)).put M5.next (.row (AV.agg [St p.1,pv]).cells false TP 0)):=((ae.refl _ _).push _).put _ (.inl (Nat.le_refl _))
  have h6:((M5.push (.row [St [],aF] false TP 0)).put M5.next (.row (AV.agg [St p.1,pv]).cells false TP 0)).heap M5.next=some (.row [St p.1,pv] false TP 0):=aA _
  have n6:((M5.push (.row [St [],aF] false TP 0)).put M5.next (.row (AV.agg [St p.1,pv]).cells false TP 0)).next=M5.next + 1:=rfl
  generalize (M5.push (.row [St [],aF] false TP 0)).put M5.next (.row (AV.agg [St p.1,pv]).cells false TP 0)=M6 at *
  have k56:=k5.trans k6
  have Q7:bE jm.jQ M6 pv p.2 S:=hpv.keep k6 (by simp)
  rw[aQ,ay h6 rfl]
  refine hn (hk k56).1 b1 fun M7 k7=>?_
  rw[bU]
  have h7:=k7.ax h6 (by omega) (by simp)
  have XN:=Q7.keep k7 (by simp)
  have k57:=k56.trans k7
  refine mZ (p:=decide (p.2.length=0)) (fun _ kk hkk=>?_) ?_
  ·rw[aQ,ay h7 rfl,XN.len,show(N .i64 (0:Int))=N .i64 ((0:Nat) : Int) from rfl,aaq]
   exact hkk
  refine PP (p:=p.2.any pO) (P:=fun M'=>ae [] M1 M') k57 (fun _ kk hkk=>?_) (fun M8 k8=>?_)
  ·rw[aQ,ay h7 rfl]
   refine hc (hk k57).1 XN.sl b2 b3 fun M' k'=>?_
   exact hkk _ (k57.trans k')
  refine aY (fun hc=>?_) (fun hc=>?_)
  ·have:mq f p=false:=by unfold mq; rw[hc]; rfl
   rw[this,Bool.false_and] at hh
   rw[← hh] at hQ
   exact hQ _ (k1.trans k8)
  ·have:mq f p=true:=by unfold mq; rw[hc]; rfl
   rw[this,Bool.true_and] at hh
   rw[add1 (by omega)]
   exact hnext _ _ _ (by omega) ⟨i + 1,rfl,rfl,by omega,k8,hh⟩
 ·have he:i=L.ps.length:=by
   have:¬ i<L.ps.length:=of_decide_eq_false hge
   omega
  subst he
  rw[List.drop_length] at hh
  rw[← hh] at hQ
  exact hQ _ (k1.trans k5)
end
def qv (v:List UInt8) : List UInt8:=if Co v then[34]++v++[34] else v
def tailV (vs:List (List UInt8)) : List UInt8:=vs.flatMap fun v=>44 :: qv v
def gI:List (List UInt8)→List UInt8
 | []=>[]
 | v :: vs=>qv v++tailV vs
def fe (p:gV) : List UInt8:=[59]++p.1.map gp++[61]++gI p.2
def lm (L:Ln) : List UInt8:=if L.g=[] then[] else L.g++[46]
def qW (L:Ln) : List UInt8:=L.n.map gp++L.ps.flatMap fe
def ed (L:Ln) : List UInt8:=lm L++qW L++[58]++L.v
def Aq (j:Nat) (vs:List (List UInt8)) : List UInt8:=if j=0 then gI vs else tailV (vs.drop j)
theorem QL {vs:List (List UInt8)} {j:Nat} (hj:j<vs.length) : Aq j vs=(if 0<j then[44] else[])++(qv vs[j]++Aq (j + 1) vs):=by
 unfold Aq
 rw[if_neg (by omega:¬ j + 1=0)]
 by_cases h:j=0
 ·subst h
  rw[if_pos rfl,if_neg (by omega)]
  cases vs with
  | nil=>simp at hj
  | cons v vs=>simp[gI]
 ·rw[if_neg h,if_pos (by omega),List.drop_eq_getElem_cons hj]
  unfold tailV
  rw[List.flatMap_cons]
  rfl
theorem RG (vs:List (List UInt8)) : Aq vs.length vs=[]:=by
 unfold Aq
 cases vs with
 | nil=>rfl
 | cons v vs=>rw[if_neg (by simp),List.drop_length]; rfl
theorem F9 {α:Type} {a b c:List α} (h:a++b=c) : a.length + b.length=c.length:=by rw[← h,List.length_append]
theorem bE.old {α:Type} {R:jL α} {M A C:RM} {v:AV} {xs:List α} {S:Nat→Prop} (h:bE R A v xs S) (hS:∀ b,S b→b<M.next) (kA:ae [] M A) (kC:ae [] M C) (n:A.next≤C.next) : bE R C v xs S:=by
 have hk:ae ((List.range A.next).filter fun c=>decide (M.next≤c)) A C:=⟨kC.base.trans kA.base.symm,n,fun c h1 h2=>by
  have h3:c<M.next:=by
   rcases Nat.lt_or_ge c M.next with h | h
   ·exact h
   ·exact absurd (List.mem_filter.2 ⟨List.mem_range.2 h1,decide_eq_true h⟩) h2
  rw[kC.heap c h3 (by simp),kA.heap c h3 (by simp)]⟩
 refine h.keep hk fun b hb hs=>?_
 have h1:=hS b hs
 have h2:=of_decide_eq_true (List.mem_filter.1 hb).2
 omega
structure yF (TB T8 TL:Nat) (M:RM) (cells:List AV) (M' : RM) (xs:List UInt8) : Prop where
 bld:jH TB T8 (M.next + 2) M' (M.next + 1) xs
 keep:ae [] M M'
 row:M'.heap M.next=some (.row cells false TL 0)
 nx:M.next + 2≤M'.next
section
variable {TB T8 TL:Nat} {M M' M2:RM} {cells:List AV} {xs ys:List UInt8}
theorem yF.more (h:yF TB T8 TL M cells M' xs) (k:ae [] M' M2) : yF TB T8 TL M cells M2 xs :=
 ⟨h.bld.keep k,h.keep.trans k,k.ax h.row (by have:=h.nx; omega) (by simp),Nat.le_trans h.nx k.next⟩
theorem yF.write (h:yF TB T8 TL M cells M' xs) (hb:jH TB T8 (M.next + 2) M2 (M.next + 1) ys) (k:DN (M.next + 2) (M.next + 1) M' M2) : yF TB T8 TL M cells M2 ys :=
 ⟨hb,DN.keep h.keep k (by omega) (by omega),k.shut _ _ _ _ (by have:=h.nx; omega) (by omega) h.row,Nat.le_trans h.nx k.next⟩
end
section
variable {B:Base}
def PD (B:Base) (c:ak) : Prop:=∀ {M:RM} {cs:List AV} {L:Ln} {k:Int} {S:Nat→Prop} {Q:aj},M.base=B→iC.rel M cs (L,k) S→LB 1000000000 L→(ed L).length≤140737488355328→(∀ M',ae [] M M'→Q (St (ed L)) M')→c [.agg cs] M Q
theorem Ud {TL TB TP T8:Nat} {cw cg cb ca cs:ak} (hw:vF TB T8 cw) (hg:Nn cg) (hb:AU TB T8 cb) (ha:VP B ca) (hs:uq TB T8 cs) : PD B fun args M Q=>∃ a0,args=[a0]∧uS TL TB cw cg TP cb ca cs a0 M Q:=by
 intro M cs L k S Q hM hrel hB hlen hQ
 obtain⟨v,rfl,hps⟩:=hrel
 simp only at hps
 refine⟨_,rfl, ?_⟩
 unfold uS
 simp only[dK]
 have hall:([St L.g,St L.n,v,St L.v,N .i64 k] : List AV).all oneCell=true:=by simp[eZ,hps.one]
 rw[gX hall (by simp),aG,aG]
 have st0:yF TB T8 TL M [St L.g,St L.n,v,St L.v,N .i64 k] ((M.push (.row [St L.g,St L.n,v,St L.v,N .i64 k] false TL 0)).push (.row [.sc (.pointer none),aF] false TB 0)) [] :=
  ⟨jH.new (RM.aS _) (by omega) (by rw[bG,bG]; omega),((ae.refl _ _).push _).push _,pU (RM.aS _) (by rw[bG]; omega),by rw[bG,bG]; omega⟩
 rw[bG]
 generalize (M.push (.row [St L.g,St L.n,v,St L.v,N .i64 k] false TL 0)).push (.row [.sc (.pointer none),aF] false TB 0)=M1 at *
 have hbase:∀ {M' : RM},ae [] M M'→M'.base=B:=fun h=>h.base.trans hM
 have hW:(ed L).length=(lm L).length + ((L.n.map gp).length + (L.ps.flatMap fe).length) + 1 + L.v.length:=by
  unfold ed qW; simp only[List.length_append,List.length_cons,List.length_nil]
 refine bO (fun _ M'=>yF TB T8 TL M [St L.g,St L.n,v,St L.v,N .i64 k] M' (lm L)) ?_ ?_
 rotate_left
 ·intro J hJ
  rw[aQ,ay st0.row rfl,ja]
  refine aY (fun hc=>?_) (fun hc=>?_)
  ·have hne:L.g≠[]:=by simpa using hc
   have hgl:=hB.g
   have hgj:lm L=L.g++[46]:=if_neg hne
   rw[aQ,ay st0.row rfl,bI]
   refine⟨by simp; omega, ?_⟩
   refine hw st0.bld (by simp; omega) fun M2 b2 k2=>?_
   refine hJ _ _ ?_
   rw[hgj]
   exact st0.write b2 k2
  ·have he:L.g=[]:=by simpa using hc
   refine hJ _ _ ?_
   have hgj:lm L=[]:=if_pos he
   rw[hgj]
   exact st0
 clear st0
 clear M1
 rintro _ M2 st2
 rw[aQ,ay st2.row rfl]
 refine hg hB.n fun M3 k3=>?_
 have st3:=st2.more k3
 refine hw st3.bld (by omega) fun M4 b4 k4=>?_
 have st4:=st3.write b4 k4
 clear st2 st3 b4 k4 k3
 have U1:bE jd M4 v L.ps S:=hps.keep st4.keep (by simp)
 rw[aQ,ay st4.row rfl,U1.len]
 generalize hWd:lm L++qW L=W
 have hWl:W.length=(lm L).length + ((L.n.map gp).length + (L.ps.flatMap fe).length):=by
  rw[← hWd]; unfold qW; simp only[List.length_append]
 have aax:=hB.ps
 refine aP (fun m ys M5=>∃ (i:Nat) (xs:List UInt8),m=L.ps.length - i∧ys=[N .i64 (i:Int)]∧i≤L.ps.length∧yF TB T8 TL M [St L.g,St L.n,v,St L.v,N .i64 k] M5 xs∧xs++(L.ps.drop i).flatMap fe=W) L.ps.length
  ⟨0,_,rfl,rfl,Nat.zero_le _,st4,by rw[← hWd]; unfold qW; rw[List.drop_zero,List.append_assoc]⟩ ?_
 rintro next m ys M5 hnext ⟨i,xs,rfl,rfl,hi,st5,hx⟩
 dsimp only[ag]
 rw[kJ]
 refine aY (fun hlt=>?_) (fun hge=>?_)
 ·have hlt:i<L.ps.length:=of_decide_eq_true hlt
  have Ni:bE jd M5 v L.ps (fun b=>S b∧b<M.next):=hps.lt.keep st5.keep (by simp)
  obtain⟨pv,hpv,hall⟩:=Ir Ni hlt
  have hmem:=List.getElem_mem hlt
  have b1:=hB.pn _ hmem
  have b2:=hB.pl _ hmem
  have b3:=hB.pv _ hmem
  rw[List.drop_eq_getElem_cons hlt,List.flatMap_cons] at hx
  generalize L.ps[i]=p at *
  rw[hall,aG,bN (n:=2) (RM.aS _) rfl rfl (by simp[eZ,AV.cells,hpv.one])]
  have k6:ae [] M5 ((M5.push (.row [St [],aF] false TP 0)).put M5.next (.row (AV.agg [St p.1,pv]).cells false TP 0)):=((ae.refl _ _).push _).put _ (.inl (Nat.le_refl _))
  have h6:((M5.push (.row [St [],aF] false TP 0)).put M5.next (.row (AV.agg [St p.1,pv]).cells false TP 0)).heap M5.next=some (.row [St p.1,pv] false TP 0):=aA _
  have n6:((M5.push (.row [St [],aF] false TP 0)).put M5.next (.row (AV.agg [St p.1,pv]).cells false TP 0)).next=M5.next + 1:=rfl
  generalize (M5.push (.row [St [],aF] false TP 0)).put M5.next (.row (AV.agg [St p.1,pv]).cells false TP 0)=M6 at *
  have st6:=st5.more k6
  have nx5:=st5.nx
  have hpj:fe p=[59]++p.1.map gp++[61]++gI p.2:=rfl
  have hxl:=F9 hx
  rw[hpj] at hxl
  simp only[List.length_append,List.length_cons,List.length_nil] at hxl
  rw[aQ,ay h6 rfl]
  refine hg b1 fun M7 k7=>?_
  have st7:=st6.more k7
  have h7:=k7.ax h6 (by omega) (by simp)
  have n7:=k7.next
  rw[bI]
  refine⟨by simp; omega, ?_⟩
  rw[bI]
  refine⟨by simp; omega, ?_⟩
  refine hw st7.bld (by simp only[List.length_append,List.length_cons,List.length_nil]; omega) fun M8 b8 k8=>?_
  have st8:=st7.write b8 k8
  have h8:=k8.shut _ _ _ _ (by omega) (by omega) h7
  have Yy:bE jm.jQ M8 pv p.2 (fun b=>S b∧b<M.next):=bE.old hpv (fun b h=>h.2) st5.keep st8.keep (by have:=k6.next; have:=k8.next; omega)
  rw[aQ,ay h8 rfl,Yy.len]
  generalize hrest:(L.ps.drop (i + 1)).flatMap fe=rest at *
  refine aP (fun m ys M9=>∃ (j:Nat) (zs:List UInt8),m=p.2.length - j∧ys=[N .i64 (j:Int)]∧j≤p.2.length∧yF TB T8 TL M [St L.g,St L.n,v,St L.v,N .i64 k] M9 zs∧M8.next≤M9.next∧zs++(Aq j p.2++rest)=W) p.2.length
   ⟨0,_,rfl,rfl,Nat.zero_le _,st8,Nat.le_refl _, ?_⟩ ?_
  ·rw[← hx,hpj]
   simp only[List.append_assoc,Aq,if_true]
  rintro AP m ys M9 jU ⟨j,zs,rfl,rfl,hj,st9,n9,hz⟩
  dsimp only[ag]
  rw[kJ]
  refine aY (fun hlt2=>?_) (fun EY=>?_)
  ·have hlt2:j<p.2.length:=of_decide_eq_true hlt2
   have Vs:bE jm.jQ M9 pv p.2 (fun b=>S b∧b<M.next):=bE.old Yy (fun b h=>h.2) st8.keep st9.keep n9
   rw[QL hlt2] at hz
   have b4:=b3 _ (List.getElem_mem hlt2)
   have hzl:=F9 hz
   simp only[List.length_append] at hzl
   refine bO (fun _ M'=>yF TB T8 TL M [St L.g,St L.n,v,St L.v,N .i64 k] M' (zs++((if 0<j then[44] else[])++qv p.2[j]))∧M9.next≤M'.next) ?_ ?_
   ·rintro _ Ma ⟨sta,na⟩
    rw[add1 (by omega)]
    refine jU _ _ _ (by omega) ⟨j + 1,_,rfl,rfl,by omega,sta,by omega, ?_⟩
    rw[← hz]
    simp only[List.append_assoc]
   intro J hJ
   rw[Lp Vs.sl hlt2]
   generalize p.2[j]=x at *
   refine bO (fun _ M'=>yF TB T8 TL M [St L.g,St L.n,v,St L.v,N .i64 k] M' (zs++(if 0<j then[44] else[]))∧M9.next≤M'.next) ?_ ?_
   ·rintro _ Ma ⟨sta,na⟩
    refine bO (fun ys M'=>ys=[St (qv x)]∧yF TB T8 TL M [St L.g,St L.n,v,St L.v,N .i64 k] M' (zs++(if 0<j then[44] else[]))∧M9.next≤M'.next) ?_ ?_
    ·rintro _ Mb ⟨rfl,stb,nb⟩
     dsimp only[ag]
     refine hw stb.bld (by rw[List.length_append]; omega) fun Mc bc kc=>?_
     refine hJ _ _ ⟨?_,Nat.le_trans nb kc.next⟩
     rw[← List.append_assoc]
     exact stb.write bc kc
    intro J2 hJ2
    refine ha (hbase sta.keep) b4 fun Mb kb=>?_
    have stb:=sta.more kb
    have nb:=Nat.le_trans na kb.next
    refine aY (fun hh=>?_) (fun hh=>?_)
    ·rw[bI]
     refine⟨by simp; omega, ?_⟩
     rw[bI]
     refine⟨by simp; omega, ?_⟩
     exact hJ2 _ _ ⟨by rw[qv,if_pos hh],stb,nb⟩
    ·exact hJ2 _ _ ⟨by rw[qv,if_neg (by rw[hh]; simp)],stb,nb⟩
   intro J2 hJ2
   rw[show(N .i64 (0:Int))=N .i64 ((0:Nat) : Int) from rfl,Cv]
   refine aY (fun hh=>?_) (fun hh=>?_)
   ·have hh:0<j:=of_decide_eq_true hh
    rw[if_pos hh] at hzl hJ2
    simp only[List.length_cons,List.length_nil] at hzl
    show cb [.ptr (M.next + 1) 0,By 44] M9 _
    refine hb st9.bld (by omega) fun Mb bb kb=>?_
    refine hJ2 _ _ ⟨?_,kb.next⟩
    exact st9.write bb kb
   ·have hh:¬ 0<j:=of_decide_eq_false hh
    refine hJ2 _ _ ⟨?_,Nat.le_refl _⟩
    rw[if_neg hh,List.append_nil]; exact st9
  ·have he:j=p.2.length:=by
    have:¬ j<p.2.length:=of_decide_eq_false EY
    omega
   subst he
   rw[RG,List.nil_append] at hz
   rw[add1 (by omega)]
   exact hnext _ _ _ (by omega) ⟨i + 1,zs,rfl,rfl,by omega,st9,by rw[hrest]; exact hz⟩
 ·have he:i=L.ps.length:=by
   have:¬ i<L.ps.length:=of_decide_eq_false hge
   omega
  subst he
  rw[List.drop_length,List.flatMap_nil,List.append_nil] at hx
  subst hx
  rw[aQ,ay st5.row rfl]
  refine hs st5.bld (by omega) fun M6 k6=>?_
  have h6:M6.heap M.next=some (.row [St L.g,St L.n,v,St L.v,N .i64 k] false TL 0):=by rw[k6.heap _ (by omega) (by simp)]; exact st5.row
  rw[ay h6 rfl]
  refine⟨rfl, ?_⟩
  rw[bI]
  refine⟨by simp; omega, ?_⟩
  rw[bI]
  refine⟨by simp; omega, ?_⟩
  have kk:ae [] M M6:=⟨k6.base.trans st5.keep.base,Nat.le_trans st5.keep.next k6.next,fun c h1 _=>by rw[k6.heap c (by omega) (by simp)]; exact st5.keep.heap c h1 (by simp)⟩
  have:=hQ M6 kk
  unfold ed at this
  rw[hWd] at this
  exact this
end
def fV (f:List UInt8→List UInt8) (L:Ln) : List UInt8 × Int:=if mi f L then(if 912<(ed L).length then([],2) else(fo 0 (ed L)++[13,10],0)) else([],1)
section
variable {B:Base}
def Gh (B:Base) (F:Ln→List UInt8 × Int) (c:ak) : Prop:=∀ {M:RM} {cs:List AV} {L:Ln} {k:Int} {S:Nat→Prop} {Q:aj},M.base=B→iC.rel M cs (L,k) S→LB 1000000000 L→(ed L).length≤140737488355328→(∀ M',ae [] M M'→Q (.tup [St (F L).1,N .i64 (F L).2]) M')→c [.agg cs] M Q
theorem Rj (s:List UInt8) : (fo 0 s).length≤4 * s.length + 4:=by
 have:=Ga s.length (u:=0) (s:=s) (Nat.le_refl _)
 omega
theorem QE {f:List UInt8→List UInt8} {TL:Nat} {cg cl cf:ak} (hg:ME B f cg) (hl:PD B cl) (hf:Ug B cf) : Gh B (fV f) fun args M Q=>∃ a0,args=[a0]∧su TL cg cl cf a0 M Q:=by
 intro M cs L k S Q hM hrel hB hlen hQ
 refine⟨_,rfl, ?_⟩
 unfold su
 have hsz:cs.length=5:=iC.len hrel
 rw[gX (iC.one hrel) (by omega),aG]
 have k1:ae [] M (M.push (.row cs false TL 0)):=(ae.refl _ _).push _
 have h1:(M.push (.row cs false TL 0)).heap M.next=some (.row cs false TL 0):=RM.aS _
 have n1:(M.push (.row cs false TL 0)).next=M.next + 1:=bG _
 generalize M.push (.row cs false TL 0)=M1 at *
 unfold fV at hQ
 rw[aO (n:=5) h1 hsz]
 refine hg (k1.base.trans hM) (iC.keep hrel k1 (by simp)) hB fun M2 k2=>?_
 have k12:=k1.trans k2
 have h2:=k2.ax h1 (by omega) (by simp)
 rw[bU]
 refine aY (fun hc=>?_) (fun hc=>?_)
 ·have hc:mi f L=false:=by simpa using hc
  rw[if_neg (by rw[hc]; simp)] at hQ
  exact hQ M2 k12
 have hc:mi f L=true:=by simpa using hc
 rw[if_pos hc] at hQ
 rw[aO (n:=5) h2 hsz]
 refine hl (k12.base.trans hM) (iC.keep hrel k12 (by simp)) hB hlen fun M3 k3=>?_
 have k13:=k12.trans k3
 rw[bA,show(N .i64 (912:Int))=N .i64 ((912:Nat) : Int) from rfl,Cv]
 refine aY (fun hc=>?_) (fun hc=>?_)
 ·rw[if_pos (of_decide_eq_true hc)] at hQ
  exact hQ M3 k13
 have hc:=of_decide_eq_false hc
 rw[if_neg (by omega)] at hQ
 refine hf (k13.base.trans hM) (by omega) fun M4 k4=>?_
 rw[bI]
 have:=Rj (ed L)
 exact⟨by simp; omega,hQ M4 (k13.trans k4)⟩
end
end Go.Ab.Vl
namespace Go.Ab.Vl
open Go Go.Ab
theorem jK {α:Type} {p:α→Bool} : ∀ {s:List α},s.dropWhile p=[]→∀ x∈s,p x=true
 | [],_,x,hx=>by cases hx
 | c :: s,h,x,hx=>by
   rw[List.dropWhile_cons] at h
   split at h
   ·rename_i hc
    rcases List.mem_cons.1 hx with rfl | hx
    ·exact hc
    ·exact jK h x hx
   ·cases h
theorem qE {α:Type} {p:α→Bool} : ∀ {s t:List α} {y:α},s.dropWhile p=y :: t→p y=false
 | [],_,_,h=>by cases h
 | c :: s,t,y,h=>by
   rw[List.dropWhile_cons] at h
   split at h
   ·exact qE h
   ·rename_i hc
    cases h; simpa using hc
theorem UE {s:List UInt8} (h:bX s=[]) : ∀ c∈s,dx.contains c=true:=by
 unfold bX Lib.trimS at h
 by_cases hr:s.reverse.dropWhile (dx.contains ·)=[]
 ·exact fun c hc=>jK hr c (by simpa using hc)
 ·exfalso
  obtain⟨y,t,e⟩ : ∃ y t,s.reverse.dropWhile (dx.contains ·)=y :: t:=by
   cases hd:s.reverse.dropWhile (dx.contains ·) with
   | nil=>exact absurd hd hr
   | cons y t=>exact⟨y,t,rfl⟩
  have hy:dx.contains y=false:=qE e
  have h1:Lib.trimLeftS (Lib.trimRightS s dx) dx=[]∨Lib.trimRightS (Lib.trimLeftS s dx) dx=[]:=by
   first | exact .inl h | exact .inr h
  rcases h1 with h1 | h1
  ·have:=jK h1 y (by unfold Lib.trimRightS; rw[e]; simp)
   rw[hy] at this; cases this
  ·unfold Lib.trimRightS at h1
   have h1:=List.reverse_eq_nil_iff.1 h1
   have h2:=jK h1
   unfold Lib.trimLeftS at h2
   by_cases hl:s.dropWhile (dx.contains ·)=[]
   ·have:=jK hl y
    have hm:y∈s:=by
     have:y∈s.reverse.dropWhile (dx.contains ·):=by rw[e]; simp
     simpa using (List.dropWhile_sublist _).subset this
    rw[jK hl y hm] at hy; cases hy
   ·cases hd:s.dropWhile (dx.contains ·) with
    | nil=>exact hl hd
    | cons z u =>
      have h3:=h2 z (by rw[hd]; simp)
      rw[qE hd] at h3; cases h3
theorem jM {s:List UInt8} (h:gT bX s=true) : 1≤s.length∧s.length≤20∧∀ c∈s,dx.contains c=true:=by
 unfold gT at h
 simp only[Bool.and_eq_true,decide_eq_true_eq,beq_iff_eq] at h
 exact⟨h.1.1,h.1.2,UE h.2⟩
theorem jc (c:UInt8) (h:dx.contains c=true) : nI c=true∧nI (gp c)=true∧bW c=c∧bW (gp c)=c∧c.toNat<128∧(gp c).toNat<128∧bZ (gp c)=true∧bZ c=true:=by
 have key:∀ n:Fin 256,dx.contains (UInt8.ofNat n.val)=true→nI (UInt8.ofNat n.val)=true∧nI (gp (UInt8.ofNat n.val))=true∧bW (UInt8.ofNat n.val)=UInt8.ofNat n.val∧bW (gp (UInt8.ofNat n.val))=UInt8.ofNat n.val∧(UInt8.ofNat n.val).toNat<128∧(gp (UInt8.ofNat n.val)).toNat<128∧bZ (gp (UInt8.ofNat n.val))=true∧bZ (UInt8.ofNat n.val)=true:=by decide +kernel
 have:=key ⟨c.toNat,c.toNat_lt⟩
 simp only[UInt8.ofNat_toNat] at this
 exact this h
theorem LF {a b:List UInt8} (ha:∀ x∈a,nI x=true) (hb:∀ x,b.head?=some x→nI x=false) : wn (a++b)=a.length:=by
 unfold wn; rw[(ic ha hb).1]
theorem SN {n:List UInt8} (h:∀ c∈n,dx.contains c=true) : ∀ x∈n.map gp,nI x=true:=by
 intro x hx
 obtain⟨c,hc,rfl⟩:=List.mem_map.1 hx
 exact(jc c (h c hc)).2.1
theorem Sv {n:List UInt8} (h:∀ c∈n,dx.contains c=true) : (n.map gp).map bW=n:=by
 rw[List.map_map]
 conv=>rhs; rw[← List.map_id n]
 exact List.map_congr_left fun c hc=>(jc c (h c hc)).2.2.2.1
theorem Uz {n:List UInt8} (h:∀ c∈n,dx.contains c=true) : n.map bW=n:=by
 conv=>rhs; rw[← List.map_id n]
 exact List.map_congr_left fun c hc=>(jc c (h c hc)).2.2.1
theorem IL {s:List UInt8} (h1:1≤s.length) (h2:s.length≤20) : bad s.length=false:=by
 unfold bad
 rw[decide_eq_false (by omega),decide_eq_false (by omega)]; rfl
theorem E9 {v:List UInt8} (h:pO v=false) : (∀ c∈v,bZ c=true∧c≠34)∧eB v=true:=by
 unfold pO fP at h
 simp only[Bool.not_eq_false',Bool.and_eq_true,List.all_eq_true] at h
 refine⟨fun c hc=>?_,h.2⟩
 have:=h.1 c hc
 unfold okB at this
 simp only[Bool.and_eq_true,Bool.not_eq_true',decide_eq_false_iff_not,List.mem_singleton] at this
 exact this
theorem UG {c:UInt8} (h:c∈iR) : c=44∨c=59∨c=58:=by simpa [iR] using h
theorem Pk {v R:List UInt8} (hv:pO v=false) {c:UInt8} {t:List UInt8} (hR:R=c :: t) (hc:c∈iR) : zK (qv v++R)=some (v,R):=by
 obtain⟨hp,_⟩:=E9 hv
 unfold zK qv
 cases hm:Co v with
 | true =>
   have e:[34]++v++[34]++R=34 :: (v++(34 :: R)):=by simp
   rw[if_pos rfl,e]
   have h1:=ic (p:=uK) (a:=v) (b:=34 :: R) (fun x hx=>by
    obtain⟨h1,h2⟩:=hp x hx
    unfold uK; rw[h1,Bool.and_true,bne_iff_ne]; exact h2) (fun x hx=>by
    simp only[List.head?_cons,Option.some.injEq] at hx
    subst hx; rfl)
   rw[if_pos (by rfl)]
   simp only[List.drop_succ_cons,List.drop_zero]
   rw[h1.1,h1.2,if_pos (by rfl)]
   rfl
 | false =>
   have e:(if false=true then[34]++v++[34] else v)=v:=if_neg (by simp)
   rw[e]
   have hnm:∀ x∈v,x ∉ iR:=by
    unfold Co at hm
    rw[List.any_eq_false] at hm
    exact fun x hx=>by simpa using hm x hx
   have h1:=ic (p:=uN) (a:=v) (b:=R) (fun x hx=>by
    obtain⟨h1,h2⟩:=hp x hx
    have h3:=hnm x hx
    simp only[iR,List.mem_cons,List.not_mem_nil,or_false,not_or] at h3
    unfold uN
    rw[h1]
    simp[h2,h3]) (fun x hx=>by
    rw[hR] at hx
    simp only[List.head?_cons,Option.some.injEq] at hx
    subst hx
    exact(GD hc).2.2)
   have h34:aN 34 (v++R)=false:=by
    cases v with
    | nil =>
      rw[hR]
      rcases UG hc with rfl | rfl | rfl <;> rfl
    | cons x v =>
      have:=(hp x (by simp)).2
      simp[aN,this]
   rw[h34,if_neg (by simp),h1.1,h1.2]
theorem Gl:∀ (vs:List (List UInt8)) (v:List UInt8) (acc:List (List UInt8)) (k:Nat) {R:List UInt8} {c:UInt8} {t:List UInt8},pO v=false→(∀ w∈vs,pO w=false)→R=c :: t→(c=59∨c=58) →
  (qv v++(tailV vs++R)).length + 1≤k→tu k (qv v++(tailV vs++R)) acc=some (acc++(v :: vs),R)
 | [],v,acc,k,R,c,t,hv,hvs,hR,hc,hk=>by
   obtain⟨i,rfl⟩ : ∃ i,k=i + 1:=⟨k - 1,by omega⟩
   have hcm:c∈iR:=by rcases hc with rfl | rfl <;> simp[iR]
   have e:tailV []++R=R:=rfl
   rw[e,tu,Pk hv hR hcm]
   have h44:aN 44 R=false:=by rw[hR]; rcases hc with rfl | rfl <;> rfl
   simp only[h44,Bool.false_eq_true,if_false]
 | w :: vs,v,acc,k,R,c,t,hv,hvs,hR,hc,hk=>by
   obtain⟨i,rfl⟩ : ∃ i,k=i + 1:=⟨k - 1,by omega⟩
   have e:tailV (w :: vs)++R=44 :: (qv w++(tailV vs++R)):=by simp[tailV]
   rw[e] at hk ⊢
   rw[tu,Pk hv rfl (by simp[iR])]
   simp only[show aN 44 (44 :: (qv w++(tailV vs++R)))=true from rfl,if_true,List.drop_succ_cons,List.drop_zero]
   rw[Gl vs w (acc++[v]) i (hvs w (by simp)) (fun x hx=>hvs x (by simp[hx])) hR hc (by simp only[List.length_append,List.length_cons] at hk ⊢; omega)]
   simp
theorem Uu {vs:List (List UInt8)} (hne:vs≠[]) (hvs:∀ w∈vs,pO w=false) {R:List UInt8} {c:UInt8} {t:List UInt8} (hR:R=c :: t) (hc:c=59∨c=58) : V3 (gI vs++R)=some (vs,R):=by
 cases vs with
 | nil=>exact absurd rfl hne
 | cons v vs =>
   unfold V3
   have e:gI (v :: vs)++R=qv v++(tailV vs++R):=by simp[gI]
   rw[e,Gl vs v [] _ (hvs v (by simp)) (fun x hx=>hvs x (by simp[hx])) hR hc (Nat.le_refl _)]
   rfl
theorem Cy {p:gV} (h:mq bX p=true) : gT bX p.1=true∧p.2≠[]∧∀ v∈p.2,pO v=false:=by
 unfold mq at h
 simp only[Bool.not_eq_true',Bool.or_eq_false_iff,decide_eq_false_iff_not,Bool.not_eq_false'] at h
 refine⟨h.1.1,fun e=>h.1.2 (by rw[e]; rfl),fun v hv=>?_⟩
 have:=h.2
 rw[List.any_eq_false] at this
 simpa using this v hv
theorem JQ {ps:List gV} {Y:List UInt8} (hY:∃ t,Y=58 :: t) : ∃ c t,ps.flatMap fe++Y=c :: t∧(c=59∨c=58):=by
 cases ps with
 | nil=>obtain⟨t,rfl⟩:=hY; exact⟨58,t,rfl,.inr rfl⟩
 | cons p ps=>exact⟨59,p.1.map gp++61 :: (gI p.2++(ps.flatMap fe++Y)),by simp[fe],.inl rfl⟩
theorem Gm:∀ (ps:List gV) (acc:List gV) (k:Nat) {Y:List UInt8},(∀ p∈ps,mq bX p=true)→(∃ t,Y=58 :: t)→(ps.flatMap fe++Y).length + 1≤k→qR k (ps.flatMap fe++Y) acc=some (acc++ps,Y)
 | [],acc,k,Y,hp,hY,hk=>by
   obtain⟨i,rfl⟩ : ∃ i,k=i + 1:=⟨k - 1,by omega⟩
   obtain⟨t,rfl⟩:=hY
   rw[List.flatMap_nil,List.nil_append,qR]
   rw[if_neg (by show ¬ (aN 59 (58 :: t))=true; simp[aN])]
   simp
 | p :: ps,acc,k,Y,hp,hY,hk=>by
   obtain⟨i,rfl⟩ : ∃ i,k=i + 1:=⟨k - 1,by omega⟩
   obtain⟨hn,hne,hvs⟩:=Cy (hp p (by simp))
   obtain⟨g1,g2,g3⟩:=jM hn
   obtain⟨c,t,hR,hc⟩:=JQ (ps:=ps) hY
   have e:(p :: ps).flatMap fe++Y=59 :: (p.1.map gp++(61 :: (gI p.2++(ps.flatMap fe++Y)))):=by simp[fe]
   rw[e] at hk ⊢
   generalize hRe:ps.flatMap fe++Y=R at *
   have hw:wn (p.1.map gp++(61 :: (gI p.2++R)))=p.1.length:=by
    rw[LF (SN g3) (fun x hx=>by simp only[List.head?_cons,Option.some.injEq] at hx; subst hx; rfl),List.length_map]
   have hd:(p.1.map gp++(61 :: (gI p.2++R))).drop p.1.length=61 :: (gI p.2++R):=by
    rw[List.drop_left' (by simp)]
   have hd2:(p.1.map gp++(61 :: (gI p.2++R))).drop (p.1.length + 1)=gI p.2++R:=by
    rw[← List.drop_drop,hd]; rfl
   have hl:Ba p.1.length (p.1.map gp++(61 :: (gI p.2++R)))=p.1:=by
    unfold Ba
    rw[List.take_left' (by simp),Sv g3]
   rw[qR,if_pos (by rfl)]
   simp only[List.drop_succ_cons,List.drop_zero]
   rw[hw,IL g1 g2,if_neg (by simp),hd,if_pos (by rfl),hd2,Uu hne hvs hR hc,hl]
   simp only
   rw[← hRe,Gm ps _ i (fun q hq=>hp q (by simp[hq])) hY (by rw[hRe]; simp only[List.length_append,List.length_cons] at hk ⊢; omega)]
   simp
theorem CB {L:Ln} (h:mi bX L=true) : (L.g=[]∨gT bX L.g=true)∧gT bX L.n=true∧(∀ c∈L.v,bZ c=true)∧eB L.v=true∧∀ p∈L.ps,mq bX p=true:=by
 unfold mi at h
 simp only[Bool.and_eq_true,Bool.not_eq_true',Bool.or_eq_false_iff,Bool.and_eq_false_iff,Bool.not_eq_false',bne_eq_false_iff_eq,List.all_eq_true] at h
 obtain⟨⟨⟨h1,h2⟩,h3⟩,h4⟩:=h
 unfold fP at h3
 simp only[Bool.and_eq_true,List.all_eq_true] at h3
 exact⟨h1,h2,fun c hc=>by have:=h3.1 c hc; rw[DD] at this; exact this,h3.2,h4⟩
theorem fC {a:List UInt8} (h:∀ c∈a,c.toNat<128) : eB a=true:=by
 have:=qj a [] h
 rw[List.append_nil,qN] at this; exact this
theorem iY {a b:List UInt8} (ha:eB a=true) (hb:eB b=true) : eB (a++b)=true:=GM a.length (Nat.le_refl _) ha hb
theorem RN {v:List UInt8} (h:eB v=true) : eB (qv v)=true:=by
 unfold qv
 split
 ·exact iY (iY (fC (by decide)) h) (fC (by decide))
 ·exact h
theorem Jr:∀ {vs:List (List UInt8)},(∀ v∈vs,eB v=true)→eB (tailV vs)=true
 | [],_=>qN
 | v :: vs,h=>by
   have e:tailV (v :: vs)=[44]++(qv v++tailV vs):=by simp[tailV]
   rw[e]
   exact iY (fC (by decide)) (iY (RN (h v (by simp))) (Jr fun w hw=>h w (by simp[hw])))
theorem RY {vs:List (List UInt8)} (h:∀ v∈vs,eB v=true) : eB (gI vs)=true:=by
 cases vs with
 | nil=>exact qN
 | cons v vs=>exact iY (RN (h v (by simp))) (Jr fun w hw=>h w (by simp[hw]))
theorem LW {n:List UInt8} (h:∀ c∈n,dx.contains c=true) : ∀ x∈n.map gp,x.toNat<128:=by
 intro x hx
 obtain⟨c,hc,rfl⟩:=List.mem_map.1 hx
 exact(jc c (h c hc)).2.2.2.2.2.1
theorem Vf {p:gV} (h:mq bX p=true) : eB (fe p)=true:=by
 obtain⟨hn,_,hvs⟩:=Cy h
 obtain⟨_,_,g3⟩:=jM hn
 unfold fe
 exact iY (iY (iY (fC (by decide)) (fC (LW g3))) (fC (by decide))) (RY fun v hv=>(E9 (hvs v hv)).2)
theorem Md:∀ {ps:List gV},(∀ p∈ps,mq bX p=true)→eB (ps.flatMap fe)=true
 | [],_=>qN
 | p :: ps,h=>by
   rw[List.flatMap_cons]
   exact iY (Vf (h p (by simp))) (Md fun q hq=>h q (by simp[hq]))
theorem UA {L:Ln} (h:mi bX L=true) : eB (ed L)=true:=by
 obtain⟨h1,h2,h3,h4,h5⟩:=CB h
 obtain⟨_,_,g3⟩:=jM h2
 unfold ed qW
 refine iY (iY (iY ?_ (iY (fC (LW g3)) (Md h5))) (fC (by decide))) h4
 unfold lm
 split
 ·exact qN
 ·rename_i hne
  have hg:=h1.resolve_left hne
  exact iY (fC fun c hc=>(jc c ((jM hg).2.2 c hc)).2.2.2.2.1) (fC (by decide))
theorem Vu {L:Ln} (h:mi bX L=true) : Wy (ed L)=some L:=by
 have hf:=UA h
 obtain⟨h1,h2,h3,h4,h5⟩:=CB h
 obtain⟨n1,n2,n3⟩:=jM h2
 unfold Wy
 rw[hf,if_pos rfl]
 have hall:L.v.all bZ=true:=by rw[List.all_eq_true]; exact h3
 obtain⟨c,t,hR,hc⟩:=JQ (ps:=L.ps) (Y:=58 :: L.v) ⟨_,rfl⟩
 have hX:∀ x,(L.ps.flatMap fe++(58 :: L.v)).head?=some x→nI x=false:=by
  intro x hx
  rw[hR] at hx
  simp only[List.head?_cons,Option.some.injEq] at hx
  subst hx
  rcases hc with rfl | rfl <;> rfl
 have hwn:wn (L.n.map gp++(L.ps.flatMap fe++(58 :: L.v)))=L.n.length:=by rw[LF (SN n3) hX,List.length_map]
 have hdr:(L.n.map gp++(L.ps.flatMap fe++(58 :: L.v))).drop L.n.length=L.ps.flatMap fe++(58 :: L.v):=List.drop_left' (by simp)
 have tail:∀ g,GH g (L.n.map gp++(L.ps.flatMap fe++(58 :: L.v)))=some ⟨g,L.n,L.ps,L.v⟩:=by
  intro g
  unfold GH
  rw[hwn,IL n1 n2,if_neg (by simp),hdr,Gm L.ps [] _ h5 ⟨_,rfl⟩ (Nat.le_refl _)]
  simp only[List.nil_append]
  rw[show aN 58 (58 :: L.v)=true from rfl,show(58 :: L.v).drop 1=L.v from rfl,hall,Bool.and_true,if_pos rfl]
  unfold Ba
  rw[List.take_left' (by simp),Sv n3]
 have he:ed L=lm L++(L.n.map gp++(L.ps.flatMap fe++(58 :: L.v))):=by unfold ed qW; simp
 rw[he]
 by_cases hg:L.g=[]
 ·have hgj:lm L=[]:=if_pos hg
  rw[hgj,List.nil_append]
  unfold Kz
  have h46:aN 46 (L.ps.flatMap fe++(58 :: L.v))=false:=by rw[hR]; rcases hc with rfl | rfl <;> rfl
  rw[hwn,hdr,h46,if_neg (by simp)]
  simp only
  rw[tail,← hg]
 ·have hgn:=h1.resolve_left hg
  obtain⟨g1,g2,g3⟩:=jM hgn
  have hgj:lm L=L.g++[46]:=if_neg hg
  rw[hgj,List.append_assoc,List.singleton_append]
  have hwg:wn (L.g++(46 :: (L.n.map gp++(L.ps.flatMap fe++(58 :: L.v)))))=L.g.length:=LF (fun x hx=>(jc x (g3 x hx)).1) (fun x hx=>by simp only[List.head?_cons,Option.some.injEq] at hx; subst hx; rfl)
  have hd:(L.g++(46 :: (L.n.map gp++(L.ps.flatMap fe++(58 :: L.v))))).drop L.g.length=46 :: (L.n.map gp++(L.ps.flatMap fe++(58 :: L.v))):=List.drop_left' rfl
  have hd2:(L.g++(46 :: (L.n.map gp++(L.ps.flatMap fe++(58 :: L.v))))).drop (L.g.length + 1)=L.n.map gp++(L.ps.flatMap fe++(58 :: L.v)):=by rw[← List.drop_drop,hd]; rfl
  unfold Kz
  rw[hwg,hd,if_pos (by rfl),IL g1 g2,if_neg (by simp),hd2]
  simp only
  rw[tail]
  unfold Ba
  rw[List.take_left' rfl,Uz g3]
def Gw (f:List UInt8→List UInt8) (s:List UInt8) : List (Ln × Int) × Int × Int:=match Cu f s with
 | .ok ls=>(ls,0,0)
 | .bad k e=>([],k,e)
def aaV (B:Base) (f:List UInt8→List UInt8) (c:ak) : Prop:=∀ {M:RM} {s:List UInt8} {Q:aj},M.base=B→s.length≤100000000 →
 (∀ v M',ae [] M M'→bE iC M' v (Gw f s).1 (fun b=>M.next≤b)→(Gw f s).1.length≤s.length + 1→(∀ x∈(Gw f s).1,Small 912 x.1)→Q (.tup [v,N .i64 (Gw f s).2.1,N .i64 (Gw f s).2.2]) M')→c [St s] M Q
theorem u6.one {B:Base} {f:List UInt8→List UInt8} {c:ak} (h:u6 B f c) : aaV B f c:=by
 intro M s Q hM hl hQ
 refine h hM hl ?_ ?_
 ·intro v M' ls k hls hsl hle
  have e:Gw f s=(ls,0,0):=by unfold Gw; rw[hls]
  rw[e] at hQ
  exact hQ v M' k hsl hle (vT _ _ _ (by simp) hls)
 ·intro M' k e kk hb
  have he:Gw f s=([],k,e):=by unfold Gw; rw[hb]
  rw[he] at hQ
  exact hQ aF M' kk bE.nil (by simp) (by simp)
theorem Db {c:UInt8} (h:bZ c=true) : c.toNat≠10∧c.toNat≠13:=by
 unfold bZ at h
 simp only[Bool.or_eq_true,Bool.and_eq_true,decide_eq_true_eq] at h
 omega
theorem Mw {v:List UInt8} (h:∀ c∈v,bZ c=true) : ∀ c∈qv v,bZ c=true:=by
 unfold qv
 split
 ·intro c hc
  simp only[List.mem_append,List.mem_singleton] at hc
  rcases hc with(rfl | hc) | rfl
  ·rfl
  ·exact h c hc
  ·rfl
 ·exact h
theorem Er:∀ {vs:List (List UInt8)},(∀ v∈vs,∀ c∈v,bZ c=true)→∀ c∈tailV vs,bZ c=true
 | [],_,c,hc=>by cases hc
 | v :: vs,h,c,hc=>by
   have e:tailV (v :: vs)=[44]++(qv v++tailV vs):=by simp[tailV]
   rw[e] at hc
   simp only[List.mem_append,List.mem_singleton] at hc
   rcases hc with rfl | hc | hc
   ·rfl
   ·exact Mw (h v (by simp)) c hc
   ·exact Er (fun w hw=>h w (by simp[hw])) c hc
theorem QJ {p:gV} (h:mq bX p=true) : ∀ c∈fe p,bZ c=true:=by
 obtain⟨hn,_,hvs⟩:=Cy h
 obtain⟨_,_,g3⟩:=jM hn
 have hv:∀ v∈p.2,∀ c∈v,bZ c=true:=fun v hv c hc=>((E9 (hvs v hv)).1 c hc).1
 intro c hc
 unfold fe at hc
 simp only[List.mem_append,List.mem_singleton,List.mem_map] at hc
 rcases hc with((rfl | ⟨d,hd,rfl⟩) | rfl) | hc
 ·rfl
 ·exact(jc d (g3 d hd)).2.2.2.2.2.2.1
 ·rfl
 ·cases hp:p.2 with
  | nil=>rw[hp] at hc; cases hc
  | cons v vs =>
    rw[hp] at hc hv
    simp only[gI,List.mem_append] at hc
    rcases hc with hc | hc
    ·exact Mw (hv v (by simp)) c hc
    ·exact Er (fun w hw=>hv w (by simp[hw])) c hc
theorem FO {L:Ln} (h:mi bX L=true) : ∀ c∈ed L,bZ c=true:=by
 obtain⟨h1,h2,h3,h4,h5⟩:=CB h
 obtain⟨_,_,g3⟩:=jM h2
 intro c hc
 unfold ed qW at hc
 simp only[List.mem_append,List.mem_singleton,List.mem_flatMap,List.mem_map] at hc
 rcases hc with((hc | ⟨d,hd,rfl⟩ | ⟨p,hp,hc⟩) | rfl) | hc
 ·unfold lm at hc
  split at hc
  ·cases hc
  ·rename_i hne
   simp only[List.mem_append,List.mem_singleton] at hc
   rcases hc with hc | rfl
   ·exact(jc c ((jM (h1.resolve_left hne)).2.2 c hc)).2.2.2.2.2.2.2
   ·rfl
 ·exact(jc d (g3 d hd)).2.2.2.2.2.2.1
 ·exact QJ (h5 p hp) c hc
 ·rfl
 ·exact h3 c hc
theorem Xl (L:Ln) : ed L≠[]:=by unfold ed; simp
theorem Tg {L:Ln} (h:mi bX L=true) : pX (ed L):=fun c hc=>(Db (FO h c hc)).1
theorem Tc {L:Ln} (h:mi bX L=true) : (bD [] (fo 0 (ed L)++[13,10])).foldl glue []=[ed L]:=Mk _ (Nat.le_refl _) (Tg h)
theorem Ns {x:List UInt8} (h:∀ c∈x,c.toNat≠13) : strip x=x:=by
 unfold strip
 split
 ·rename_i e
  have:(13:UInt8)∈x:=List.mem_of_mem_drop (by rw[e]; simp)
  exact absurd rfl (h 13 this)
 ·rfl
theorem Tk (v:List UInt8) : (qv v).length≤v.length + 2:=by
 unfold qv; split
 ·simp
 ·omega
end Go.Ab.Vl
namespace Go.Ab.Vl
open Go Go.Ab Go.Ab.Sm
theorem LB.mono {N K:Nat} {L:Ln} (h:LB N L) (hk:N≤K) : LB K L :=
 ⟨Nat.le_trans h.g hk,Nat.le_trans h.n hk,Nat.le_trans h.v hk,Nat.le_trans h.ps hk,fun p hp=>Nat.le_trans (h.pn p hp) hk,fun p hp=>Nat.le_trans (h.pl p hp) hk,fun p hp v hv=>Nat.le_trans (h.pv p hp v hv) hk⟩
end Go.Ab.Vl
namespace Go.Ab.Vc
open Go Go.Ab
abbrev Str:=List UInt8
abbrev Mh:=Str × Nat × Nat
def toC (t:Mh) : AV × AV × Nat:=(St t.1,N .i64 (t.2.1:Int),t.2.2)
def qf:List Mh→Str→Option Nat
 | [],_=>none
 | t :: T,s=>if s=t.1 then some t.2.1 else qf T s
def He (s:Str) (v:Nat) : List Mh→List Mh
 | []=>[]
 | t :: T=>if s=t.1 then(s,v,t.2.2) :: T else t :: He s v T
theorem Mr (s:Str) : ∀ (T:List Mh) (i:Nat),(qf T s=none∧mD false [2] [St s] (T.map toC) i=some none) ∨
  ∃ j v,qf T s=some v∧mD false [2] [St s] (T.map toC) i=some (some (i + j,N .i64 ((v:Nat) : Int)))∧∀ w:Nat,E8 (St s) (N .i64 (w:Int)) (T.map toC) j=(He s w T).map toC
 | [],i=>.inl ⟨rfl,rfl⟩
 | t :: T,i=>by
   simp only[List.map_cons,toC,mD,fO,qf,He]
   rw[if_pos (show([St t.1] : List AV).length=([2] : List Nat).length from rfl),AX]
   by_cases hs:s=t.1
   ·simp only[if_pos hs,GA]
    exact .inr ⟨0,t.2.1,rfl,rfl,fun w=>rfl⟩
   ·simp only[if_neg hs]
    rcases Mr s T (i + 1) with⟨h1,h2⟩ | ⟨j,v,h1,h2,h3⟩
    ·exact .inl ⟨h1,h2⟩
    ·refine .inr ⟨j + 1,v,h1,by rw[h2,show i + 1 + j=i + (j + 1) by omega],fun w=>?_⟩
     rw[E8,h3 w]; rfl
theorem Sa (s x:Str) (w:Nat) : ∀ (T:List Mh) {v:Nat},qf T s=some v→qf (He s w T) x=if x=s then some w else qf T x
 | [],v,h=>by cases h
 | t :: T,v,h=>by
   rw[qf] at h
   rw[He,qf]
   by_cases hs:s=t.1
   ·rw[if_pos hs,qf]
    by_cases hx:x=s
    ·rw[if_pos hx,if_pos hx]
    ·rw[if_neg hx,if_neg hx,if_neg (fun e=>hx (e.trans hs.symm))]
   ·rw[if_neg hs] at h
    rw[if_neg hs,qf,Sa s x w T h]
    by_cases hx:x=t.1
    ·rw[if_pos hx,if_pos hx,if_neg (fun e=>hs (e.symm.trans hx))]
    ·rw[if_neg hx,if_neg hx]
theorem OQ (s x:Str) (w k:Nat) : ∀ (T:List Mh),qf T s=none→qf (T++[(s,w,k)]) x=if x=s then some w else qf T x
 | [],_=>rfl
 | t :: T,h=>by
   rw[qf] at h
   by_cases hs:s=t.1
   ·rw[if_pos hs] at h; cases h
   ·rw[if_neg hs] at h
    rw[List.cons_append,qf,OQ s x w k T h,qf]
    by_cases hx:x=t.1
    ·rw[if_pos hx,if_pos hx,if_neg (fun e=>hs (e.symm.trans hx))]
    ·rw[if_neg hx,if_neg hx]
structure lc (M:RM) (mb:Nat) (f:Str→Nat) : Prop where
 lt:mb<M.next
 ex:∃ T cl,M.heap mb=some (.map (T.map toC) cl)∧∀ s,f s=(qf T s).getD 0
section
variable {M M' : RM} {mb:Nat} {f:Str→Nat} {ks:List Nat} {s:Str}
theorem lc.keep (h:lc M mb f) (k:ae ks M M') (hd:mb ∉ ks) : lc M' mb f :=
 ⟨Nat.lt_of_lt_of_le h.lt k.next,let ⟨T,cl,h1,h2⟩:=h.ex; ⟨T,cl,k.ax h1 h.lt hd,h2⟩⟩
theorem lc.look (h:lc M mb f) {K:AV→Prop} (hK:K (N .i64 (f s:Int))) : ul false [2] (N .i64 (0:Int)) false M (.map mb) (St s) K:=by
 obtain⟨T,cl,h1,h2⟩:=h.ex
 have h2:=h2 s
 rcases Mr s T 0 with⟨a1,a2⟩ | ⟨j,v,a1,a2,a3⟩
 ·rw[a1] at h2
  refine⟨mb,_,cl,[St s],none,rfl,h1,rfl,rfl,a2, ?_⟩
  rw[h2] at hK; exact hK
 ·rw[a1] at h2
  refine⟨mb,_,cl,[St s],_,rfl,h1,rfl,rfl,a2, ?_⟩
  rw[h2] at hK; exact hK
theorem lc.upd (h:lc M mb f) {w:Nat} {K:RM→Prop} (hK:∀ M',lc M' mb (fun x=>if x=s then w else f x)→ae [mb] M M'→M'.next=M.next→K M') : yS false [2] M (.map mb) (St s) (N .i64 (w:Int)) K:=by
 obtain⟨T,cl,h1,h2⟩:=h.ex
 rcases Mr s T 0 with⟨a1,a2⟩ | ⟨j,v,a1,a2,a3⟩
 ·refine⟨mb,_,cl,[St s],none,rfl,h1,rfl,rfl,a2,hK _ ⟨h.lt,T++[(s,w,cl)],cl + 1, ?_,fun x=>?_⟩ ((ae.refl _ _).put _ (.inr (by simp))) rfl⟩
  ·rw[aA]; simp[VQ,toC]
  ·rw[OQ s x w cl T a1,h2 x]; split <;> rfl
 ·refine⟨mb,_,cl,[St s],_,rfl,h1,rfl,rfl,a2,hK _ ⟨h.lt,He s w T,cl, ?_,fun x=>?_⟩ ((ae.refl _ _).put _ (.inr (by simp))) rfl⟩
  ·rw[aA]; simp only[VQ,Nat.zero_add]; rw[a3 w]
  ·rw[Sa s x w T a1,h2 x]; split <;> rfl
theorem lc.new (M:RM) : lc (M.push (.map [] 0)) M.next (fun _=>0):=⟨Nat.lt_succ_self _,[],0,RM.aS _,fun s=>rfl⟩
end
end Go.Ab.Vc
namespace Go.Ab.Vc
open Go Go.Ab Go.Ab.Vl Go.Ab.Sm
def mI:Str:=[44,59,58,35]
def Hq (s:Str) : Bool:=s.any fun c=>decide (c∈mI)
def q4 (v:Str) : Str:=if Hq v then[34]++v++[34] else v
def zP (vs:List Str) : Str:=vs.flatMap fun v=>44 :: q4 v
def DY:List Str→Str
 | []=>[]
 | v :: vs=>q4 v++zP vs
def Fb (p:gV) : Str:=[59]++p.1++[61]++DY p.2
def DJ (ps:List gV) : Str:=ps.flatMap Fb
def gW (L:Ln) : Str:=lm L++(L.n++DJ L.ps)
abbrev lg:Str:=[114,97,119]
abbrev rC:Str:=[98,101,103,105,110]
abbrev iH:Str:=[118,101,114,115,105,111,110]
abbrev CX:Str:=[101,110,100]
abbrev xB:Str:=[117,105,100]
abbrev df:Str:=[118,99,97,114,100]
abbrev Si:Str:=[52,46,48]
def OL:List Str:=[[102,110],[110,105,99,107,110,97,109,101],[116,101,108],[101,109,97,105,108],[110,111,116,101],[111,114,103],[116,105,116,108,101],[114,111,108,101],[99,97,116,101,103,111,114,105,101,115]]
def Ae (n:Str) : Bool:=decide (n∈OL)
def xX (n:Str) : Bool:=decide (n=rC) || decide (n=iH) || decide (n=CX)
abbrev Fd:=Str × Str
def bB (L:Ln) : Fd :=
 if Ae L.n then match fH L.v with
  | some s=>if esc s=L.v then(gW L,s) else(lg++[46]++gW L,L.v)
  | none=>(lg++[46]++gW L,L.v)
 else(gW L,L.v)
def kR (n:Str) (k:Int) : Str:=if k=0 then n else n++[35]++Lib.itoa (IntKind.wrap .i64 (k + 1))
def jC (L:Ln) (k:Int) : Fd × Bool :=
 if (fV bX L).2=0∧L.g≠lg∧xX L.n=false∧0≤k then((kR (bB L).1 k,(bB L).2),true) else(([],[]),false)
def fJ (L:Ln) (name:Str) : Bool :=
 decide (L.n=name) && decide (L.g=[]) && decide (L.ps.length=0) && (if name=iH then decide (L.v=Si) else decide (L.v.map bW=df))
def dZ (b:Int) : List (Ln × Int)→List (Ln × Int)→Except Int (List (Ln × Int) × List (Ln × Int))
 | [],_=>.error b
 | x :: r,acc=>if fJ x.1 CX then .ok (acc,r) else if xX x.1.n || decide (x.1.g=lg) then .error x.2 else dZ b r (acc++[x])
def jf:Nat→List (Ln × Int)→List (List (Ln × Int))→Except Int (List (List (Ln × Int)))
 | 0,_,acc=>.ok acc
 | _ + 1,[],acc=>.ok acc
 | k + 1,x :: r,acc=>if fJ x.1 rC=false then .error x.2 else match r with
   | []=>.error x.2
   | y :: r=>if fJ y.1 iH=false then .error y.2 else match dZ x.2 r [x] with
     | .error e=>.error e
     | .ok (c,r')=>jf k r' (acc++[c])
abbrev Cd:=Str × List Fd × Int
def fA (ns:List Str) (n:Str) : Nat:=ns.countP (· = n)
def mr:List (Ln × Int)→List Str→List Fd→Except (Int × Int) (List Fd)
 | [],_,acc=>.ok acc
 | x :: r,ns,acc =>
   if 64<(kR (bB x.1).1 (fA ns (bB x.1).1)).length∨512<(bB x.1).2.length then .error (x.2,2)
   else mr r (ns++[(bB x.1).1]) (acc++[(kR (bB x.1).1 (fA ns (bB x.1).1),(bB x.1).2)])
def oZ (fs:List Fd) : Str:=fs.flatMap fun p=>p.1++[0]++p.2++[0]
def lS (h:Str→Str) (ls:List (Ln × Int)) (all:Str) : Str:=match ls.find? fun x=>decide (x.1.n=xB) && decide (x.1.g=[]) with
 | some x=>if 1≤x.1.v.length∧x.1.v.length≤64 then x.1.v else[99,45]++(h all).take 16
 | none=>[99,45]++(h all).take 16
def oq (h:Str→Str) : List (Ln × Int)→Except (Int × Int) Cd
 | []=>.error (0,0)
 | b :: ls=>match mr ls [] [] with
   | .error e=>.error e
   | .ok fs=>.ok (lS h ls (oZ fs),fs,b.2)
def gG (h:Str→Str) : List (List (Ln × Int))→List Cd→Except (Int × Int) (List Cd)
 | [],acc=>.ok acc
 | l :: r,acc=>match oq h l with
   | .error e=>.error e
   | .ok c=>gG h r (acc++[c])
def mM (h:Str→Str) (s:Str) : Except (Int × Int) (List Cd):=match Cu bX s with
 | .bad k e=>.error (k,e)
 | .ok ls=>match jf (ls.length + 1) ls [] with
   | .error w=>.error (w,3)
   | .ok cs=>gG h cs []
def eO (s:Str) : Str × Str:=(s.takeWhile (dx.contains ·),s.dropWhile (dx.contains ·))
def sJ (s:Str) : Str × Str × Bool :=
 if aN 34 s then match brk 34 (s.drop 1) with
  | some (a,b)=>(a,b,true)
  | none=>(s.drop 1,[],false)
 else if Lib.indexAny s mI<0 then(s,[],true) else(s.take (Lib.indexAny s mI).toNat,s.drop (Lib.indexAny s mI).toNat,true)
def jb:Nat→Str→List Str→Option (List Str × Str)
 | 0,_,_=>none
 | k + 1,s,acc=>match sJ (s.drop 1) with
   | (v,r,true)=>if aN 44 r then jb k r (acc++[v]) else some (acc++[v],r)
   | _=>none
def kT:Nat→Str→List gV→Option (List gV × Str)
 | 0,_,_=>none
 | k + 1,s,acc=>if aN 59 s then
     if aN 61 (eO (s.drop 1)).2 then match jb (eO (s.drop 1)).2.length (eO (s.drop 1)).2 [] with
      | some (vs,r)=>kT k r (acc++[((eO (s.drop 1)).1,vs)])
      | none=>none
     else none
   else some (acc,s)
def O6:Ln:=⟨[],[],[],[]⟩
def zB (s:Str) : Int × Bool:=match Lib.atoiAll s with
 | .ok v=>(v,true)
 | .range=>(Lib.atoiSat s,false)
 | _ => (0, false)
def nP (s:Str) : Int × Bool :=
 let a:=zB (if aN 35 s then s.drop 1 else s)
 (IntKind.wrap .i64 (a.1 - 1),aN 35 s && a.2 && decide (a.1 ≥ 2))
def Ee (s:Str) : Ln × Int × Bool :=
 let h:Str × Str × Str:=if aN 46 (eO s).2 then((eO s).1,(eO ((eO s).2.drop 1)).1,(eO ((eO s).2.drop 1)).2) else([],(eO s).1,(eO s).2)
 match kT (h.2.2.length + 1) h.2.2 [] with
 | none=>(O6,0,false)
 | some (ps,r)=>if r=[] then(⟨h.1,h.2.1,ps,[]⟩,0,true) else(⟨h.1,h.2.1,ps,[]⟩,nP r)
def gY:Str:=[114,97,119,46]
def bY (p:Fd) : Ln × Int × Bool :=
 let raw:=decide (p.1.take 4=gY)
 let u:=Ee (if raw then p.1.drop 4 else p.1)
 let L:Ln := { u.1 with v:=if !raw && Ae u.1.n then esc p.2 else p.2 }
 (L,u.2.1,u.2.2 && (jC L u.2.1).2 && decide ((jC L u.2.1).1=p))
def qQ (p:Fd) : Bool:=(bY p).2.2 && decide (p.1.length≤64) && decide (p.2.length≤512)
abbrev P5:Str:=[66,69,71,73,78,58,86,67,65,82,68,13,10,86,69,82,83,73,79,78,58,52,46,48,13,10]
abbrev wO:Str:=[69,78,68,58,86,67,65,82,68,13,10]
def sS:List Fd→List Str→Str→Option Str
 | [],_,acc=>some (acc++wO)
 | p :: r,ns,acc =>
   if qQ p=false then none
   else if (fA ns (bB (bY p).1).1:Int)≠(bY p).2.1 then none
   else sS r (ns++[(bB (bY p).1).1]) (acc++(fV bX (bY p).1).1)
def wZ (fs:List Fd) : Option Str:=sS fs [] P5
end Go.Ab.Vc
namespace Go.Ab
open Go Go.RowKit
def wd (ds:List Deferred) (a:Act) : Act := { a with defers:=ds }
section
variable {P:Program} {Q0:Act→World→Prop} {K K' : Act→World→Prop} {Q' : Exit→Act→World→Prop} {r:Option Nat} {n:Nat} {ds:List Deferred}
end
section
variable {P:Program} {nt:Nat} {ops:Array Oper} {M0:RM} {ρ0 ρ:Ren} {w0 w:World} {a:Act}
end
def Zr (ρ:Ren) (c:Nat) : Prop:=∀ b i,ρ b=some i→i.cb≠c
def aa1 (D:Nat) : Deferred := { target:=.collected D,args := #[] }
structure ZT (n0:Nat) (ρ:Ren) (w:World) (Ds:List Nat) : Prop where
 nodup:Ds.Nodup
 all:∀ D∈Ds,n0≤D∧w.heap[D]?=some (.deferred (some []))∧Zr ρ D
inductive Head:AV→Nat→Prop
 | nil:Head (.sc (.slice none 0 0)) 0
 | emp (b:Nat) : Head (.emp b) 0
 | ex (b o len c:Nat) : len≤c→Head (.slc b o len (.ex c)) len
 | op (b o len:Nat) : Head (.slc b o len (.op 1)) len
section
variable {P:Program} {nt ret:Nat}
def Qx (P:Program) (nt n0:Nat) (rg:Bool) (Ds:List Nat) (M:RM) (ρ:Ren) (w:World) (T:Tree AV) (asg:Nat) (K:K3) (e:Exit) (a' : Act) (w' : World) : Prop :=
 ∃ x T' M' ρ' a0 Ds',e=aa5 x∧a'=wd (Ds'.map aa1) a0∧(rg=false→Ds'=Ds)∧ZT n0 ρ' w' Ds'∧After P M ρ w M' ρ' w'∧il ρ' nt T' a0∧(∀ t,Nat.testBit asg t=false→T'.get t=T.get t)∧K x T' M'
theorem Qx.trans {n0:Nat} {rg:Bool} {Ds Ds1:List Nat} {M M1:RM} {ρ ρ1:Ren} {w w1:World} {T T1:Tree AV} {asg YS:Nat} {K:K3} (h:After P M ρ w M1 ρ1 w1) (hds:rg=false→Ds1=Ds) (hk:∀ t,Nat.testBit asg t=false→Nat.testBit YS t=false∧T1.get t=T.get t) {e:Exit} {a' : Act} {w' : World}
  (q:Qx P nt n0 rg Ds1 M1 ρ1 w1 T1 YS K e a' w') : Qx P nt n0 rg Ds M ρ w T asg K e a' w':=by
 obtain⟨x,T',M',ρ',a0,Ds',h1,h2,hx,h3,h4,h5,h6,h7⟩:=q
 exact⟨x,T',M',ρ',a0,Ds',h1,h2,fun hr=>(hx hr).trans (hds hr),h3,h.trans h4,h5,fun t ht=>by obtain⟨k1,k2⟩:=hk t ht; rw[h6 t k1,k2],h7⟩
end
end Go.Ab
set_option maxRecDepth 100000
namespace Go.Ab.Vc
open Go Go.Ab
def nM (p1 p2 p3:ak) (a0 a1:AV) (M0:RM) (Q:aj) : Prop:=p1 [] M0 fun yl p=>fF yl fun ym=>au ym ( Q (Bo false) p) ( bQ a0 fun yn=>af .gtr yn (N .i64 10) fun l=>aa l false (fun c=>c a1 p) (fun c=>c .undef p) fun yo B=>aa l false (fun vw=>aR yo fun yp=>vw yp B) (fun c=>c .undef B) fun yq X=>aa l false (fun we=>af .gtr yq (N .i64 1000) fun yr=>we yr X) (fun c=>c .undef X) fun ys vg=>aD l (Bo true) ys fun yt=>au yt ( Q (Bo true) vg) ( eT [(St []),(.sc (.slice none 0 0)),(N .i64 0)] [(1,1,a0)] fun yu=>p2 [yu] vg fun vq vv=>aI vq 0 fun m=>aI vq 1 fun yv=>p3 [a1] vv fun v vl=>aI v 0 fun yw=>aI v 1 fun d1=>aI v 2 fun yx=>af .neq yv (N .i64 0) fun w=>aa w false (fun ws=>ws yx vl) (fun c=>c .undef vl) fun yy C=>aa w false (fun v0=>af .neq yy (N .i64 0) fun yz=>v0 yz C) (fun c=>c .undef C) fun y0 O=>aD w (Bo true) y0 fun y1=>au y1 ( Q (Bo true) O) ( p3 [m] O fun x vt=>aI x 0 fun vr=>aI x 1 fun d2=>aI x 2 fun y2=>bz (fun ww g r=>aR m fun y3=>af .lss (ag g 1) y3 fun y4=>au y4 ( cK (fun A=>dG m (ag g 1) fun y6=>af .neq y6 (N .u8 13) fun y7=>au y7 ( af .add (ag g 1) (N .i64 1) fun y8=>bP (aT m (some (ag g 1)) (some y8)) fun y9=>aV .add (ag g 0) y9 fun za=>A [za] r) ( A [(ag g 0)] r)) (fun zr vu=>af .add (ag g 1) (N .i64 1) fun y5=>ww [(ag zr 0),y5] vu)) ( aV .add a1 (St [10]) fun zb=>aV .add zb (ag g 0) fun zc=>p3 [zc] r fun y S=>aI y 0 fun j=>aI y 1 fun d3=>aI y 2 fun zd=>af .neq y2 (N .i64 0) fun n=>aa n false (fun v8=>v8 vr S) (fun c=>c .undef S) fun ze U=>aa n false (fun v9=>bQ ze fun zf=>v9 zf U) (fun c=>c .undef U) fun zg V=>aa n false (fun wa=>af .neq zg (N .i64 1) fun zh=>wa zh V) (fun c=>c .undef V) fun zi W=>aD n (Bo true) zi fun zj=>au zj ( Q (Bo false) W) ( bz (fun wx o s=>bQ a0 fun zk=>af .lss (ag o 0) zk fun zl=>au zl ( bz (fun wy z i=>aW a0 (ag o 0) 2 fun zn=>aB zn 1 fun zo=>ah i zo fun zp=>aR zp fun zq=>af .lss (ag z 0) zq fun wz=>au wz ( aW a0 (ag o 0) 2 fun w1=>aB w1 1 fun w2=>ah i w2 fun w3=>dG w3 (ag z 0) fun w4=>af .eql w4 (N .u8 13) fun w5=>au w5 ( Q (Bo true) i) ( af .add (ag z 0) (N .i64 1) fun w0=>wy [w0] i)) ( af .add (ag o 0) (N .i64 1) fun zm=>wx [zm] i)) [(N .i64 0)] s) ( af .eql zd (N .i64 0) fun h=>az h true (fun wb=>wb j s none) (fun c=>c .undef s none) fun w6 Y zs=>az h true (fun wc=>bQ w6 fun w7=>wc w7 Y none) (fun c=>c .undef Y none) fun w8 Z z4=>az h true (fun wd=>wd yw Z none) (fun c=>c .undef Z none) fun w9 va z5=>az h true (fun wf=>bQ w9 fun xa=>wf xa va none) (fun c=>c .undef va none) fun xb vb z6=>az h true (fun wg=>af .add xb (N .i64 1) fun xc=>wg xc vb none) (fun c=>c .undef vb none) fun xd vc z7=>az h true (fun wh=>af .eql w8 xd fun xe=>wh xe vc none) (fun c=>c .undef vc none) fun xf vd z8=>aD h xf (Bo false) fun d=>az d true (fun wi=>wi j vd none) (fun c=>c .undef vd none) fun xg ve z9=>az d true (fun wj=>wj j ve none) (fun c=>c .undef ve none) fun xh vf c0=>az d true (fun wk=>bQ xh fun xi=>wk xi vf none) (fun c=>c .undef vf none) fun xj vh c1=>az d true (fun wl=>af .sub xj (N .i64 1) fun xk=>wl xk vh none) (fun c=>c .undef vh none) fun xl vi c2=>az d true (fun wm=>aW xg xl 3 fun xm=>wm xm vi none) (fun c=>c .undef vi none) fun xn vj c3=>az d true (fun wn=>aB xn 0 fun xo=>wn xo vj none) (fun c=>c .undef vj none) fun xp t c4=>az d true (fun wo=>ah t xp fun xq=>wo xq t none) (fun c=>c .undef t none) fun xr vk c5=>az d true (fun wp=>wp vr vk none) (fun c=>c .undef vk none) fun xs vm c6=>az d true (fun wq=>aW xs (N .i64 0) 3 fun xt=>wq xt vm none) (fun c=>c .undef vm none) fun xu vn c7=>az d true (fun wr=>aB xu 0 fun xv=>wr xv vn none) (fun c=>c .undef vn none) fun xw u c8=>az d true (fun wt=>ah u xw fun xx=>wt xx u none) (fun c=>c .undef u none) fun xy vo c9=>az d true (fun wu=>aV .eql xr xy fun xz=>wu xz vo none) (fun c=>c .undef vo none) fun x0 vp d0=>aD d x0 (Bo false) fun e=>az e true (fun wv=>wv j vp none) (fun c=>c .undef vp none) fun x1 D zt=>az e true (fun vx=>vx j D none) (fun c=>c .undef D none) fun x2 E zu=>az e true (fun vy=>bQ x2 fun x3=>vy x3 E none) (fun c=>c .undef E none) fun x4 F zv=>az e true (fun vz=>af .sub x4 (N .i64 1) fun x5=>vz x5 F none) (fun c=>c .undef F none) fun x6 G zw=>az e true (fun v1=>aW x1 x6 3 fun x7=>v1 x7 G none) (fun c=>c .undef G none) fun x8 H zx=>az e true (fun v2=>aB x8 1 fun x9=>v2 x9 H none) (fun c=>c .undef H none) fun ya q zy=>az e true (fun v3=>ah q ya fun yb=>v3 yb q none) (fun c=>c .undef q none) fun yc I zz=>az e true (fun v4=>bQ yc fun yd=>v4 yd I none) (fun c=>c .undef I none) fun ye L z0=>az e true (fun v5=>v5 a0 L none) (fun c=>c .undef L none) fun yf P z1=>az e true (fun v6=>bQ yf fun yg=>v6 yg P none) (fun c=>c .undef P none) fun yh R z2=>az e true (fun v7=>af .eql ye yh fun yi=>v7 yi R none) (fun c=>c .undef R none) fun yj vs z3=>aD e yj (Bo false) fun yk=>Q yk vs)) [(N .i64 0)] W))) [(St []),(N .i64 0)] vt)))
def sH (p1 p2 p3:ak) (p4:Nat) (p5:ak) (p6:Nat) (p7:ak) (M0:RM) (Q:aj) : Prop:=p1 [(St [66,69,71,73,78,58,86,67,65,82,68,10,86,69,82,83,73,79,78,58,52,46,48,10,70,78,58,65,110,110,92,44,32,66,10,84,69,76,59,84,89,80,69,61,104,111,109,101,58,49,10,84,69,76,59,84,89,80,69,61,104,111,109,101,58,50,10,69,78,68,58,86,67,65,82,68,10])] M0 fun H V=>aI H 0 fun g=>aI H 1 fun c2=>aI H 2 fun c3=>af .neq c3 (N .i64 0) fun L=>aa L false (fun c=>c c2 V) (fun c=>c .undef V) fun c4 W=>aa L false (fun wv=>af .neq c4 (N .i64 0) fun c5=>wv c5 W) (fun c=>c .undef W) fun c6 v1=>aD L (Bo true) c6 fun p=>aa p false (fun x2=>x2 g v1) (fun c=>c .undef v1) fun c7 v6=>aa p false (fun x8=>bQ c7 fun c8=>x8 c8 v6) (fun c=>c .undef v6) fun c9 we=>aa p false (fun yh=>af .neq c9 (N .i64 1) fun d0=>yh d0 we) (fun c=>c .undef we) fun d1 Z=>aD p (Bo true) d1 fun j=>aa j false (fun w1=>w1 g Z) (fun c=>c .undef Z) fun d2 ve=>aa j false (fun w7=>aW d2 (N .i64 0) 3 fun d3=>w7 d3 ve) (fun c=>c .undef ve) fun d4 vl=>aa j false (fun xg=>aB d4 1 fun d5=>xg d5 vl) (fun c=>c .undef vl) fun d6 w=>aa j false (fun xp=>ah w d6 fun d7=>xp d7 w) (fun c=>c .undef w) fun d8 vy=>aa j false (fun xy=>bQ d8 fun d9=>xy d9 vy) (fun c=>c .undef vy) fun e0 v0=>aa j false (fun xz=>af .neq e0 (N .i64 3) fun e1=>xz e1 v0) (fun c=>c .undef v0) fun e2 B=>aD j (Bo true) e2 fun e3=>au e3 ( Q (Bo false) B) ( aW g (N .i64 0) 3 fun e4=>aK B e4 3 fun e5=>p2 [e5] B fun wl wq=>aI wl 0 fun e6=>aI wl 1 fun e7=>p1 [e6] wq fun O C=>aI O 0 fun P=>aI O 1 fun s3=>aI O 2 fun e8=>aW g (N .i64 0) 3 fun e9=>aB e9 1 fun g0=>ah C g0 fun g1=>aW g1 (N .i64 2) 2 fun g2=>aK C g2 2 fun g3=>p3 [g3] C fun wm wr=>aI wm 0 fun g4=>aI wm 1 fun g5=>bf (.row [(St []),(St []),(.sc (.slice none 0 0)),(St []),(N .i64 0)] false p4 0) (fun n=>.ptr n 0) wr fun U ws=>aC ws U g4 5 fun v2=>aK v2 U 5 fun g6=>p5 [g6,(N .i64 1)] v2 fun wn wt=>aI wn 0 fun g7=>aI wn 1 fun g8=>bf (.row [(St []),(St [])] false p6 0) (fun n=>.ptr n 0) wt fun F wu=>aC wu F g7 2 fun m=>aW g (N .i64 0) 3 fun g9=>aB g9 1 fun h0=>ah m h0 fun h1=>aW h1 (N .i64 0) 2 fun h2=>aK m h2 2 fun h3=>eT [(St []),(St [])] [(0,1,(St [102,110])),(1,1,(St [65,110,110,44,32,66]))] fun h4=>nW false [2,2] h3 h4 fun h=>az h true (fun x0=>x0 g m none) (fun c=>c .undef m none) fun h5 v3 n=>az h true (fun x1=>aW h5 (N .i64 0) 3 fun h6=>x1 h6 v3 none) (fun c=>c .undef v3 none) fun h7 v4 q7=>az h true (fun x3=>aB h7 1 fun h8=>x3 h8 v4 none) (fun c=>c .undef v4 none) fun h9 D q8=>az h true (fun x4=>ah D h9 fun i0=>x4 i0 D none) (fun c=>c .undef D none) fun i1 v5 q9=>az h true (fun x5=>aW i1 (N .i64 2) 2 fun i2=>x5 i2 v5 none) (fun c=>c .undef v5 none) fun i3 E r0=>az h true (fun x6=>aK E i3 2 fun i4=>x6 i4 E none) (fun c=>c .undef E none) fun i5 v7 r1=>az h true (fun x7=>eT [(St []),(St [])] [(0,1,(St [116,101,108,59,116,121,112,101,61,104,111,109,101,35,50])),(1,1,(St [50]))] fun i6=>x7 i6 v7 none) (fun c=>c .undef v7 none) fun i7 v8 r2=>az h true (fun x9=>nW false [2,2] i5 i7 fun i8=>x9 i8 v8 none) (fun c=>c .undef v8 none) fun i9 v9 r3=>aD h i9 (Bo false) fun R=>az R true (fun ya=>ya e7 v9 none) (fun c=>c .undef v9 none) fun j0 wa r4=>az R true (fun yb=>af .eql j0 (N .i64 0) fun j1=>yb j1 wa none) (fun c=>c .undef wa none) fun j2 wb r5=>aD R j2 (Bo false) fun S=>az S true (fun yc=>yc e8 wb none) (fun c=>c .undef wb none) fun j3 wc r6=>az S true (fun yd=>af .eql j3 (N .i64 0) fun j4=>yd j4 wc none) (fun c=>c .undef wc none) fun j5 wd r7=>aD S j5 (Bo false) fun q=>az q true (fun ye=>ye P wd none) (fun c=>c .undef wd none) fun j6 wf r8=>az q true (fun yf=>bQ j6 fun j7=>yf j7 wf none) (fun c=>c .undef wf none) fun j8 wg r9=>az q true (fun yg=>af .eql j8 (N .i64 1) fun j9=>yg j9 wg none) (fun c=>c .undef wg none) fun l0 wh s0=>aD q l0 (Bo false) fun l=>az l true (fun yi=>yi P wh none) (fun c=>c .undef wh none) fun l1 wi s1=>az l true (fun yj=>aW l1 (N .i64 0) 3 fun l2=>yj l2 wi none) (fun c=>c .undef wi none) fun l3 wj s2=>az l true (fun yk=>aB l3 1 fun l4=>yk l4 wj none) (fun c=>c .undef wj none) fun l5 r l6=>az l true (fun ww=>ah r l5 fun yl=>ww yl r none) (fun c=>c .undef r none) fun ym X l7=>az l true (fun wx=>bQ ym fun yn=>wx yn X none) (fun c=>c .undef X none) fun yo Y l8=>az l true (fun wy=>af .eql yo (N .i64 3) fun yp=>wy yp Y none) (fun c=>c .undef Y none) fun yq va l9=>aD l yq (Bo false) fun d=>az d true (fun wz=>wz P va none) (fun c=>c .undef va none) fun yr vb m0=>az d true (fun w0=>aW yr (N .i64 0) 3 fun ys=>w0 ys vb none) (fun c=>c .undef vb none) fun yt vc m1=>az d true (fun w2=>aB yt 0 fun yu=>w2 yu vc none) (fun c=>c .undef vc none) fun yv s m2=>az d true (fun w3=>ah s yv fun yw=>w3 yw s none) (fun c=>c .undef s none) fun yx vd m3=>az d true (fun w4=>w4 g vd none) (fun c=>c .undef vd none) fun yy vf m4=>az d true (fun w5=>aW yy (N .i64 0) 3 fun yz=>w5 yz vf none) (fun c=>c .undef vf none) fun y0 vg m5=>az d true (fun w6=>aB y0 0 fun y1=>w6 y1 vg none) (fun c=>c .undef vg none) fun y2 t m6=>az d true (fun w8=>ah t y2 fun y3=>w8 y3 t none) (fun c=>c .undef t none) fun y4 vh m7=>az d true (fun w9=>aV .eql yx y4 fun y5=>w9 y5 vh none) (fun c=>c .undef vh none) fun y6 vi m8=>aD d y6 (Bo false) fun i=>az i true (fun xa=>xa g vi none) (fun c=>c .undef vi none) fun y7 vj m9=>az i true (fun xb=>aW y7 (N .i64 0) 3 fun y8=>xb y8 vj none) (fun c=>c .undef vj none) fun y9 vk n0=>az i true (fun xc=>aB y9 0 fun za=>xc za vk none) (fun c=>c .undef vk none) fun zb u n1=>az i true (fun xd=>ah u zb fun zc=>xd zc u none) (fun c=>c .undef u none) fun zd vm n2=>az i true (fun xe=>aR zd fun ze=>xe ze vm none) (fun c=>c .undef vm none) fun zf vn n3=>az i true (fun xf=>af .eql zf (N .i64 18) fun zg=>xf zg vn none) (fun c=>c .undef vn none) fun zh vo n4=>aD i zh (Bo false) fun G=>az G true (fun xh=>xh g5 vo none) (fun c=>c .undef vo none) fun zi vp n5=>az G true (fun xi=>af .eql zi (N .i64 0) fun zj=>xi zj vp none) (fun c=>c .undef vp none) fun zk vq n6=>aD G zk (Bo false) fun o=>az o true (fun xj=>aB U 1 fun zl=>xj zl vq none) (fun c=>c .undef vq none) fun zm v n7=>az o true (fun xk=>ah v zm fun zn=>xk zn v none) (fun c=>c .undef v none) fun zo vr n8=>az o true (fun xl=>aV .eql zo (St [116,101,108]) fun zp=>xl zp vr none) (fun c=>c .undef vr none) fun zq vs n9=>aD o zq (Bo false) fun wk=>az wk true (fun xm=>xm g8 vs none) (fun c=>c .undef vs none) fun zr x p0=>aD wk zr (Bo false) fun e=>az e true (fun xn=>aK x F 2 fun zs=>xn zs x none) (fun c=>c .undef x none) fun zt vt p8=>az e true (fun xo=>xo g vt none) (fun c=>c .undef vt none) fun zu vu p9=>az e true (fun xq=>aW zu (N .i64 0) 3 fun zv=>xq zv vu none) (fun c=>c .undef vu none) fun zw vv q0=>az e true (fun xr=>aB zw 1 fun zx=>xr zx vv none) (fun c=>c .undef vv none) fun zy y q1=>az e true (fun xs=>ah y zy fun zz=>xs zz y none) (fun c=>c .undef y none) fun z0 vw q2=>az e true (fun xt=>aW z0 (N .i64 2) 2 fun z1=>xt z1 vw none) (fun c=>c .undef vw none) fun z2 z q3=>az e true (fun xu=>aK z z2 2 fun z3=>xu z3 z none) (fun c=>c .undef z none) fun z4 vx q4=>az e true (fun xv=>nW false [2,2] zt z4 fun z5=>xv z5 vx none) (fun c=>c .undef vx none) fun z6 A q5=>aD e z6 (Bo false) fun I=>az I true (fun xw=>aK A F 2 fun z7=>xw z7 A none) (fun c=>c .undef A none) fun z8 vz q6=>aa I true (fun xx=>p7 [z8] vz fun z9 wo=>xx z9 wo) (fun c=>c .undef vz) fun c0 wp=>aD I c0 (Bo false) fun c1=>Q c1 wp)
def qo (p1 p2 p3:ak) (p4:Nat) (a0:AV) (M0:RM) (Q:aj) : Prop:=p1 [a0] M0 fun g i=>aI g 0 fun z=>aI g 1 fun A=>aI g 2 fun m=>af .neq m (N .i64 0) fun B=>au B ( Q (.tup [(.sc (.slice none 0 0)),A,m]) i) ( p2 [z] i fun n j=>aI n 0 fun o=>aI n 1 fun p=>af .gtr p (N .i64 0) fun C=>au C ( Q (.tup [(.sc (.slice none 0 0)),p,(N .i64 3)]) j) ( bQ o fun D=>bz (fun x c d=>af .lss (ag c 1) D fun E=>au E ( aW o (ag c 1) 1 fun F=>ah d F fun G=>p3 [G] d fun h r=>aI h 0 fun H=>aI h 1 fun I=>aI h 2 fun q=>bf (.row [(St []),(.sc (.slice none 0 0)),(N .i64 0)] false p4 0) (fun v=>.ptr v 0) r fun l s=>aC s l H 3 fun e=>af .neq q (N .i64 0) fun L=>au L ( Q (.tup [(.sc (.slice none 0 0)),I,q]) e) ( aK e l 3 fun O=>eY p4 1 [(St []),(.sc (.slice none 0 0)),(N .i64 0)] [(0,3,O)] fun y w=>bf y w e fun P t=>appW p4 3 48 [(St []),(.sc (.slice none 0 0)),(N .i64 0)] false (ag c 0) P t fun R u=>af .add (ag c 1) (N .i64 1) fun S=>x [R,S] u)) ( Q (.tup [(ag c 0),(N .i64 0),(N .i64 0)]) d)) [(.sc (.slice none 0 0)),(N .i64 0)] j))
def qD (p1 p2:Nat) (p3:ak) (p4:Nat) (p5 p6 p7:ak) (a0:AV) (M0:RM) (Q:aj) : Prop:=mh p1 a0 fun L F=>bf L F M0 fun O A=>bf (.map [] 0) (fun d=>.map d) A fun m r=>aB O 1 fun P=>ah r P fun x=>bQ x fun R=>bz (fun I e i=>af .lss (ag e 1) R fun S=>au S ( aW x (ag e 1) 2 fun U=>aK i U 2 fun V=>bf (.row [(St []),(St [])] false p2 0) (fun d=>.ptr d 0) i fun p C=>aC C p V 2 fun v=>aK v p 2 fun W=>p3 [W] v fun n D=>aI n 0 fun X=>aI n 1 fun Y=>aI n 2 fun Z=>bf (.row [(St []),(St []),(.sc (.slice none 0 0)),(St []),(N .i64 0)] false p4 0) (fun d=>.ptr d 0) D fun q E=>aC E q X 5 fun l=>fF Z fun h=>aa h false (fun c=>aK l p 2 fun va=>c va l) (fun c=>c .undef l) fun vb w=>aa h false (fun H=>p5 [vb] w fun vc B=>H vc B) (fun c=>c .undef w) fun vd s=>aa h false (fun G=>fF vd fun ve=>G ve s) (fun c=>c .undef s) fun vf j=>aD h (Bo true) vf fun vg=>au vg ( Q (.tup [(St []),(N .i64 1)]) j) ( aK j q 5 fun vh=>p6 [vh] j fun vi g=>Kv vi 0 fun o=>ul false [2] (N .i64 0) false g m o fun vj=>af .neq vj Y fun vk=>au vk ( Q (.tup [(St []),(N .i64 1)]) g) ( ul false [2] (N .i64 0) false g m o fun vl=>af .add vl (N .i64 1) fun vm=>yS false [2] g m o vm fun t=>aK t q 5 fun vn=>p7 [vn] t fun y u=>aI y 0 fun vo=>aI y 1 fun z=>af .neq z (N .i64 0) fun vp=>au vp ( Q (.tup [(St []),z]) u) ( aV .add (ag e 0) vo fun vq=>af .add (ag e 1) (N .i64 1) fun vr=>I [vq,vr] u)))) ( aV .add (ag e 0) (St [69,78,68,58,86,67,65,82,68,13,10]) fun vs=>Q (.tup [vs,(N .i64 0)]) i)) [(St [66,69,71,73,78,58,86,67,65,82,68,13,10,86,69,82,83,73,79,78,58,52,46,48,13,10]),(N .i64 0)] r
def u7 (p1:Nat) (p2:ak) (p3:Nat) (a0:AV) (M0:RM) (Q:aj) : Prop:=mh p1 a0 fun E w=>bf E w M0 fun i j=>aK j i 2 fun vd=>p2 [vd] j fun r s=>aI r 0 fun ve=>aI r 1 fun vf=>bf (.row [(St []),(St []),(.sc (.slice none 0 0)),(St []),(N .i64 0)] false p3 0) (fun v=>.ptr v 0) s fun vc t=>aC t vc ve 5 fun o=>af .eql vf (N .i64 0) fun d=>aa d true (fun c=>aB i 0 fun F=>c F o) (fun c=>c .undef o) fun G h=>aa d true (fun C=>ah h G fun H=>C H h) (fun c=>c .undef h) fun I q=>aa d true (fun D=>aR I fun L=>D L q) (fun c=>c .undef q) fun O l=>aa d true (fun x=>af .leq O (N .i64 64) fun P=>x P l) (fun c=>c .undef l) fun R m=>aD d R (Bo false) fun e=>aa e true (fun y=>aB i 1 fun S=>y S m) (fun c=>c .undef m) fun U g=>aa e true (fun z=>ah g U fun V=>z V g) (fun c=>c .undef g) fun W n=>aa e true (fun A=>aR W fun X=>A X n) (fun c=>c .undef n) fun Y p=>aa e true (fun B=>af .leq Y (N .i64 512) fun Z=>B Z p) (fun c=>c .undef p) fun va u=>aD e va (Bo false) fun vb=>Q vb u
def vX (p1 p2:Nat) (p3:ak) (a0:AV) (M0:RM) (Q:aj) : Prop:=mh p1 a0 fun q p=>bf q p M0 fun t m=>bf (.row [(St []),(St []),(.sc (.slice none 0 0)),(St []),(N .i64 0)] false p2 0) (fun e=>.ptr e 0) m fun c h=>aK h t 2 fun z=>p3 [z] h fun g n=>aI g 0 fun u=>aI g 1 fun A=>aI g 2 fun v=>bf (.row [(St []),(St []),(.sc (.slice none 0 0)),(St []),(N .i64 0)] false p2 0) (fun e=>.ptr e 0) n fun l o=>aC o l u 5 fun d=>fF v fun w=>au w ( eT [(St []),(St []),(.sc (.slice none 0 0)),(St []),(N .i64 0)] [] fun x=>aC d c x 5 fun i=>aK i c 5 fun r=>Q (.tup [r,(N .i64 1)]) i) ( aK d l 5 fun y=>aC d c y 5 fun j=>aK j c 5 fun s=>Q (.tup [s,(N .i64 0)]) j)
def sj (p1 p2:Nat) (p3 p4 p5 p6:ak) (a0 a1:AV) (M0:RM) (Q:aj) : Prop:=mh p1 a0 fun U G=>bf U G M0 fun e B=>bf (.row [(St []),(St [])] false p2 0) (fun n=>.ptr n 0) B fun h p=>aK p e 5 fun X=>p3 [X] p fun A q=>aI A 0 fun vx=>aI A 1 fun Y=>af .neq Y (N .i64 0) fun d=>aa d false (fun c=>aB e 0 fun Z=>c Z q) (fun c=>c .undef q) fun va m=>aa d false (fun R=>ah m va fun vb=>R vb m) (fun c=>c .undef m) fun vc y=>aa d false (fun S=>aV .eql vc (St [114,97,119]) fun vd=>S vd y) (fun c=>c .undef y) fun ve z=>aD d (Bo true) ve fun g=>aa g false (fun H=>aB e 1 fun vf=>H vf z) (fun c=>c .undef z) fun vg j=>aa g false (fun I=>ah j vg fun vh=>I vh j) (fun c=>c .undef j) fun vi r=>aa g false (fun L=>p4 [vi] r fun vj C=>L vj C) (fun c=>c .undef r) fun vk s=>aD g (Bo true) vk fun o=>aa o false (fun O=>O a1 s) (fun c=>c .undef s) fun vl t=>aa o false (fun P=>af .lss vl (N .i64 0) fun vm=>P vm t) (fun c=>c .undef t) fun vn l=>aD o (Bo true) vn fun vo=>au vo ( eT [(St []),(St [])] [] fun vp=>aC l h vp 2 fun u=>aK u h 2 fun V=>Q (.tup [V,(Bo false)]) u) ( aK l e 5 fun vq=>p5 [vq] l fun vr D=>bf (.row [(St []),(St [])] false p2 0) (fun n=>.ptr n 0) D fun i E=>aC E i vr 2 fun v=>aB i 0 fun vs=>ah v vs fun vt=>p6 [vt,a1] v fun vu F=>aB i 0 fun vv=>aC F vv vu 1 fun w=>aK w i 2 fun vw=>aC w h vw 2 fun x=>aK x h 2 fun W=>Q (.tup [W,(Bo true)]) x)
def xC (p1:Nat) (p2 p3:ak) (p4:Nat) (a0:AV) (M0:RM) (Q:aj) : Prop:=bz (fun vs l p=>bQ a0 fun xp=>af .lss (ag l 1) xp fun vx=>au vx ( aW a0 (ag l 1) 5 fun vz=>aK p vz 5 fun v0=>bf (.row [(St []),(St []),(.sc (.slice none 0 0)),(St []),(N .i64 0)] false p1 0) (fun X=>.ptr X 0) p fun j O=>aC O j v0 5 fun u=>aK u j 5 fun v1=>p2 [v1,(St [98,101,103,105,110])] u fun v2 m=>fF v2 fun v3=>au v3 ( aB j 4 fun v4=>ah m v4 fun v5=>Q (.tup [(.sc (.slice none 0 0)),v5]) m) ( aK m j 5 fun v6=>eY p1 1 [(St []),(St []),(.sc (.slice none 0 0)),(St []),(N .i64 0)] [(0,5,v6)] fun vu Y=>bf vu Y m fun v7 A=>af .add (ag l 1) (N .i64 1) fun o=>bQ a0 fun v8=>af .lss o v8 fun e=>aa e true (fun c=>c a0 A) (fun c=>c .undef A) fun v9 D=>aa e true (fun vo=>vo o D) (fun c=>c .undef D) fun wa L=>aa e true (fun vr=>aW v9 wa 5 fun wb=>vr wb L) (fun c=>c .undef L) fun wc t=>aa e true (fun vb=>aK t wc 5 fun wd=>vb wd t) (fun c=>c .undef t) fun we v=>aa e true (fun vc=>p2 [we,(St [118,101,114,115,105,111,110])] v fun wf P=>vc wf P) (fun c=>c .undef v) fun wg w=>aa e true (fun vd=>fF wg fun wh=>vd wh w) (fun c=>c .undef w) fun wi q=>aD e wi (Bo false) fun wj=>au wj ( aW a0 o 5 fun wk=>aB wk 4 fun wl=>ah q wl fun wm=>Q (.tup [(.sc (.slice none 0 0)),wm]) q) ( af .add o (N .i64 1) fun wn=>bz (fun vt d x=>bQ a0 fun wo=>af .lss (ag d 1) wo fun g=>aa g true (fun ve=>ve a0 x) (fun c=>c .undef x) fun wp y=>aa g true (fun vf=>vf (ag d 1) y) (fun c=>c .undef y) fun wq z=>aa g true (fun vg=>aW wp wq 5 fun wr=>vg wr z) (fun c=>c .undef z) fun ws r=>aa g true (fun vh=>aK r ws 5 fun wt=>vh wt r) (fun c=>c .undef r) fun wu B=>aa g true (fun vi=>p2 [wu,(St [101,110,100])] B fun wv R=>vi wv R) (fun c=>c .undef B) fun ww C=>aa g true (fun vj=>fF ww fun wx=>vj wx C) (fun c=>c .undef C) fun wy i=>aD g wy (Bo false) fun wz=>au wz ( aW a0 (ag d 1) 5 fun w1=>aB w1 1 fun w2=>ah i w2 fun w3=>p3 [w3] i fun h E=>aa h false (fun vk=>vk a0 E) (fun c=>c .undef E) fun w4 F=>aa h false (fun vl=>vl (ag d 1) F) (fun c=>c .undef F) fun w5 G=>aa h false (fun vm=>aW w4 w5 5 fun w6=>vm w6 G) (fun c=>c .undef G) fun w7 H=>aa h false (fun vn=>aB w7 0 fun w8=>vn w8 H) (fun c=>c .undef H) fun w9 s=>aa h false (fun vp=>ah s w9 fun xa=>vp xa s) (fun c=>c .undef s) fun xb I=>aa h false (fun vq=>aV .eql xb (St [114,97,119]) fun xc=>vq xc I) (fun c=>c .undef I) fun xd n=>aD h (Bo true) xd fun xe=>au xe ( aW a0 (ag d 1) 5 fun xf=>aB xf 4 fun xg=>ah n xg fun xh=>Q (.tup [(.sc (.slice none 0 0)),xh]) n) ( aW a0 (ag d 1) 5 fun xi=>aK n xi 5 fun xj=>eY p1 1 [(St []),(St []),(.sc (.slice none 0 0)),(St []),(N .i64 0)] [(0,5,xj)] fun vv Z=>bf vv Z n fun xk S=>appW p1 5 80 [(St []),(St []),(.sc (.slice none 0 0)),(St []),(N .i64 0)] false (ag d 2) xk S fun xl U=>af .add (ag d 1) (N .i64 1) fun w0=>vt [(ag d 0),w0,xl] U)) ( bQ a0 fun xm=>af .geq (ag d 1) xm fun xn=>au xn ( aB j 4 fun xo=>ah i xo fun xq=>Q (.tup [(.sc (.slice none 0 0)),xq]) i) ( eY p4 1 [(.sc (.slice none 0 0))] [(0,1,(ag d 2))] fun vw va=>bf vw va i fun xr V=>appW p4 1 24 [(.sc (.slice none 0 0))] false (ag d 0) xr V fun xs W=>af .add (ag d 1) (N .i64 1) fun vy=>vs [xs,vy] W))) [(ag l 0),wn,v7] q))) ( Q (.tup [(ag l 0),(N .i64 0)]) p)) [(.sc (.slice none 0 0)),(N .i64 0)] M0
def vP (p1 p2:Nat) (p3:ak) (p4:Nat) (p5 p6:ak) (a0:AV) (M0:RM) (Q:aj) : Prop:=bf (.row [(St []),(.sc (.slice none 0 0)),(N .i64 0)] false p1 0) (fun g=>.ptr g 0) M0 fun d u=>aW a0 (N .i64 0) 5 fun vb=>aB vb 4 fun vc=>ah u vc fun vd=>aB d 2 fun ve=>aC u ve vd 1 fun E=>bf (.map [] 0) (fun g=>.map g) E fun s F=>bP (kw 5 a0 (some (N .i64 1)) none none) fun B=>bQ B fun vf=>bz (fun X j o=>af .lss (ag j 1) vf fun vg=>au vg ( aW B (ag j 1) 5 fun vh=>aK o vh 5 fun vi=>bf (.row [(St []),(St []),(.sc (.slice none 0 0)),(St []),(N .i64 0)] false p2 0) (fun g=>.ptr g 0) o fun t L=>aC L t vi 5 fun z=>aK z t 5 fun vj=>p3 [vj] z fun vk O=>bf (.row [(St []),(St [])] false p4 0) (fun g=>.ptr g 0) O fun e P=>aC P e vk 2 fun r=>aB e 0 fun vl=>ah r vl fun l=>ul false [2] (N .i64 0) false r s l fun vm=>p5 [l,vm] r fun vn R=>aB e 0 fun vo=>aC R vo vn 1 fun A=>ul false [2] (N .i64 0) false A s l fun vp=>af .add vp (N .i64 1) fun vq=>yS false [2] A s l vq fun m=>aB e 0 fun vr=>ah m vr fun vs=>aR vs fun vt=>af .gtr vt (N .i64 64) fun i=>aa i false (fun c=>aB e 1 fun vu=>c vu m) (fun c=>c .undef m) fun vv n=>aa i false (fun U=>ah n vv fun vw=>U vw n) (fun c=>c .undef n) fun vx v=>aa i false (fun V=>aR vx fun vy=>V vy v) (fun c=>c .undef v) fun vz w=>aa i false (fun W=>af .gtr vz (N .i64 512) fun v0=>W v0 w) (fun c=>c .undef w) fun v1 h=>aD i (Bo true) v1 fun v2=>au v2 ( eT [(St []),(.sc (.slice none 0 0)),(N .i64 0)] [] fun v3=>aB t 4 fun C=>ah h C fun D=>aC h d v3 3 fun p=>ah p C fun v4=>(v4=D∧aK p d 3 fun Z=>Q (.tup [Z,D,(N .i64 2)]) p)) ( aB d 1 fun v5=>ah h v5 fun v6=>aK h e 2 fun v7=>eY p4 1 [(St []),(St [])] [(0,2,v7)] fun Y S=>bf Y S h fun v8 G=>appW p4 2 32 [(St []),(St [])] false v6 v8 G fun v9 H=>aB d 1 fun wa=>aC H wa v9 1 fun q=>aB e 0 fun wb=>ah q wb fun wc=>aV .add wc (St [0]) fun wd=>aB e 1 fun we=>ah q we fun wf=>aV .add wd wf fun wg=>aV .add wg (St [0]) fun wh=>aV .add (ag j 0) wh fun wi=>af .add (ag j 1) (N .i64 1) fun wj=>X [wi,wj] q)) ( bP (kw 5 a0 (some (N .i64 1)) none none) fun wk=>p6 [wk,(ag j 0)] o fun wl I=>aB d 0 fun wm=>aC I wm wl 1 fun x=>aK x d 3 fun wn=>aC x d wn 3 fun y=>aK y d 3 fun va=>Q (.tup [va,(N .i64 0),(N .i64 0)]) y)) [(St []),(N .i64 0)] F
def uZ (p1 p2:Nat) (p3 p4 p5 p6 p7:ak) (a0:AV) (M0:RM) (Q:aj) : Prop:=mh p1 a0 fun vf W=>bf vf W M0 fun h G=>bf (.row [(St []),(St []),(.sc (.slice none 0 0)),(St []),(N .i64 0)] false p2 0) (fun d=>.ptr d 0) G fun A t=>aB h 0 fun vh=>ah t vh fun vi=>p3 [vi,(St [114,97,119,46])] t fun z H=>aI z 0 fun vj=>aI z 1 fun vk=>p4 [vj] H fun r S=>aI r 0 fun vl=>aI r 1 fun B=>aI r 2 fun C=>bf (.row [(St []),(St []),(.sc (.slice none 0 0)),(St []),(N .i64 0)] false p2 0) (fun d=>.ptr d 0) S fun g U=>aC U g vl 5 fun x=>aB h 1 fun vm=>ah x vm fun vn=>aB g 3 fun vo=>aC x vo vn 1 fun y=>cK (fun s=>fF vk fun j=>aa j true (fun c=>aB g 1 fun vp=>c vp y) (fun c=>c .undef y) fun vq p=>aa j true (fun ve=>ah p vq fun vr=>ve vr p) (fun c=>c .undef p) fun vs u=>aa j true (fun X=>p5 [vs] u fun vt I=>X vt I) (fun c=>c .undef u) fun vu l=>aD j vu (Bo false) fun vv=>au vv ( aB h 1 fun vw=>ah l vw fun vx=>p6 [vx] l fun vy L=>aB g 3 fun vz=>aC L vz vy 1 fun O=>s [] O) ( s [] l)) (fun wf v=>aK v g 5 fun v0=>p7 [v0,B] v fun D P=>aI D 0 fun v1=>aI D 1 fun v2=>bf (.row [(St []),(St [])] false p1 0) (fun d=>.ptr d 0) P fun q R=>aC R q v1 2 fun m=>aK m g 5 fun v3=>az C true (fun Y=>Y v2 m none) (fun c=>c .undef m none) fun v4 n d=>aD C v4 (Bo false) fun e=>az e true (fun Z=>aK n q 2 fun v5=>Z v5 n none) (fun c=>c .undef n none) fun E o wc=>az e true (fun va=>aK o h 2 fun v7=>va v7 o none) (fun c=>c .undef o none) fun F w wd=>az e true (fun vb=>nW false [2,2] E F fun v9=>vb v9 w none) (fun c=>c .undef w none) fun wa V we=>aD e wa (Bo false) fun wb=>aC V A v3 5 fun i=>CO e true (fun vc=>aK i q 2 fun v6=>(v6=E∧vc)) (fun c=>c) (CO e true (fun vd=>aK i h 2 fun v8=>(v8=F∧vd)) (fun c=>c) (aK i A 5 fun vg=>Q (.tup [vg,B,wb]) i)))
def vC (p1 p2:Nat) (p3 p4 p5 p6:ak) (a0:AV) (M0:RM) (Q:aj) : Prop:=mh p1 a0 fun U I=>bf U I M0 fun i F=>bf (.row [(St []),(St [])] false p2 0) (fun e=>.ptr e 0) F fun h l=>aK l i 5 fun vx=>aB i 3 fun D=>ah l D fun E=>Ra (.row [(St []),(St [])] false p2 0) (fun e=>.ptr e 0) l fun d G e=>p3 [vx] G fun vy n=>ah n D fun vz=>(vz=E∧(P6 e n (.row [(St []),(St [])] false p2 0) (fun e=>.ptr e 0) d∧eT [(St []),(St [])] [(0,1,vy),(1,1,E)] fun Y=>aC n d Y 2 fun t=>aB i 1 fun Z=>ah t Z fun va=>p4 [va] t fun vb j=>fF vb fun vc=>au vc ( aK j d 2 fun vd=>aC j h vd 2 fun w=>aK w h 2 fun V=>Q V w) ( aB i 3 fun ve=>ah j ve fun vf=>p5 [vf] j fun z x=>aI z 0 fun A=>aI z 1 fun vg=>af .eql vg (N .i64 0) fun g=>az g true (fun c=>c A x none) (fun c=>c .undef x none) fun vh y v3=>az g true (fun S=>aB i 3 fun vk=>S vk y none) (fun c=>c .undef y none) fun B m v0=>az g true (fun L=>ah m B fun vl=>L vl m none) (fun c=>c .undef m none) fun C q v1=>aa g true (fun O=>p6 [vh] q fun vi H=>O vi H) (fun c=>c .undef q) fun vj o=>CO g true (fun P=>ah o B fun vm=>(vm=C∧P)) (fun c=>c) (az g true (fun R=>aV .eql vj C fun vn=>R vn o none) (fun c=>c .undef o none) fun vo p v2=>aD g vo (Bo false) fun vp=>au vp ( aB d 1 fun vq=>aC p vq A 1 fun r=>aK r d 2 fun vr=>aC r h vr 2 fun s=>aK s h 2 fun W=>Q W s) ( aB d 0 fun vs=>ah p vs fun vt=>aV .add (St [114,97,119,46]) vt fun vu=>aB d 0 fun vv=>aC p vv vu 1 fun u=>aK u d 2 fun vw=>aC u h vw 2 fun v=>aK v h 2 fun X=>Q X v)))))
def ow (a0:AV) (M0:RM) (Q:aj) : Prop:=aV .eql a0 (St [98,101,103,105,110]) fun d=>aa d false (fun c=>c a0 M0) (fun c=>c .undef M0) fun s g=>aa d false (fun l=>aV .eql s (St [118,101,114,115,105,111,110]) fun t=>l t g) (fun c=>c .undef g) fun u h=>aD d (Bo true) u fun e=>aa e false (fun m=>m a0 h) (fun c=>c .undef h) fun o i=>aa e false (fun n=>aV .eql o (St [101,110,100]) fun p=>n p i) (fun c=>c .undef i) fun q j=>aD e (Bo true) q fun r=>Q r j
def oD (p1:ak) (a0 a1:AV) (M0:RM) (Q:aj) : Prop:=af .eql a1 (N .i64 0) fun h=>au h ( Q a0 M0) ( aV .add a0 (St [35]) fun i=>af .add a1 (N .i64 1) fun d=>p1 [d] M0 fun e c=>aV .add i e fun g=>Q g c)
def pJ (p1:Nat) (p2:ak) (a0 a1:AV) (M0:RM) (Q:aj) : Prop:=mh p1 a0 fun H w=>bf H w M0 fun d j=>aB d 1 fun vs=>ah j vs fun vt=>aV .neq vt a1 fun i=>aa i false (fun c=>aB d 0 fun I=>c I j) (fun c=>c .undef j) fun L l=>aa i false (fun A=>ah l L fun O=>A O l) (fun c=>c .undef l) fun P t=>aa i false (fun F=>aV .neq P (St []) fun R=>F R t) (fun c=>c .undef t) fun S u=>aD i (Bo true) S fun g=>aa g false (fun G=>aB d 2 fun U=>G U u) (fun c=>c .undef u) fun V m=>aa g false (fun x=>ah m V fun W=>x W m) (fun c=>c .undef m) fun X o=>aa g false (fun y=>bQ X fun Y=>y Y o) (fun c=>c .undef o) fun Z p=>aa g false (fun z=>af .gtr Z (N .i64 0) fun va=>z va p) (fun c=>c .undef p) fun vb e=>aD g (Bo true) vb fun vc=>au vc ( Q (Bo false) e) ( aV .eql a1 (St [118,101,114,115,105,111,110]) fun vd=>au vd ( aB d 3 fun ve=>ah e ve fun vf=>aV .eql vf (St [52,46,48]) fun vg=>Q vg e) ( aB d 3 fun vh=>ah e vh fun vi=>p2 [vi,(St [118,99,97,114,100])] e fun h q=>aa h true (fun B=>aB d 3 fun vj=>B vj q) (fun c=>c .undef q) fun vk n=>aa h true (fun C=>ah n vk fun vl=>C vl n) (fun c=>c .undef n) fun vm r=>aa h true (fun D=>aR vm fun vn=>D vn r) (fun c=>c .undef r) fun vo s=>aa h true (fun E=>af .eql vo (N .i64 5) fun vp=>E vp s) (fun c=>c .undef s) fun vq v=>aD h vq (Bo false) fun vr=>Q vr v))
def pI (p1 p2:Nat) (p3 p4:ak) (a0 a1:AV) (M0:RM) (Q:aj) : Prop:=cK (fun p=>bQ a0 fun vu=>bz (fun G o i=>af .lss (ag o 0) vu fun I=>au I ( aW a0 (ag o 0) 5 fun L=>aK i L 5 fun O=>bf (.row [(St []),(St []),(.sc (.slice none 0 0)),(St []),(N .i64 0)] false p1 0) (fun y=>.ptr y 0) i fun d t=>aC t d O 5 fun j=>aB d 1 fun P=>ah j P fun R=>aV .neq R (St [117,105,100]) fun h=>aa h false (fun c=>aB d 0 fun S=>c S j) (fun c=>c .undef j) fun U n=>aa h false (fun E=>ah n U fun V=>E V n) (fun c=>c .undef n) fun W s=>aa h false (fun F=>aV .neq W (St []) fun X=>F X s) (fun c=>c .undef s) fun Y g=>aD h (Bo true) Y fun Z=>au Z ( af .add (ag o 0) (N .i64 1) fun vo=>G [vo] g) ( aB d 3 fun va=>ah g va fun vb=>aR vb fun vc=>af .geq vc (N .i64 1) fun e=>aa e true (fun A=>aB d 3 fun vd=>A vd g) (fun c=>c .undef g) fun ve l=>aa e true (fun B=>ah l ve fun vf=>B vf l) (fun c=>c .undef l) fun vg q=>aa e true (fun C=>aR vg fun vh=>C vh q) (fun c=>c .undef q) fun vi r=>aa e true (fun D=>af .leq vi (N .i64 64) fun vj=>D vj r) (fun c=>c .undef r) fun vk m=>aD e vk (Bo false) fun vl=>au vl ( aB d 3 fun vm=>ah m vm fun vn=>Q vn m) ( p [] m))) ( p [] i)) [(N .i64 0)] M0) (fun vv u=>rf p2 a1 fun H z=>bf H z u fun vp v=>p3 [vp] v fun vq w=>p4 [vq] w fun vr x=>bP (aT vr none (some (N .i64 16))) fun vs=>aV .add (St [99,45]) vs fun vt=>Q vt x)
def pY (p1:Nat) (p2 p3 p4:ak) (p5:Nat) (p6:ak) (p7:Nat) (p8:ak) (a0:AV) (M0:RM) (Q:aj) : Prop:=bf (.row [(St []),(St []),(.sc (.slice none 0 0)),(St []),(N .i64 0)] false p1 0) (fun h=>.ptr h 0) M0 fun c P=>p2 [a0] P fun B R=>aI B 0 fun vy=>aI B 1 fun C=>aB c 1 fun vz=>aC R vz vy 1 fun S=>cK (fun s=>p3 [C,(St [46])] S fun D m=>aI D 0 fun v0=>aI D 1 fun v1=>au v1 ( aB c 1 fun v2=>ah m v2 fun v3=>aB c 0 fun v4=>aC m v4 v3 1 fun ve=>p2 [v0] ve fun E vg=>aI E 0 fun v5=>aI E 1 fun v6=>aB c 1 fun v7=>aC vg v7 v5 1 fun vi=>s [v6] vi) ( s [C] m)) (fun w9 vj=>bz (fun vq j vk=>p4 [(ag j 0),(St [59])] vk fun v8 g=>au v8 ( bf (.row [(St []),(.sc (.slice none 0 0))] false p5 0) (fun h=>.ptr h 0) g fun i U=>bP (aT (ag j 0) (some (N .i64 1)) none) fun v9=>p2 [v9] U fun F V=>aI F 0 fun wa=>aI F 1 fun G=>aB i 0 fun wb=>aC V wb wa 1 fun W=>p4 [G,(St [61])] W fun wc t=>fF wc fun wd=>au wd ( eT [(St []),(St []),(.sc (.slice none 0 0)),(St []),(N .i64 0)] [] fun we=>aC t c we 5 fun u=>aK u c 5 fun vu=>Q (.tup [vu,(N .i64 0),(Bo false)]) u) ( bz (fun vr r e=>au (ag r 1) ( bP (aT (ag r 0) (some (N .i64 1)) none) fun wg=>p6 [wg] e fun o l=>aI o 0 fun wh=>aI o 1 fun H=>aI o 2 fun wi=>fF wi fun wj=>au wj ( eT [(St []),(St []),(.sc (.slice none 0 0)),(St []),(N .i64 0)] [] fun wk=>aC l c wk 5 fun v=>aK v c 5 fun vv=>Q (.tup [vv,(N .i64 0),(Bo false)]) v) ( aB i 1 fun wl=>ah l wl fun wm=>eY p7 1 [(St [])] [(0,1,wh)] fun vs vl=>bf vs vl l fun wn X=>appW p7 1 16 [(St [])] false wm wn X fun wo Y=>aB i 1 fun wp=>aC Y wp wo 1 fun Z=>p4 [H,(St [44])] Z fun wf va=>vr [H,wf] va)) ( aB c 2 fun wq=>ah e wq fun wr=>aK e i 2 fun ws=>eY p5 1 [(St []),(.sc (.slice none 0 0))] [(0,2,ws)] fun vt vm=>bf vt vm e fun wt vb=>appW p5 2 40 [(St []),(.sc (.slice none 0 0))] false wr wt vb fun wu vc=>aB c 2 fun wv=>aC vc wv wu 1 fun vd=>vq [(ag r 0)] vd)) [G,(Bo true)] t)) ( aV .eql (ag j 0) (St []) fun ww=>au ww ( aK g c 5 fun wx=>aC g c wx 5 fun w=>aK w c 5 fun vw=>Q (.tup [vw,(N .i64 0),(Bo true)]) w) ( p3 [(ag j 0),(St [35])] g fun I vf=>aI I 0 fun wy=>aI I 1 fun p=>p8 [wy] vf fun L n=>aI L 0 fun O=>aI L 1 fun wz=>aK n c 5 fun w0=>af .sub O (N .i64 1) fun w1=>az p true (fun d=>d wz n none) (fun d=>d .undef n none) fun w2 x h=>az p true (fun vn=>Fz false w2 (.sc .nilIface) fun w3=>vn w3 x none) (fun d=>d .undef x none) fun w4 y xa=>aD p w4 (Bo false) fun q=>az q true (fun vo=>vo O y none) (fun d=>d .undef y none) fun w5 z xb=>az q true (fun vp=>af .geq w5 (N .i64 2) fun w6=>vp w6 z none) (fun d=>d .undef z none) fun w7 vh xc=>aD q w7 (Bo false) fun w8=>aC vh c w0 5 fun A=>aK A c 5 fun vx=>Q (.tup [vx,w1,w8]) A))) [(ag w9 0)] vj)
def qK (a0:AV) (M0:RM) (Q:aj) : Prop:=cK (fun o=>cK (fun c=>aV .eql a0 (St [102,110]) fun i=>au i ( c [i] M0) ( aV .eql a0 (St [110,105,99,107,110,97,109,101]) fun j=>au j ( c [j] M0) ( aV .eql a0 (St [116,101,108]) fun l=>au l ( c [l] M0) ( aV .eql a0 (St [101,109,97,105,108]) fun m=>au m ( c [m] M0) ( aV .eql a0 (St [110,111,116,101]) fun n=>au n ( c [n] M0) ( aV .eql a0 (St [111,114,103]) fun e=>au e ( c [e] M0) ( aV .eql a0 (St [116,105,116,108,101]) fun g=>au g ( c [g] M0) ( aV .eql a0 (St [114,111,108,101]) fun h=>au h ( c [h] M0) ( aV .eql a0 (St [99,97,116,101,103,111,114,105,101,115]) fun q=>c [q] M0))))))))) (fun r d=>au (ag r 0) ( Q (Bo true) d) ( o [] d))) (fun s p=>Q (Bo false) p)
def sM (p1 p2:Nat) (p3:ak) (a0:AV) (M0:RM) (Q:aj) : Prop:=mh p1 a0 fun E B=>bf E B M0 fun h d=>aB h 1 fun vo=>ah d vo fun u=>cK (fun n=>aB h 0 fun F=>ah d F fun G=>aV .neq G (St []) fun H=>au H ( aB h 0 fun I=>ah d I fun L=>aV .add L (St [46]) fun O=>aV .add O u fun P=>n [P] d) ( n [u] d)) (fun vp q=>aB h 2 fun R=>ah q R fun s=>bQ s fun S=>bz (fun C e i=>af .lss (ag e 1) S fun U=>au U ( aW s (ag e 1) 2 fun V=>aK i V 2 fun W=>bf (.row [(St []),(.sc (.slice none 0 0))] false p2 0) (fun A=>.ptr A 0) i fun m z=>aC z m W 2 fun j=>aB m 0 fun X=>ah j X fun Y=>aV .add (St [59]) Y fun Z=>aV .add Z (St [61]) fun va=>aV .add (ag e 0) va fun vb=>aB m 1 fun vc=>ah j vc fun t=>bQ t fun vd=>bz (fun D c g=>af .lss (ag c 1) vd fun ve=>au ve ( cK (fun v=>aW t (ag c 1) 1 fun vf=>ah g vf fun l=>cK (fun p=>af .gtr (ag c 1) (N .i64 0) fun vg=>au vg ( aV .add (ag c 0) (St [44]) fun vh=>p [vh] g) ( p [(ag c 0)] g)) (fun vq w=>cK (fun o=>p3 [l,(St [44,59,58,35])] w fun vi r=>au vi ( aV .add (St [34]) l fun vj=>aV .add vj (St [34]) fun vk=>o [vk] r) ( o [l] r)) (fun vr x=>aV .add (ag vq 0) (ag vr 0) fun vl=>v [vl] x))) (fun vs y=>af .add (ag c 1) (N .i64 1) fun vm=>D [(ag vs 0),vm] y)) ( af .add (ag e 1) (N .i64 1) fun vn=>C [(ag c 0),vn] g)) [vb,(N .i64 0)] j) ( Q (ag e 0) i)) [(ag vp 0),(N .i64 0)] q)
def mg (p1 p2:ak) (a0 a1:AV) (M0:RM) (Q:aj) : Prop:=aR a0 fun wk=>aR a1 fun wl=>Ia false wk wl fun wm=>bz (fun vz h i=>af .lss (ag h 0) wm fun wn=>au wn ( cK (fun A=>dG a0 (ag h 0) fun j=>dG a1 (ag h 0) fun l=>af .or j l fun wp=>af .geq wp (N .u8 128) fun wq=>au wq ( bP (aT a0 (some (ag h 0)) none) fun w8=>bP (aT a1 (some (ag h 0)) none) fun w9=>Dm w8 fun v1 vi=>bf v1 vi i fun xa vd=>bz (fun w p vf=>CY xa vf fun vb t=>aI vb 0 fun xb=>au xb ( aI vb 2 fun n=>aR (ag p 0) fun xc=>af .eql xc (N .i64 0) fun xd=>au xd ( Q (Bo false) t) ( p1 [(ag p 0)] t fun vc u=>aI vc 0 fun o=>aI vc 1 fun xe=>bP (aT (ag p 0) (some xe) none) fun y=>af .eql o n fun xf=>au xf ( w [y] u) ( cK (fun C=>af .lss o n fun xg=>au xg ( C [o,n] u) ( C [n,o] u)) (fun d v=>af .lss (ag d 1) (N .i32 128) fun xh=>au xh ( af .leq (N .i32 65) (ag d 0) fun z=>aa z true (fun c=>c (ag d 0) v) (fun c=>c .undef v) fun xi va=>aa z true (fun vj=>af .leq xi (N .i32 90) fun xj=>vj xj va) (fun c=>c .undef va) fun xk D=>aD z xk (Bo false) fun g=>aa g true (fun vk=>vk (ag d 1) D) (fun c=>c .undef D) fun xl E=>aa g true (fun vl=>vl (ag d 0) E) (fun c=>c .undef E) fun v2 F=>aa g true (fun vm=>af .add v2 (N .i32 97) fun v3=>vm v3 F) (fun c=>c .undef F) fun v4 G=>aa g true (fun vn=>af .sub v4 (N .i32 65) fun v5=>vn v5 G) (fun c=>c .undef G) fun v6 H=>aa g true (fun vo=>af .eql xl v6 fun v7=>vo v7 H) (fun c=>c .undef H) fun v8 I=>aD g v8 (Bo false) fun v9=>au v9 ( w [y] I) ( Q (Bo false) I)) ( p2 [(ag d 0)] v fun wa ve=>bz (fun v0 q L=>af .neq (ag q 0) (ag d 0) fun m=>aa m true (fun vp=>vp (ag q 0) L) (fun c=>c .undef L) fun wb O=>aa m true (fun vq=>vq (ag d 1) O) (fun c=>c .undef O) fun wc P=>aa m true (fun vr=>af .lss wb wc fun wd=>vr wd P) (fun c=>c .undef P) fun we s=>aD m we (Bo false) fun wf=>au wf ( p2 [(ag q 0)] s fun wg vg=>v0 [wg] vg) ( af .eql (ag q 0) (ag d 1) fun wh=>au wh ( w [y] s) ( Q (Bo false) s))) [wa] ve))))) ( aR (ag p 0) fun wi=>af .eql wi (N .i64 0) fun wj=>Q wj t)) [w9] vd) ( af .eql l j fun wr=>au wr ( A [] i) ( cK (fun B=>af .lss l j fun ws=>au ws ( B [l,j] i) ( B [j,l] i)) (fun r R=>af .leq (N .u8 65) (ag r 0) fun x=>aa x true (fun vs=>vs (ag r 0) R) (fun c=>c .undef R) fun wt S=>aa x true (fun vt=>af .leq wt (N .u8 90) fun wu=>vt wu S) (fun c=>c .undef S) fun wv U=>aD x wv (Bo false) fun e=>aa e true (fun vu=>vu (ag r 1) U) (fun c=>c .undef U) fun ww V=>aa e true (fun vv=>vv (ag r 0) V) (fun c=>c .undef V) fun wx W=>aa e true (fun vw=>af .add wx (N .u8 97) fun wy=>vw wy W) (fun c=>c .undef W) fun wz X=>aa e true (fun vx=>af .sub wz (N .u8 65) fun w0=>vx w0 X) (fun c=>c .undef X) fun w1 Y=>aa e true (fun vy=>af .eql ww w1 fun w2=>vy w2 Y) (fun c=>c .undef Y) fun w3 Z=>aD e w3 (Bo false) fun w4=>au w4 ( A [] Z) ( Q (Bo false) Z))))) (fun xm vh=>af .add (ag h 0) (N .i64 1) fun wo=>vz [wo] vh)) ( aR a0 fun w5=>aR a1 fun w6=>af .eql w5 w6 fun w7=>Q w7 i)) [(N .i64 0)] M0
def vQ (p1:ak) (a0:AV) (M0:RM) (Q:aj) : Prop:=aR a0 fun h=>p1 [a0,(St [97,98,99,100,101,102,103,104,105,106,107,108,109,110,111,112,113,114,115,116,117,118,119,120,121,122,48,49,50,51,52,53,54,55,56,57,45])] M0 fun i d=>aR i fun j=>af .sub h j fun c=>bP (aT a0 none (some c)) fun e=>bP (aT a0 (some c) none) fun g=>Q (.tup [e,g]) d
def sN (p1 p2 p3:ak) (a0:AV) (M0:RM) (Q:aj) : Prop:=p1 [a0,(St [34])] M0 fun h e=>aI h 0 fun n=>aI h 1 fun o=>au o ( p2 [n,(St [34])] e fun c l=>aI c 0 fun p=>aI c 1 fun q=>aI c 2 fun r=>Q (.tup [p,q,r]) l) ( p3 [a0,(St [44,59,58,35])] e fun i g=>cK (fun d=>af .lss i (N .i64 0) fun s=>au s ( aR a0 fun t=>d [t] g) ( d [i] g)) (fun j m=>bP (aT a0 none (some (ag j 0))) fun u=>bP (aT a0 (some (ag j 0)) none) fun v=>Q (.tup [u,v,(Bo true)]) m))
def fG (p1:ak) (p2:Nat) (p3 p4 p5:ak) (a0 a1:AV) (M0:RM) (Q:aj) : Prop:=aR a1 fun e=>af .eql e (N .i64 0) fun q=>aa q false (fun c=>c a1 M0) (fun c=>c .undef M0) fun w2 w=>aa q false (fun vk=>vk a0 w) (fun c=>c .undef w) fun w3 x=>aa q false (fun vn=>aV .eql w2 w3 fun w4=>vn w4 x) (fun c=>c .undef x) fun w5 h=>aD q (Bo true) w5 fun w6=>au w6 ( Q (N .i64 0) h) ( af .eql e (N .i64 1) fun w7=>au w7 ( dG a1 (N .i64 0) fun w8=>p1 [a0,w8] h fun w9 vj=>Q w9 vj) ( aR a0 fun xa=>af .geq e xa fun xb=>au xb ( Q (N .i64 (-1)) h) ( ah h (IJ h p2) fun xc=>af .leq e xc fun r=>aa r true (fun v3=>v3 a0 h) (fun c=>c .undef h) fun xd vb=>aa r true (fun v8=>aR xd fun xe=>v8 xe vb) (fun c=>c .undef vb) fun xf y=>aa r true (fun vl=>af .leq xf (N .i64 64) fun xg=>vl xg y) (fun c=>c .undef y) fun xh z=>aD r xh (Bo false) fun xi=>au xi ( p3 [a0,a1] z fun xj vh=>Q xj vh) ( dG a1 (N .i64 0) fun vf=>dG a1 (N .i64 1) fun xk=>aR a0 fun xl=>af .sub xl e fun xm=>af .add xm (N .i64 1) fun t=>bz (fun v9 j s=>af .lss (ag j 0) t fun xn=>au xn ( cK (fun v=>dG a0 (ag j 0) fun xo=>af .neq xo vf fun xp=>au xp ( af .add (ag j 0) (N .i64 1) fun xq=>bP (aT a0 (some xq) (some t)) fun xr=>p1 [xr,vf] s fun vg A=>af .lss vg (N .i64 0) fun xs=>au xs ( Q (N .i64 (-1)) A) ( af .add vg (N .i64 1) fun xt=>af .add (ag j 0) xt fun xu=>v [xu] A)) ( v [(ag j 0)] s)) (fun o B=>af .add (ag o 0) (N .i64 1) fun xv=>dG a0 xv fun xw=>af .eql xw xk fun d=>aa d true (fun vm=>vm a0 B) (fun c=>c .undef B) fun xx C=>aa d true (fun vo=>vo (ag o 0) C) (fun c=>c .undef C) fun xy D=>aa d true (fun vp=>vp (ag o 0) D) (fun c=>c .undef D) fun xz E=>aa d true (fun vq=>vq e E) (fun c=>c .undef E) fun x0 F=>aa d true (fun vr=>af .add xz x0 fun x1=>vr x1 F) (fun c=>c .undef F) fun x2 G=>aa d true (fun vs=>bP (aT xx (some xy) (some x2)) fun x3=>vs x3 G) (fun c=>c .undef G) fun x4 H=>aa d true (fun vt=>vt a1 H) (fun c=>c .undef H) fun x5 I=>aa d true (fun vu=>aV .eql x4 x5 fun x6=>vu x6 I) (fun c=>c .undef I) fun x7 l=>aD d x7 (Bo false) fun x8=>au x8 ( Q (ag o 0) l) ( af .add (ag o 0) (N .i64 1) fun g=>af .add (ag j 1) (N .i64 1) fun u=>ah l (IJ l p2) fun wa=>af .leq e wa fun n=>aa n true (fun vv=>vv u l) (fun c=>c .undef l) fun wb L=>aa n true (fun vw=>vw g L) (fun c=>c .undef L) fun wc O=>aa n true (fun vx=>p4 [wc] O fun wd vi=>vx wd vi) (fun c=>c .undef O) fun we P=>aa n true (fun vy=>af .gtr wb we fun wf=>vy wf P) (fun c=>c .undef P) fun wg m=>aD n wg (Bo false) fun wh=>au wh ( bP (aT a0 (some g) none) fun wi=>p3 [wi,a1] m fun vd R=>af .geq vd (N .i64 0) fun wj=>au wj ( af .add vd g fun wk=>Q wk R) ( Q (N .i64 (-1)) R)) ( ah m (IJ m p2) fun wl=>af .gtr e wl fun i=>aa i true (fun vz=>vz u m) (fun c=>c .undef m) fun wm S=>aa i true (fun v0=>v0 g S) (fun c=>c .undef S) fun wn U=>aa i true (fun v1=>qd .shr wn (N .u64 4) fun wo=>v1 wo U) (fun c=>c .undef U) fun wp V=>aa i true (fun v2=>af .add (N .i64 4) wp fun wq=>v2 wq V) (fun c=>c .undef V) fun wr W=>aa i true (fun v4=>af .geq wm wr fun ws=>v4 ws W) (fun c=>c .undef W) fun wt X=>aD i wt (Bo false) fun p=>aa p true (fun v5=>v5 g X) (fun c=>c .undef X) fun wu Y=>aa p true (fun v6=>v6 t Y) (fun c=>c .undef Y) fun wv Z=>aa p true (fun v7=>af .lss wu wv fun ww=>v7 ww Z) (fun c=>c .undef Z) fun wx va=>aD p wx (Bo false) fun wy=>au wy ( bP (aT a0 (some g) none) fun wz=>p5 [wz,a1] va fun ve vc=>af .lss ve (N .i64 0) fun w0=>au w0 ( Q (N .i64 (-1)) vc) ( af .add g ve fun w1=>Q w1 vc)) ( v9 [g,u] va))))) ( Q (N .i64 (-1)) s)) [(N .i64 0),(N .i64 0)] z))))
def jF (p1 p2 p3:ak) (a0 a1:AV) (M0:RM) (Q:aj) : Prop:=af .leq (N .i32 0) a1 fun s=>aa s true (fun c=>c a1 M0) (fun c=>c .undef M0) fun v8 x=>aa s true (fun vi=>af .lss v8 (N .i32 128) fun v9=>vi v9 x) (fun c=>c .undef x) fun wa q=>aD s wa (Bo false) fun wb=>au wb ( pu .u8 a1 fun wc=>p1 [a0,wc] q fun wd vd=>Q wd vd) ( af .eql a1 (N .i32 65533) fun we=>au we ( Dm a0 fun v7 vh=>bf v7 vh q fun wf ve=>bz (fun v4 x2 vf=>CY wf vf fun t r=>aI t 0 fun wg=>au wg ( aI t 1 fun wh=>aI t 2 fun wi=>af .eql wi (N .i32 65533) fun wj=>au wj ( Q wh r) ( v4 [] r)) ( Q (N .i64 (-1)) r)) [] ve) ( p2 [a1] q fun wk Z=>fF wk fun wl=>au wl ( Q (N .i64 (-1)) Z) ( FQ a1 fun g=>aR g fun wm=>af .sub wm (N .i64 1) fun h=>bz (fun v6 e p=>aR a0 fun wn=>af .lss (ag e 0) wn fun wo=>au wo ( cK (fun w=>dG a0 (ag e 0) fun wp=>dG g h fun wq=>af .neq wp wq fun wr=>au wr ( af .add (ag e 0) (N .i64 1) fun ws=>bP (aT a0 (some ws) none) fun wt=>dG g h fun wu=>p1 [wt,wu] p fun va y=>af .lss va (N .i64 0) fun wv=>au wv ( Q (N .i64 (-1)) y) ( af .add va (N .i64 1) fun ww=>af .add (ag e 0) ww fun wx=>w [wx] y)) ( w [(ag e 0)] p)) (fun v vb=>bz (fun v5 o n=>aR g fun wy=>af .lss (ag o 0) wy fun wz=>au wz ( af .sub (ag v 0) (ag o 0) fun w1=>dG a0 w1 fun w2=>af .sub h (ag o 0) fun w3=>dG g w3 fun w4=>af .neq w2 w4 fun w5=>au w5 ( af .add (ag e 1) (N .i64 1) fun u=>af .add (ag v 0) (N .i64 1) fun i=>aa (Bo true) true (fun vj=>vj u n) (fun c=>c .undef n) fun w7 z=>aa (Bo true) true (fun vk=>vk i z) (fun c=>c .undef z) fun w8 A=>aa (Bo true) true (fun vl=>p3 [w8] A fun w9 vc=>vl w9 vc) (fun c=>c .undef A) fun xa B=>aa (Bo true) true (fun vm=>af .gtr w7 xa fun xb=>vm xb B) (fun c=>c .undef B) fun xc C=>aD (Bo true) xc (Bo false) fun j=>aa j true (fun vn=>vn i C) (fun c=>c .undef C) fun xd D=>aa j true (fun vo=>vo a0 D) (fun c=>c .undef D) fun xe E=>aa j true (fun vp=>aR xe fun xf=>vp xf E) (fun c=>c .undef E) fun xg F=>aa j true (fun vq=>af .lss xd xg fun xh=>vq xh F) (fun c=>c .undef F) fun xi G=>aD j xi (Bo false) fun l=>aa l false (fun vr=>vr (Bo false) G) (fun c=>c .undef G) fun d H=>aa d true (fun vs=>vs u H) (fun c=>c .undef H) fun xj I=>aa d true (fun vt=>vt i I) (fun c=>c .undef I) fun xk L=>aa d true (fun vu=>qd .shr xk (N .u64 4) fun xl=>vu xl L) (fun c=>c .undef L) fun xm O=>aa d true (fun vv=>af .add (N .i64 4) xm fun xn=>vv xn O) (fun c=>c .undef O) fun xo P=>aa d true (fun vw=>af .geq xj xo fun xp=>vw xp P) (fun c=>c .undef P) fun xq R=>aa l false (fun vx=>aD d xq (Bo false) fun xr=>vx xr R) (fun c=>c .undef R) fun xs S=>aa l false (fun vy=>vy xs S) (fun c=>c .undef S) fun m U=>aa m true (fun vz=>vz i U) (fun c=>c .undef U) fun xt V=>aa m true (fun v0=>v0 a0 V) (fun c=>c .undef V) fun xu W=>aa m true (fun v1=>aR xu fun xv=>v1 xv W) (fun c=>c .undef W) fun xw X=>aa m true (fun v2=>af .lss xt xw fun xx=>v2 xx X) (fun c=>c .undef X) fun xy Y=>aa l false (fun v3=>aD m xy (Bo false) fun xz=>v3 xz Y) (fun c=>c .undef Y) fun x0 vg=>aD l (Bo true) x0 fun x1=>au x1 ( False) ( v6 [i,u] vg)) ( af .add (ag o 0) (N .i64 1) fun w0=>v5 [w0] n)) ( af .sub (ag v 0) h fun w6=>Q w6 n)) [(N .i64 1)] vb)) ( Q (N .i64 (-1)) p)) [h,(N .i64 0)] Z)))
end Go.Ab.Vc
set_option maxRecDepth 10000
namespace Go.Ab.Vc
open Go Go.Ab Go.Ab.Vl Go.Ab.Sm
def Kw (c:ak) : Prop:=∀ {M:RM} {s:Str} {Q:aj},Q (Bo (xX s)) M→c [St s] M Q
theorem RD:Kw fun args M Q=>∃ a0,args=[a0]∧ow a0 M Q:=by
 intro M s Q hQ
 refine⟨_,rfl, ?_⟩
 unfold ow
 simp only[dR]
 rw[gy]
 have e1:∀ x:Str,(s == x)=decide (s=x):=fun x=>by by_cases h:s=x <;> simp[h]
 rw[e1]
 unfold xX at hQ
 cases h1:decide (s=rC) with
 | true =>
   simp only[h1,Bool.true_or] at hQ
   simp only[eu,fq]
   exact hQ
 | false =>
   simp only[h1,Bool.false_or] at hQ
   simp only[iQ,iw]
   rw[gy,e1]
   cases h2:decide (s=iH) with
   | true=>simp only[h2,Bool.true_or] at hQ; simp only[eu,fq]; exact hQ
   | false =>
     simp only[h2,Bool.false_or] at hQ
     simp only[iQ,iw]
     rw[gy,e1]
     exact hQ
def Ka (c:ak) : Prop:=∀ {M:RM} {s:Str} {Q:aj},Q (Bo (Ae s)) M→c [St s] M Q
theorem Tt (s:Str) : Ae s=OL.any fun x=>s == x:=by
 unfold Ae
 cases h:OL.any (fun x=>s == x) with
 | true =>
   obtain⟨x,h1,h2⟩:=List.any_eq_true.1 h
   have e:s=x:=by simpa using h2
   subst e
   exact decide_eq_true h1
 | false =>
   refine decide_eq_false fun hm=>?_
   have:=List.any_eq_false.1 h s hm
   simp at this
theorem RL:Ka fun args M Q=>∃ a0,args=[a0]∧qK a0 M Q:=by
 intro M s Q hQ
 refine⟨_,rfl, ?_⟩
 unfold qK
 simp only[dK]
 rw[Tt] at hQ
 refine bO (fun ys M'=>M'=M∧(OL.any fun x=>s == x)=false) (fun ys M' h=>by obtain⟨rfl,h⟩:=h; rw[h] at hQ; exact hQ) ?_
 intro J hJ
 refine bO (fun ys M'=>M'=M∧ys=[Bo (OL.any fun x=>s == x)]) (fun ys M' h=>?_) ?_
 ·obtain⟨rfl,rfl⟩:=h
  dsimp only[ag]
  refine aY (fun h=>by rw[h] at hQ; exact hQ) fun h=>hJ _ _ ⟨rfl,h⟩
 intro J2 hJ2
 unfold OL at hJ2
 simp only[List.any_cons,List.any_nil,Bool.or_false] at hJ2
 repeat' first
  | (rw[gy]; refine aY (fun h=>hJ2 _ _ ⟨rfl,by simp[h]⟩) fun h=>?_)
  | (rw[gy]; refine hJ2 _ _ ⟨rfl,by simp[*]⟩)
def VW (B:Base) (c:ak) : Prop:=∀ {M:RM} {n:Int} {Q:aj},M.base=B→-9223372036854775808≤n→n≤9223372036854775807→(∀ M',ae [] M M'→Q (St (Lib.itoa n)) M')→c [N .i64 n] M Q
def QK (B:Base) (c:ak) : Prop:=∀ {M:RM} {s:Str} {k:Int} {Q:aj},M.base=B→s.length≤1000000000→(∀ M',ae [] M M'→Q (St (kR s k)) M')→c [St s,N .i64 k] M Q
theorem UT {B:Base} {ci:ak} (hi:VW B ci) : QK B fun args M Q=>∃ a0 a1,args=[a0,a1]∧oD ci a0 a1 M Q:=by
 intro M s k Q hB hs hQ
 refine⟨_,_,rfl, ?_⟩
 unfold oD
 rw[dD]
 unfold kR at hQ
 refine aY (fun h=>?_) (fun h=>?_)
 ·have h:k=0:=by simpa using h
  rw[if_pos h] at hQ
  exact hQ M (ae.refl _ _)
 ·have h:¬ k=0:=by simpa using h
  rw[if_neg h] at hQ
  rw[bI]
  refine⟨by simp; omega, ?_⟩
  rw[eH]
  have hw : -9223372036854775808≤IntKind.wrap .i64 (k + 1)∧IntKind.wrap .i64 (k + 1)≤9223372036854775807:=by
   rw[IntKind.wrap_i64]; omega
  refine hi hB hw.1 hw.2 fun M' k'=>?_
  rw[bI]
  have:=Lib.itoa_length_le _ hw.1 hw.2
  refine⟨by simp; omega, ?_⟩
  exact hQ M' k'
def PL (B:Base) (c:ak) : Prop:=∀ {M:RM} {s:Str} {Q:aj},M.base=B→s.length≤1000000000→(∀ M',ae [] M M'→Q (Bo (Hq s)) M')→c [St s,St mI] M Q
theorem Jo (s:Str) : (Lib.indexAny s mI=-1∧∀ x∈s,x ∉ mI)∨∃ a c b,s=a++c :: b∧Lib.indexAny s mI=(a.length:Int)∧c∈mI∧∀ x∈a,x ∉ mI:=by
 induction s with
 | nil=>exact .inl ⟨rfl,by simp⟩
 | cons d s ih =>
   by_cases hd:d∈mI
   ·refine .inr ⟨[],d,s,rfl, ?_,hd,by simp⟩
    have:mI.contains d=true:=by simpa using hd
    simp[Lib.indexAny,hd]
   ·have hn:mI.contains d=false:=by simpa using hd
    rcases ih with⟨e,h⟩ | ⟨a,c,b,e1,e2,h1,h2⟩
    ·refine .inl ⟨by simp[Lib.indexAny,hd,e],fun x hx=>?_⟩
     rcases List.mem_cons.1 hx with rfl | hx
     ·exact hd
     ·exact h x hx
    ·refine .inr ⟨d :: a,c,b,by rw[e1]; rfl, ?_,h1,fun x hx=>?_⟩
     ·simp[Lib.indexAny,hd,e2]
     ·rcases List.mem_cons.1 hx with rfl | hx
      ·exact hd
      ·exact h2 x hx
theorem T9 {B:Base} {ci:ak} (hi:ni mI B ci) : PL B fun args M Q=>∃ a0 a1,args=[a0,a1]∧gz ci a0 a1 M Q:=by
 intro M s Q hM hl hQ
 refine⟨_,_,rfl, ?_⟩
 unfold gz
 refine hi hM hl fun M' k=>?_
 have hQ:=hQ M' k
 rw[fM]
 rcases Jo s with⟨e,h⟩ | ⟨a,c,b,e1,e2,h1,h2⟩
 ·have:Hq s=false:=by
   unfold Hq
   rw[List.any_eq_false]
   intro x hx
   simpa using h x hx
  rw[this] at hQ
  rw[e]; exact hQ
 ·have:Hq s=true:=by
   unfold Hq
   rw[List.any_eq_true]
   exact⟨c,by rw[e1]; simp,by simpa using h1⟩
  rw[this] at hQ
  rw[e2,show decide ((a.length:Int) ≥ 0)=true from decide_eq_true (by omega)]; exact hQ
def Av (j:Nat) (vs:List Str) : Str:=if j=0 then DY vs else zP (vs.drop j)
theorem PN {vs:List Str} {j:Nat} (hj:j<vs.length) : Av j vs=(if 0<j then[44] else[])++(q4 vs[j]++Av (j + 1) vs):=by
 unfold Av
 rw[if_neg (by omega:¬ j + 1=0)]
 by_cases h:j=0
 ·subst h
  rw[if_pos rfl,if_neg (by omega)]
  cases vs with
  | nil=>simp at hj
  | cons v vs=>rfl
 ·rw[if_neg h,if_pos (by omega),List.drop_eq_getElem_cons hj]
  rfl
theorem SB (vs:List Str) : Av vs.length vs=[]:=by
 unfold Av
 cases vs with
 | nil=>rfl
 | cons v vs=>rw[if_neg (by simp),List.drop_length]; rfl
def Nq (B:Base) (c:ak) : Prop:=∀ {M:RM} {cs:List AV} {L:Ln} {k:Int} {S:Nat→Prop} {Q:aj},M.base=B→iC.rel M cs (L,k) S→LB 1000000000 L→(gW L).length≤140737488355328→(∀ M',ae [] M M'→Q (St (gW L)) M')→c [.agg cs] M Q
theorem QQ {B:Base} {TL TP:Nat} {ca:ak} (ha:PL B ca) : Nq B fun args M Q=>∃ a0,args=[a0]∧sM TL TP ca a0 M Q:=by
 intro M cs L k S Q hBM hrel hB hPl hQ
 obtain⟨v,rfl,hps⟩:=hrel
 simp only at hps
 refine⟨_,rfl, ?_⟩
 unfold sM
 simp only[dK]
 have hall:([St L.g,St L.n,v,St L.v,N .i64 k] : List AV).all oneCell=true:=by simp[eZ,hps.one]
 rw[gX hall (by simp),aG]
 have k1:ae [] M (M.push (.row [St L.g,St L.n,v,St L.v,N .i64 k] false TL 0)):=(ae.refl _ _).push _
 have h1:(M.push (.row [St L.g,St L.n,v,St L.v,N .i64 k] false TL 0)).heap M.next=some (.row [St L.g,St L.n,v,St L.v,N .i64 k] false TL 0):=RM.aS _
 have n1:(M.push (.row [St L.g,St L.n,v,St L.v,N .i64 k] false TL 0)).next=M.next + 1:=bG _
 generalize M.push (.row [St L.g,St L.n,v,St L.v,N .i64 k] false TL 0)=M1 at *
 have YP:bE jd M1 v L.ps S:=hps.keep k1 (by simp)
 have aax:=hB.ps
 have hgl:=hB.g
 have hnl:=hB.n
 rw[aQ,ay h1 rfl]
 have hP:lm L++L.n++L.ps.flatMap Fb=gW L:=by unfold gW DJ; rw[List.append_assoc]
 generalize gW L=P at *
 refine bO (fun ys M'=>ys=[St (lm L++L.n)]∧M'=M1) ?_ ?_
 rotate_left 1
 ·intro J hJ
  rw[aQ,ay h1 rfl,ja]
  unfold lm at hJ
  refine aY (fun h=>?_) (fun h=>?_)
  ·have h:¬ L.g=[]:=by simpa using h
   rw[if_neg h] at hJ
   rw[aQ,ay h1 rfl,bI]
   refine⟨by simp; omega, ?_⟩
   rw[bI]
   exact⟨by simp; omega,hJ _ _ ⟨rfl,rfl⟩⟩
  ·have h:L.g=[]:=by simpa using h
   rw[if_pos h] at hJ
   exact hJ _ _ ⟨rfl,rfl⟩
 rintro _ M' ⟨rfl,e⟩
 rw[e]
 clear e M'
 dsimp only[ag]
 rw[aQ,ay h1 rfl,YP.len]
 refine aP (fun m ys M5=>∃ (i:Nat) (xs:List UInt8),m=L.ps.length - i∧ys=[St xs,N .i64 (i:Int)]∧i≤L.ps.length∧ae [] M1 M5∧xs++(L.ps.drop i).flatMap Fb=P) L.ps.length
  ⟨0,_,rfl,rfl,Nat.zero_le _,ae.refl _ _,by rw[List.drop_zero]; exact hP⟩ ?_
 rintro next m ys M5 hnext ⟨i,xs,rfl,rfl,hi,k5,hx⟩
 dsimp only[ag]
 have Ni:=YP.keep k5 (by simp)
 rw[kJ]
 refine aY (fun hlt=>?_) (fun hge=>?_)
 ·have hlt:i<L.ps.length:=of_decide_eq_true hlt
  have hmem:=List.getElem_mem hlt
  have b1:=hB.pn _ hmem
  have b2:=hB.pl _ hmem
  have b3:=hB.pv _ hmem
  rw[List.drop_eq_getElem_cons hlt,List.flatMap_cons] at hx
  have hpj:Fb L.ps[i]=[59]++L.ps[i].1++[61]++DY L.ps[i].2:=rfl
  have hxl:=F9 hx
  rw[hpj] at hxl
  simp only[List.length_append,List.length_cons,List.length_nil] at hxl
  generalize hrest:(L.ps.drop (i + 1)).flatMap Fb=rest at *
  obtain⟨pv,hpv,hpa⟩:=Ir Ni hlt
  rw[hpa,aG,bN (n:=2) (x:=.agg [St L.ps[i].1,pv]) (l:=[St [],aF]) (RM.aS _) rfl rfl (by show([St L.ps[i].1,pv] : List AV).all oneCell=true; simp[eZ,hpv.one])]
  have k6:ae [] M5 ((M5.push (.row [St [],aF] false TP 0)).put M5.next (.row (AV.agg [St L.ps[i].1,pv]).cells false TP 0)):=((ae.refl _ _).push _).new _ (Nat.le_refl _)
  have h6:((M5.push (.row [St [],aF] false TP 0)).put M5.next (.row (AV.agg [St L.ps[i].1,pv]).cells false TP 0)).heap M5.next=some (.row [St L.ps[i].1,pv] false TP 0):=aA _
  have n6:((M5.push (.row [St [],aF] false TP 0)).put M5.next (.row (AV.agg [St L.ps[i].1,pv]).cells false TP 0)).next=M5.next + 1:=rfl
  generalize (M5.push (.row [St [],aF] false TP 0)).put M5.next (.row (AV.agg [St L.ps[i].1,pv]).cells false TP 0)=M6 at *
  have Q7:=hpv.keep k6 (by simp)
  rw[aQ,ay h6 rfl,bI]
  refine⟨by simp; omega, ?_⟩
  rw[bI]
  refine⟨by simp; omega, ?_⟩
  rw[bI]
  refine⟨by simp; omega, ?_⟩
  rw[aQ,ay h6 rfl,Q7.len]
  refine aP (fun m ys M9=>∃ (j:Nat) (zs:List UInt8),m=L.ps[i].2.length - j∧ys=[St zs,N .i64 (j:Int)]∧j≤L.ps[i].2.length∧ae [] M6 M9∧zs++(Av j L.ps[i].2++rest)=P) L.ps[i].2.length
    ⟨0,_,rfl,rfl,Nat.zero_le _,ae.refl _ _, ?_⟩ ?_
  ·rw[← hx,hpj]
   simp only[List.append_assoc,Av,if_true]
  rintro AP m ys M9 jU ⟨j,zs,rfl,rfl,hj,k9,hz⟩
  dsimp only[ag]
  rw[kJ]
  refine aY (fun hlt2=>?_) (fun EY=>?_)
  ·have hlt2:j<L.ps[i].2.length:=of_decide_eq_true hlt2
   rw[PN hlt2] at hz
   have b4:=b3 _ (List.getElem_mem hlt2)
   have hzl:=F9 hz
   simp only[List.length_append] at hzl
   have Vs:=Q7.keep k9 (by simp)
   refine bO (fun ys M'=>ys=[St (zs++((if 0<j then[44] else[])++q4 L.ps[i].2[j]))]∧ae [] M6 M') ?_ ?_
   ·rintro _ Ma ⟨rfl,ka⟩
    dsimp only[ag]
    rw[add1 (by omega)]
    refine jU _ _ _ (by omega) ⟨j + 1,_,rfl,rfl,by omega,ka, ?_⟩
    rw[← hz]
    simp only[List.append_assoc]
   intro J3 hJ3
   rw[Lp Vs.sl hlt2]
   generalize L.ps[i].2[j]=x at *
   refine bO (fun ys M'=>ys=[St (zs++(if 0<j then[44] else[]))]∧M'=M9) ?_ ?_
   ·rintro _ Ma ⟨rfl,rfl⟩
    dsimp only[ag]
    refine bO (fun ys M'=>ys=[St (q4 x)]∧ae [] Ma M') ?_ ?_
    ·rintro _ Mb ⟨rfl,kb⟩
     dsimp only[ag]
     rw[bI]
     refine⟨by simp only[List.length_append]; omega, ?_⟩
     exact hJ3 _ _ ⟨by rw[List.append_assoc],k9.trans kb⟩
    intro J2 hJ2
    refine ha (((k1.trans k5).trans (k6.trans k9)).base.trans hBM) b4 fun Mb kb=>?_
    refine aY (fun hm=>?_) (fun hm=>?_)
    ·rw[bI]
     refine⟨by simp; omega, ?_⟩
     rw[bI]
     refine⟨by simp; omega, ?_⟩
     exact hJ2 _ _ ⟨by rw[q4,if_pos hm],kb⟩
    ·exact hJ2 _ _ ⟨by rw[q4,if_neg (by rw[hm]; simp)],kb⟩
   intro J2 hJ2
   rw[show(N .i64 (0:Int))=N .i64 ((0:Nat) : Int) from rfl,Cv]
   refine aY (fun hm=>?_) (fun hm=>?_)
   ·have hm:0<j:=of_decide_eq_true hm
    rw[if_pos hm] at hzl hJ2
    simp only[List.length_cons,List.length_nil] at hzl
    rw[bI]
    refine⟨by simp; omega, ?_⟩
    exact hJ2 _ _ ⟨rfl,rfl⟩
   ·have hm:¬ 0<j:=of_decide_eq_false hm
    refine hJ2 _ _ ⟨?_,rfl⟩
    rw[if_neg hm,List.append_nil]
  ·have he:j=L.ps[i].2.length:=by
    have:¬ j<L.ps[i].2.length:=of_decide_eq_false EY
    omega
   subst he
   rw[SB,List.nil_append] at hz
   rw[add1 (by omega)]
   exact hnext _ _ _ (by omega) ⟨i + 1,zs,rfl,rfl,by omega,k5.trans (k6.trans k9),by rw[hrest]; exact hz⟩
 ·have he:i=L.ps.length:=by
   have:¬ i<L.ps.length:=of_decide_eq_false hge
   omega
  subst he
  rw[List.drop_length,List.flatMap_nil,List.append_nil] at hx
  subst hx
  exact hQ M5 (k1.trans k5)
theorem NA {f g:Prop→Prop} {k:Prop} : CO (Bo false) true f g k=g k:=rfl
theorem Sj {f g:Prop→Prop} {k:Prop} : CO (Bo true) true f g k=f k:=rfl
def eP (vs:List Str) : Nat:=(vs.map fun v=>v.length + 3).sum
def jo (ps:List gV) : Nat:=(ps.map fun p=>p.1.length + 3 + eP p.2).sum
theorem DX (a:List Str) (v:Str) : eP (a++[v])=eP a + (v.length + 3):=by simp[eP]
theorem O4 (a:List gV) (p:gV) : jo (a++[p])=jo a + (p.1.length + 3 + eP p.2):=by simp[jo]
theorem OE:∀ {vs:List Str} {v:Str},v∈vs→v.length + 3≤eP vs
 | w :: vs,v,h=>by
   rw[show eP (w :: vs)=(w.length + 3) + eP vs by simp[eP]]
   rcases List.mem_cons.1 h with rfl | h
   ·omega
   ·have:=OE h; omega
theorem Pg:∀ vs:List Str,vs.length≤eP vs
 | []=>by simp
 | w :: vs=>by
   rw[show eP (w :: vs)=(w.length + 3) + eP vs by simp[eP]]
   have:=Pg vs; simp; omega
theorem Dz:∀ {ps:List gV} {p:gV},p∈ps→p.1.length + 3 + eP p.2≤jo ps
 | w :: vs,v,h=>by
   rw[show jo (w :: vs)=(w.1.length + 3 + eP w.2) + jo vs by simp[jo]]
   rcases List.mem_cons.1 h with rfl | h
   ·omega
   ·have:=Dz h; omega
theorem OA:∀ vs:List gV,vs.length≤jo vs
 | []=>by simp
 | w :: vs=>by
   rw[show jo (w :: vs)=(w.1.length + 3 + eP w.2) + jo vs by simp[jo]]
   have:=OA vs; simp; omega
theorem Ry (v:Str) : (q4 v).length≤v.length + 2:=by unfold q4; split <;> simp
theorem JJ:∀ vs:List Str,(zP vs).length≤eP vs
 | []=>by simp[zP]
 | v :: vs=>by
   rw[show eP (v :: vs)=(v.length + 3) + eP vs by simp[eP],show zP (v :: vs)=(44 :: q4 v)++zP vs from rfl]
   have:=JJ vs; have:=Ry v
   simp; omega
theorem SA (vs:List Str) : (DY vs).length≤eP vs:=by
 cases vs with
 | nil=>simp[DY]
 | cons v vs =>
   rw[show eP (v :: vs)=(v.length + 3) + eP vs by simp[eP],show DY (v :: vs)=q4 v++zP vs from rfl]
   have:=JJ vs; have:=Ry v
   simp; omega
theorem Jw:∀ ps:List gV,(DJ ps).length≤jo ps
 | []=>by simp[DJ]
 | p :: ps=>by
   rw[show jo (p :: ps)=(p.1.length + 3 + eP p.2) + jo ps by simp[jo],show DJ (p :: ps)=Fb p++DJ ps from rfl]
   have h1:=Jw ps; have h2:=SA p.2
   unfold Fb
   simp only[List.length_append,List.length_cons,List.length_nil]; omega
theorem JO:∀ vs:List Str,(tailV vs).length≤eP vs
 | []=>by simp[tailV]
 | v :: vs=>by
   rw[show eP (v :: vs)=(v.length + 3) + eP vs by simp[eP],show tailV (v :: vs)=(44 :: qv v)++tailV vs from rfl]
   have:=JO vs; have:=Tk v
   simp; omega
theorem PI (vs:List Str) : (gI vs).length≤eP vs:=by
 cases vs with
 | nil=>simp[gI]
 | cons v vs =>
   rw[show eP (v :: vs)=(v.length + 3) + eP vs by simp[eP],show gI (v :: vs)=qv v++tailV vs from rfl]
   have:=JO vs; have:=Tk v
   simp; omega
theorem JM:∀ ps:List gV,(ps.flatMap fe).length≤jo ps
 | []=>by simp
 | p :: ps=>by
   rw[show jo (p :: ps)=(p.1.length + 3 + eP p.2) + jo ps by simp[jo],List.flatMap_cons]
   have h1:=JM ps; have h2:=PI p.2
   rw[show fe p=[59]++p.1.map gp++[61]++gI p.2 from rfl]
   simp only[List.length_append,List.length_cons,List.length_nil,List.length_map]; omega
structure rQ (N:Nat) (L:Ln) : Prop where
 g:L.g.length≤N
 n:L.n.length≤N
 v:L.v.length≤N
 ps:jo L.ps≤N
theorem rQ.mono {N K:Nat} {L:Ln} (h:rQ N L) (hk:N≤K) : rQ K L:=⟨by have:=h.g; omega,by have:=h.n; omega,by have:=h.v; omega,by have:=h.ps; omega⟩
theorem rQ.lb {N:Nat} {L:Ln} (h:rQ N L) : LB N L where
 g:=h.g
 n:=h.n
 v:=h.v
 ps:=Nat.le_trans (OA _) h.ps
 pn p hp:=by have:=Dz hp; have:=h.ps; omega
 pl p hp:=by have:=Dz hp; have:=h.ps; have:=Pg p.2; omega
 pv p hp v hv:=by have:=Dz hp; have:=h.ps; have:=OE hv; omega
theorem rQ.YA {N:Nat} {L:Ln} (h:rQ N L) : (gW L).length≤3 * N + 1:=by
 have:=Jw L.ps
 have h1:=h.g; have h2:=h.n; have h3:=h.ps
 unfold gW lm
 split <;> simp <;> omega
theorem rQ.laid {N:Nat} {L:Ln} (h:rQ N L) : (ed L).length≤4 * N + 2:=by
 have:=JM L.ps
 have h1:=h.g; have h2:=h.n; have h3:=h.ps; have h4:=h.v
 unfold ed qW lm
 split <;> simp only[List.length_append,List.length_cons,List.length_nil,List.length_map] at * <;> omega
theorem V6 (v:Str) : v.length≤(qv v).length:=by unfold qv; split <;> simp <;> omega
theorem LA:∀ vs:List Str,eP vs≤3 * (tailV vs).length
 | []=>by simp[eP]
 | v :: vs=>by
   rw[show eP (v :: vs)=(v.length + 3) + eP vs by simp[eP],show tailV (v :: vs)=(44 :: qv v)++tailV vs from rfl]
   have:=LA vs; have:=V6 v
   simp; omega
theorem UD (vs:List Str) : eP vs≤3 * (gI vs).length + 3:=by
 cases vs with
 | nil=>simp[eP]
 | cons v vs =>
   rw[show eP (v :: vs)=(v.length + 3) + eP vs by simp[eP],show gI (v :: vs)=qv v++tailV vs from rfl]
   have:=LA vs; have:=V6 v
   simp; omega
theorem Mx:∀ ps:List gV,jo ps≤3 * (ps.flatMap fe).length
 | []=>by simp[jo]
 | p :: ps=>by
   rw[show jo (p :: ps)=(p.1.length + 3 + eP p.2) + jo ps by simp[jo],List.flatMap_cons]
   have h1:=Mx ps; have h2:=UD p.2
   rw[show fe p=[59]++p.1.map gp++[61]++gI p.2 from rfl]
   simp only[List.length_append,List.length_cons,List.length_nil,List.length_map]; omega
theorem Ov {N:Nat} {L:Ln} (h:(ed L).length≤N) : rQ (3 * N) L:=by
 have h1:=Mx L.ps
 have h2:L.g.length≤(lm L).length:=by unfold lm; split <;> simp[*]
 unfold ed qW at h
 simp only[List.length_append,List.length_map,List.length_cons,List.length_nil] at h
 exact⟨by omega,by omega,by omega,by omega⟩
theorem nV {L:Ln} (h:(fV bX L).2=0) : mi bX L=true∧(ed L).length≤912∧(fV bX L).1=fo 0 (ed L)++[13,10]:=by
 unfold fV at h ⊢
 split at h
 ·rename_i hg
  rw[if_pos hg]
  split at h
  ·cases h
  ·rename_i hl; rw[if_neg hl]; exact⟨hg,by omega,rfl⟩
 ·cases h
def nU (p:Fd) : AV:=.agg [St p.1,St p.2]
theorem AB {M:RM} {cs:List AV} {L:Ln} {k:Int} {S:Nat→Prop} (h:iC.rel M cs (L,k) S) : ∃ v,cs=[St L.g,St L.n,v,St L.v,N .i64 k]∧bE jd M v L.ps S∧cs.all oneCell=true∧cs.length=5:=by
 obtain⟨v,rfl,h⟩:=h
 exact⟨v,rfl,h,by simp[eZ,h.one],rfl⟩
theorem kE {M:RM} {v:AV} {L:Ln} {k:Int} {S:Nat→Prop} (h:bE jd M v L.ps S) : iC.rel M [St L.g,St L.n,v,St L.v,N .i64 k] (L,k) S:=⟨v,rfl,h⟩
theorem OP (x:Str) : (lg++[46]++x).length=4 + x.length:=by simp; omega
def FT (B:Base) (c:ak) : Prop:=∀ {M:RM} {cs:List AV} {L:Ln} {k:Int} {S:Nat→Prop} {Q:aj},M.base=B→iC.rel M cs (L,k) S→LB 1000000 L→(gW L).length≤140737488355328→(∀ M',ae [] M M'→Q (nU (bB L)) M')→c [.agg cs] M Q
theorem Lm {L:Ln} (h:LB 1000000 L) : LB 1000000000 L:=h.mono (by omega)
theorem Uc {B:Base} {TL TP:Nat} {cn ct cu ce:ak} (hn:Nq B cn) (ht:Ka ct) (hu:Mv (N .i64 14) (N .i64 0) cu) (he:Rf ce) : FT B fun args M Q=>∃ a0,args=[a0]∧vC TL TP cn ct cu ce a0 M Q:=by
 intro M cs L k S Q hBM hrel hB hPl hQ
 obtain⟨v,rfl,hps,hall,_⟩:=AB hrel
 refine⟨_,rfl, ?_⟩
 unfold vC
 rw[gX hall (by simp),aG]
 have k1:ae [] M (M.push (.row [St L.g,St L.n,v,St L.v,N .i64 k] false TL 0)):=(ae.refl _ _).push _
 have h1:(M.push (.row [St L.g,St L.n,v,St L.v,N .i64 k] false TL 0)).heap M.next=some (.row [St L.g,St L.n,v,St L.v,N .i64 k] false TL 0):=RM.aS _
 have n1:(M.push (.row [St L.g,St L.n,v,St L.v,N .i64 k] false TL 0)).next=M.next + 1:=bG _
 generalize M.push (.row [St L.g,St L.n,v,St L.v,N .i64 k] false TL 0)=M1 at *
 rw[aG]
 have k2:ae [] M1 (M1.push (.row [St [],St []] false TP 0)):=(ae.refl _ _).push _
 have h2:(M1.push (.row [St [],St []] false TP 0)).heap M1.next=some (.row [St [],St []] false TP 0):=RM.aS _
 have n2:(M1.push (.row [St [],St []] false TP 0)).next=M1.next + 1:=bG _
 generalize M1.push (.row [St [],St []] false TP 0)=M2 at *
 have h12:=k2.ax h1 (by omega) (by simp)
 rw[aO (n:=5) h12 rfl,aQ,ay h12 rfl,Pw]
 have k3:ae [] M2 (M2.push (.row [St [],St []] false TP 0)):=(ae.refl _ _).push _
 have h3:(M2.push (.row [St [],St []] false TP 0)).heap M2.next=some (.row [St [],St []] false TP 0):=RM.aS _
 have n3:(M2.push (.row [St [],St []] false TP 0)).next=M2.next + 1:=bG _
 generalize M2.push (.row [St [],St []] false TP 0)=M3 at *
 have k03:=(k1.trans k2).trans k3
 refine hn (k03.base.trans hBM) (kE (hps.keep k03 (by simp))) (Lm hB) hPl fun M4 k4=>?_
 have h14:=(k3.trans k4).ax h12 (by omega) (by simp)
 have h24:=(k3.trans k4).ax h2 (by omega) (by simp)
 have h34:=k4.ax h3 (by omega) (by simp)
 have n4:=k4.next
 rw[ay h14 rfl]
 refine⟨rfl,⟨h34,rfl⟩, ?_⟩
 rw[jk]
 refine⟨[St (gW L),St L.v],by simp[mH,known,AV.cells,oneCell], ?_⟩
 have k04:=k03.trans k4
 rw[bN (n:=2) (x:=.agg [St (gW L),St L.v]) (l:=[St [],St []]) h34 rfl rfl rfl]
 have k5:ae [] M (M4.put M2.next (.row (AV.agg [St (gW L),St L.v]).cells false TP 0)):=k04.put _ (.inl (by omega))
 have h15:(M4.put M2.next (.row (AV.agg [St (gW L),St L.v]).cells false TP 0)).heap M.next=_:=dI h14 (by omega)
 have h25:(M4.put M2.next (.row (AV.agg [St (gW L),St L.v]).cells false TP 0)).heap M1.next=_:=dI h24 (by omega)
 have h35:(M4.put M2.next (.row (AV.agg [St (gW L),St L.v]).cells false TP 0)).heap M2.next=some (.row [St (gW L),St L.v] false TP 0):=aA _
 have n5:(M4.put M2.next (.row (AV.agg [St (gW L),St L.v]).cells false TP 0)).next=M4.next:=rfl
 generalize M4.put M2.next (.row (AV.agg [St (gW L),St L.v]).cells false TP 0)=M5 at *
 rw[aQ,ay h15 rfl]
 refine ht ?_
 rw[bU]
 have fin:∀ {M6:RM} {p:Fd} {Q' : AV→RM→Prop},ae [] M M6→M6.heap M1.next=some (.row [St [],St []] false TP 0)→M6.heap M2.next=some (.row [St p.1,St p.2] false TP 0)→(∀ M',ae [] M M'→Q' (nU p) M') →
   aK M6 (.ptr M2.next 0) 2 fun t15=>aC M6 (.ptr M1.next 0) t15 2 fun M_5=>aK M_5 (.ptr M1.next 0) 2 fun res=>Q' res M_5:=by
  intro M6 p Q' k6 g1 g2 hQ'
  rw[aO (n:=2) g2 rfl,bN (n:=2) (x:=.agg [St p.1,St p.2]) (l:=[St [],St []]) g1 rfl rfl rfl,aO (n:=2) (aA _) rfl]
  exact hQ' _ (k6.put _ (.inl (by omega)))
 unfold bB at hQ
 refine aY (fun h=>?_) (fun h=>?_)
 ·have h:Ae L.n=false:=by simpa using h
  rw[h] at hQ
  exact fin (p:=(gW L,L.v)) k5 h25 h35 hQ
 ·have h:Ae L.n=true:=by simpa using h
  rw[if_pos h] at hQ
  rw[aQ,ay h15 rfl]
  refine hu hB.v fun M6 k6=>?_
  have k06:=k5.trans k6
  have h16:=k6.ax h15 (by omega) (by simp)
  have h26:=k6.ax h25 (by omega) (by simp)
  have h36:=k6.ax h35 (by omega) (by simp)
  have n6:=k6.next
  unfold uy
  cases hx:fH L.v with
  | none =>
    rw[hx] at hQ
    dsimp only at hQ ⊢
    rw[bH,bK,dD,show((14:Int) == 0)=false from rfl]
    simp only[oN,wJ,NA,iw,dS]
    rw[aQ,ay h36 rfl,bI]
    refine⟨by simp; omega, ?_⟩
    rw[aQ,bR (l':=[St (lg++[46]++gW L),St L.v]) h36 (by simp) rfl rfl rfl]
    exact fin (p:=(lg++[46]++gW L,L.v)) (k06.put _ (.inl (by omega))) (dI h26 (by omega)) (aA _) hQ
  | some x =>
    rw[hx] at hQ
    dsimp only at hQ ⊢
    have hxl:=rR _ L.v x (Nat.le_refl _) hx
    have hvl:=hB.v
    rw[bH,bK,dD,show((0:Int) == 0)=true from rfl]
    simp only[mK,rq,Sj,fq]
    rw[aQ,ay h16 rfl]
    refine he (by omega) fun M7 k7=>?_
    have k07:=k06.trans k7
    have h17:=k7.ax h16 (by omega) (by simp)
    have h27:=k7.ax h26 (by omega) (by simp)
    have h37:=k7.ax h36 (by omega) (by simp)
    have n7:=k7.next
    rw[ay h17 rfl]
    refine⟨rfl, ?_⟩
    rw[gy]
    refine aY (fun h=>?_) (fun h=>?_)
    ·have h:esc x=L.v:=by simpa using h
     rw[if_pos h] at hQ
     rw[aQ,bR (l':=[St (gW L),St x]) h37 (by simp) rfl rfl rfl]
     exact fin (p:=(gW L,x)) (k07.put _ (.inl (by omega))) (dI h27 (by omega)) (aA _) hQ
    ·have h:¬ esc x=L.v:=by simpa using h
     rw[if_neg h] at hQ
     rw[aQ,ay h37 rfl,bI]
     refine⟨by simp; omega, ?_⟩
     rw[aQ,bR (l':=[St (lg++[46]++gW L),St L.v]) h37 (by simp) rfl rfl rfl]
     exact fin (p:=(lg++[46]++gW L,L.v)) (k07.put _ (.inl (by omega))) (dI h27 (by omega)) (aA _) hQ
theorem KF {L:Ln} (h:LB 1000000 L) : (bB L).1.length≤4 + (gW L).length∧(bB L).2.length≤1000000:=by
 have hv:=h.v
 unfold bB
 split
 ·split
  ·rename_i x hx
   have:=rR _ L.v x (Nat.le_refl _) hx
   split
   ·exact⟨by dsimp only; omega,by dsimp only; omega⟩
   ·exact⟨by dsimp only; rw[OP]; omega,hv⟩
  ·exact⟨by dsimp only; rw[OP]; omega,hv⟩
 ·exact⟨by dsimp only; omega,hv⟩
def GJ (B:Base) (c:ak) : Prop:=∀ {M:RM} {cs:List AV} {L:Ln} {k j:Int} {S:Nat→Prop} {Q:aj},M.base=B→iC.rel M cs (L,k) S→LB 1000000000 L→(ed L).length≤140737488355328→(∀ M',ae [] M M'→Q (.tup [nU (jC L j).1,Bo (jC L j).2]) M')→c [.agg cs,N .i64 j] M Q
theorem Q6 {B:Base} {TL TP:Nat} {cp cr ca cn:ak} (hp:Gh B (fV bX) cp) (hr:Kw cr) (ha:FT B ca) (hn:QK B cn) : GJ B fun args M Q=>∃ a0 a1,args=[a0,a1]∧sj TL TP cp cr ca cn a0 a1 M Q:=by
 intro M cs L k j S Q hBM hrel hB9 hLl hQ
 obtain⟨v,rfl,hps,hall,_⟩:=AB hrel
 refine⟨_,_,rfl, ?_⟩
 unfold sj
 simp only[dR]
 rw[gX hall (by simp),aG]
 have k1:ae [] M (M.push (.row [St L.g,St L.n,v,St L.v,N .i64 k] false TL 0)):=(ae.refl _ _).push _
 have h1:(M.push (.row [St L.g,St L.n,v,St L.v,N .i64 k] false TL 0)).heap M.next=some (.row [St L.g,St L.n,v,St L.v,N .i64 k] false TL 0):=RM.aS _
 have n1:(M.push (.row [St L.g,St L.n,v,St L.v,N .i64 k] false TL 0)).next=M.next + 1:=bG _
 generalize M.push (.row [St L.g,St L.n,v,St L.v,N .i64 k] false TL 0)=M1 at *
 rw[aG]
 have k2:ae [] M1 (M1.push (.row [St [],St []] false TP 0)):=(ae.refl _ _).push _
 have h2:(M1.push (.row [St [],St []] false TP 0)).heap M1.next=some (.row [St [],St []] false TP 0):=RM.aS _
 have n2:(M1.push (.row [St [],St []] false TP 0)).next=M1.next + 1:=bG _
 generalize M1.push (.row [St [],St []] false TP 0)=M2 at *
 have h12:=k2.ax h1 (by omega) (by simp)
 have k02:=k1.trans k2
 rw[aO (n:=5) h12 rfl]
 refine hp (k02.base.trans hBM) (kE (hps.keep k02 (by simp))) hB9 hLl fun M3 k3=>?_
 have h13:=k3.ax h12 (by omega) (by simp)
 have h23:=k3.ax h2 (by omega) (by simp)
 have n3:=k3.next
 have k03:=k02.trans k3
 rw[bH,bK,dh]
 have hno:∀ {c:Bool},(jC L j=(([],[]),false))→c=true→∀ {M6:RM},ae [] M M6→M6.heap M1.next=some (.row [St [],St []] false TP 0) →
   eT [(St []),(St [])] [] fun t30=>aC M6 (.ptr M1.next 0) t30 2 fun YM=>aK YM (.ptr M1.next 0) 2 fun res=>Q (.tup [res,(Bo false)]) YM:=by
  intro c hf _ M6 k6 g1
  rw[jk]
  refine⟨[St [],St []],rfl, ?_⟩
  rw[bN (n:=2) (x:=.agg [St [],St []]) (l:=[St [],St []]) g1 rfl rfl rfl,aO (n:=2) (aA _) rfl]
  rw[hf] at hQ
  exact hQ _ (k6.put _ (.inl (by omega)))
 refine mZ (p:=L.g == lg) (fun hc kk hk=>?_) ?_
 ·rw[aQ,ay h13 rfl,gy]; exact hk
 refine mZ (p:=xX L.n) (fun hc kk hk=>?_) ?_
 ·rw[aQ,ay h13 rfl]; exact hr hk
 refine mZ (p:=decide (j<0)) (fun hc kk hk=>?_) ?_
 ·rw[ku]; exact hk
 refine aY (fun h=>?_) (fun h=>?_)
 ·refine hno (c:=true) ?_ rfl k03 h23
  unfold jC
  rw[if_neg]
  rintro⟨a1,a2,a3,a4⟩
  have e1:((fV bX L).2 != 0)=false:=by simp[a1]
  have e2:(L.g == lg)=false:=by simpa using a2
  have e4:decide (j<0)=false:=decide_eq_false (by omega)
  rw[e1,e2,a3,e4] at h
  cases h
 ·simp only[Bool.or_eq_false_iff] at h
  obtain⟨⟨⟨a1,a2⟩,a3⟩,a4⟩:=h
  have e1:(fV bX L).2=0:=by simpa using a1
  have e2:L.g≠lg:=by simpa using a2
  have hsz:=Ov (nV e1).2.1
  have hB:LB 1000000 L:=(hsz.mono (by omega)).lb
  have hPl:=hsz.YA
  have e4:0≤j:=by have:=of_decide_eq_false a4; omega
  have ef:jC L j=((kR (bB L).1 j,(bB L).2),true):=by unfold jC; rw[if_pos ⟨e1,e2,a3,e4⟩]
  rw[ef] at hQ
  rw[aO (n:=5) h13 rfl]
  refine ha (k03.base.trans hBM) (kE (hps.keep k03 (by simp))) hB (by omega) fun M4 k4=>?_
  have h24:=k4.ax h23 (by omega) (by simp)
  have n4:=k4.next
  have k04:=k03.trans k4
  unfold nU
  rw[aG,bN (n:=2) (x:=.agg [St (bB L).1,St (bB L).2]) (l:=[St [],St []]) (RM.aS _) rfl rfl rfl]
  have k5:ae [] M4 ((M4.push (.row [St [],St []] false TP 0)).put M4.next (.row (AV.agg [St (bB L).1,St (bB L).2]).cells false TP 0)):=((ae.refl _ _).push _).new _ (Nat.le_refl _)
  have h5:((M4.push (.row [St [],St []] false TP 0)).put M4.next (.row (AV.agg [St (bB L).1,St (bB L).2]).cells false TP 0)).heap M4.next=some (.row [St (bB L).1,St (bB L).2] false TP 0):=aA _
  have n5:((M4.push (.row [St [],St []] false TP 0)).put M4.next (.row (AV.agg [St (bB L).1,St (bB L).2]).cells false TP 0)).next=M4.next + 1:=rfl
  generalize (M4.push (.row [St [],St []] false TP 0)).put M4.next (.row (AV.agg [St (bB L).1,St (bB L).2]).cells false TP 0)=M5 at *
  have h25:=k5.ax h24 (by omega) (by simp)
  rw[aQ,ay h5 rfl]
  have hpl:=KF hB
  refine hn ((k04.trans k5).base.trans hBM) (by omega) fun M6 k6=>?_
  have h26:=k6.ax h25 (by omega) (by simp)
  have h56:=k6.ax h5 (by omega) (by simp)
  have n6:=k6.next
  have k06:=(k04.trans k5).trans k6
  rw[aQ,bR (l':=[St (kR (bB L).1 j),St (bB L).2]) h56 (by simp) rfl rfl rfl,aO (n:=2) (aA _) rfl,
   bN (n:=2) (x:=.agg [St (kR (bB L).1 j),St (bB L).2]) (l:=[St [],St []]) (dI h26 (by omega)) rfl rfl rfl,aO (n:=2) (aA _) rfl]
  exact hQ _ ((k06.put _ (.inl (by omega))).put _ (.inl (by omega)))
def Hr (B:Base) (c:ak) : Prop:=∀ {M:RM} {s:Str} {Q:aj},M.base=B→s.length≤1000000000→(∀ M' b,ae [] M M'→(b && decide (s.length=5))=decide (s.map bW=df)→Q (Bo b) M')→c [St s,St df] M Q
def Ny (B:Base) (c:ak) : Prop:=∀ {M:RM} {cs:List AV} {L:Ln} {k:Int} {S:Nat→Prop} {n:Str} {Q:aj},M.base=B→iC.rel M cs (L,k) S→LB 1000000000 L→(∀ M',ae [] M M'→Q (Bo (fJ L n)) M')→c [.agg cs,St n] M Q
theorem PS {B:Base} {TL:Nat} {ce:ak} (he:Hr B ce) : Ny B fun args M Q=>∃ a0 a1,args=[a0,a1]∧pJ TL ce a0 a1 M Q:=by
 intro M cs L k S n Q hBM hrel hB hQ
 obtain⟨v,rfl,hps,hall,_⟩:=AB hrel
 refine⟨_,_,rfl, ?_⟩
 unfold pJ
 simp only[dR]
 rw[gX hall (by simp),aG]
 have k1:ae [] M (M.push (.row [St L.g,St L.n,v,St L.v,N .i64 k] false TL 0)):=(ae.refl _ _).push _
 have h1:(M.push (.row [St L.g,St L.n,v,St L.v,N .i64 k] false TL 0)).heap M.next=some (.row [St L.g,St L.n,v,St L.v,N .i64 k] false TL 0):=RM.aS _
 have n1:(M.push (.row [St L.g,St L.n,v,St L.v,N .i64 k] false TL 0)).next=M.next + 1:=bG _
 generalize M.push (.row [St L.g,St L.n,v,St L.v,N .i64 k] false TL 0)=M1 at *
 rw[aQ,ay h1 rfl,ja]
 refine mZ (p:=L.g != []) (fun hc kk hk=>?_) ?_
 ·rw[aQ,ay h1 rfl,ja]; exact hk
 refine mZ (p:=decide (L.ps.length > 0)) (fun hc kk hk=>?_) ?_
 ·rw[aQ,ay h1 rfl,(hps.keep k1 (by simp)).len,show(N .i64 (0:Int))=N .i64 ((0:Nat) : Int) from rfl,Cv]; exact hk
 refine aY (fun h=>?_) (fun h=>?_)
 ·have:fJ L n=false:=by
   unfold fJ
   simp only[Bool.or_eq_true] at h
   rcases h with(h | h) | h
   ·have:¬ L.n=n:=by simpa using h
    rw[decide_eq_false this]; simp
   ·have:¬ L.g=[]:=by simpa using h
    rw[decide_eq_false this]; simp
   ·have:=of_decide_eq_true h
    rw[decide_eq_false (show ¬ L.ps.length=0 by omega)]; simp
  rw[this] at hQ
  exact hQ _ k1
 ·simp only[Bool.or_eq_false_iff] at h
  obtain⟨⟨a1,a2⟩,a3⟩:=h
  have e1:L.n=n:=by simpa using a1
  have e2:L.g=[]:=by simpa using a2
  have e3:L.ps.length=0:=by have:=of_decide_eq_false a3; omega
  have:fJ L n=(if n=iH then decide (L.v=Si) else decide (L.v.map bW=df)):=by
   unfold fJ
   rw[decide_eq_true e1,decide_eq_true e2,decide_eq_true e3]; rfl
  rw[this] at hQ
  rw[gy]
  refine aY (fun h=>?_) (fun h=>?_)
  ·have h:n=iH:=by simpa using h
   rw[if_pos h] at hQ
   rw[aQ,ay h1 rfl,gy]
   have:(L.v == [52,46,48])=decide (L.v=Si):=by by_cases h:L.v=Si <;> simp[h]
   rw[this]
   exact hQ _ k1
  ·have h:¬ n=iH:=by simpa using h
   rw[if_neg h] at hQ
   rw[aQ,ay h1 rfl]
   refine he (k1.base.trans hBM) hB.v fun M2 b k2 hb=>?_
   have h12:=k2.ax h1 (by omega) (by simp)
   refine wC (p:=decide (L.v.length=5)) (fun hc kk hk=>?_) ?_
   ·rw[aQ,ay h12 rfl,bA,dD]
    have:((L.v.length:Int) == 5)=decide (L.v.length=5):=by by_cases h:L.v.length=5 <;> simp[h]; omega
    rw[this]; exact hk
   rw[hb]
   exact hQ _ (k1.trans k2)
theorem Bc {α:Type} (p:α→Bool) (s:List α) : s.length - (s.dropWhile p).length=(s.takeWhile p).length:=by
 have:=congrArg List.length (List.takeWhile_append_dropWhile (p:=p) (l:=s))
 rw[List.length_append] at this; omega
def Lr (B:Base) (c:ak) : Prop:=∀ {M:RM} {s:Str} {Q:aj},M.base=B→s.length≤1000000000→(∀ M',ae [] M M'→Q (.tup [St (eO s).1,St (eO s).2]) M')→c [St s] M Q
theorem Q9 {B:Base} {ct:ak} (ht:Ls B ct) : Lr B fun args M Q=>∃ a0,args=[a0]∧vQ ct a0 M Q:=by
 intro M s Q hBM hl hQ
 refine⟨_,rfl, ?_⟩
 unfold vQ
 rw[bA]
 refine ht hBM hl fun M1 k1=>?_
 have hd:=rX (dx.contains ·) s
 rw[bA,PU hd (by omega),Bc]
 have ht:=pM (dx.contains ·) s
 have hle:(s.takeWhile (dx.contains ·)).length≤s.length:=by rw[← Bc]; omega
 rw[gZ hle,dM,bF hle,dM,ht.1,ht.2]
 exact hQ M1 k1
def QC (B:Base) (c:ak) : Prop:=∀ {M:RM} {s:Str} {Q:aj},M.base=B→s.length≤1000000000→(∀ M',ae [] M M'→Q (.tup [St (sJ s).1,St (sJ s).2.1,Bo (sJ s).2.2]) M')→c [St s] M Q
theorem SG {B:Base} {cp cc ci:ak} (hp:jR cp) (hc:Ar 34 cc) (hi:ni mI B ci) : QC B fun args M Q=>∃ a0,args=[a0]∧sN cp cc ci a0 M Q:=by
 intro M s Q hBM hl hQ
 refine⟨_,rfl, ?_⟩
 unfold sN
 simp only[dK]
 refine hp hl ?_
 unfold CZ
 unfold sJ at hQ
 cases hh:aN 34 s with
 | true =>
   rw[if_pos rfl,bH,bK,dW]
   rw[if_pos hh] at hQ
   refine hc (by simp; omega) ?_
   unfold Gu
   cases hb:brk 34 (s.drop 1) with
   | none =>
     rw[hb] at hQ
     dsimp only at hQ ⊢
     rw[bH,bK,iK]
     exact hQ _ (ae.refl _ _)
   | some x =>
     rw[hb] at hQ
     dsimp only at hQ ⊢
     rw[bH,bK,iK]
     exact hQ _ (ae.refl _ _)
 | false =>
   rw[if_neg (by simp),bH,bK,dS]
   rw[if_neg (by rw[hh]; simp)] at hQ
   refine hi hBM hl fun M1 k1=>?_
   have hlt:=xY s mI
   have hge : -1≤Lib.indexAny s mI:=by
    rcases Jo s with⟨e,_⟩ | ⟨a,c,b,_,e,_⟩ <;> omega
   refine bO (fun ys M'=>M'=M1∧ys=[N .i64 (if Lib.indexAny s mI<0 then(s.length:Int) else Lib.indexAny s mI)]) ?_ ?_
   ·rintro _ _ ⟨rfl,rfl⟩
    dsimp only[ag]
    by_cases h:Lib.indexAny s mI<0
    ·rw[if_pos h,gZ (Nat.le_refl _),dM,bF (Nat.le_refl _),dM,List.take_length,List.drop_length]
     rw[if_pos h] at hQ
     exact hQ _ k1
    ·rw[if_neg h] at hQ ⊢
     obtain⟨i,hi⟩ : ∃ i:Nat,Lib.indexAny s mI=(i:Int):=⟨(Lib.indexAny s mI).toNat,by omega⟩
     rw[hi] at hQ hlt ⊢
     have hil:i≤s.length:=by omega
     rw[gZ hil,dM,bF hil,dM]
     rw[Int.toNat_natCast] at hQ
     exact hQ _ k1
   intro J hJ
   rw[ku]
   refine aY (fun h=>?_) (fun h=>?_)
   ·have h:=of_decide_eq_true h
    rw[if_pos h] at hJ
    rw[bA]; exact hJ _ _ ⟨rfl,rfl⟩
   ·have h:=of_decide_eq_false h
    rw[if_neg h] at hJ
    exact hJ _ _ ⟨rfl,rfl⟩
end Go.Ab.Vc
