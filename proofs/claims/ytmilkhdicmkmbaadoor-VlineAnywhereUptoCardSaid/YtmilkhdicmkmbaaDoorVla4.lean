/- Part 4 of the ground of the proofs of this seat (texts R15 to VlJ7). By an AI agent. -/
import Derived.Test.YtmilkhdicmkmbaaDoorVla3
import Derived.Lib.Bytealg
import Derived.Lib.DecodeN
import Derived.Lib.ValidU
import Derived.Lib.ValidLaws
import Derived.Lib.IndexAny
import Derived.Lib.SlTrimSet
import Derived.Carry
import Derived.JoinedCond
import Derived.SizedLaws
import GoSem.Extern.Atomic
import GoSem.Extern.MapsClone
set_option linter.unusedVariables false
set_option linter.unusedSimpArgs false
namespace Go.Ab
open Go Go.RowKit
structure Enc (α:Type) where
 size:Nat
 cells:α→List AV
 len:∀ a,(cells a).length=size
 one:∀ a,(cells a).all oneCell=true
section
variable {α:Type} (E:Enc α)
def Enc.row (xs:List α) : List AV:=xs.flatMap E.cells
theorem Enc.jo (x:α) (xs:List α) : E.row (x :: xs)=E.cells x++E.row xs:=rfl
theorem Enc.oL (xs ys:List α) : E.row (xs++ys)=E.row xs++E.row ys:=by simp[Enc.row]
theorem Enc.row_one (x:α) : E.row [x]=E.cells x:=by simp[Enc.row]
theorem Enc.eH:∀ (xs:List α),(E.row xs).length=xs.length * E.size
 | []=>by simp[Enc.row]
 | x :: xs=>by rw[Enc.jo,List.length_append,E.len,Enc.eH xs,List.length_cons,Nat.succ_mul,Nat.add_comm]
theorem Enc.yA:∀ (xs:List α),(E.row xs).all oneCell=true
 | []=>by simp[Enc.row]
 | x :: xs=>by rw[Enc.jo,List.all_append,E.one,Enc.yA xs]; rfl
theorem Enc.AU:∀ (xs:List α) (i:Nat),(E.row xs).drop (i * E.size)=E.row (xs.drop i)
 | [],i=>by simp[Enc.row]
 | x :: xs,0=>by simp
 | x :: xs,i + 1=>by
   rw[Enc.jo,Nat.succ_mul,Nat.add_comm,← List.drop_drop,List.drop_left' (E.len x),Enc.AU xs i]
   rfl
theorem Enc.Gb:∀ (xs:List α) (i:Nat),(E.row xs).take (i * E.size)=E.row (xs.take i)
 | [],i=>by simp[Enc.row]
 | x :: xs,0=>by simp[Enc.row]
 | x :: xs,i + 1=>by
   rw[Enc.jo,Nat.succ_mul,Nat.add_comm,List.take_append,List.take_of_length_le (by rw[E.len]; omega),E.len,Nat.add_sub_cancel_left,Enc.Gb xs i]
   rfl
theorem Enc.sS {xs:List α} {i:Nat} (hi:i<xs.length) : ((E.row xs).drop (i * E.size)).take E.size=E.cells xs[i]:=by
 rw[Enc.AU,List.drop_eq_getElem_cons hi,Enc.jo]
 rw[List.take_append_of_le_length (by rw[E.len]; exact Nat.le_refl _),List.take_of_length_le (by rw[E.len]; exact Nat.le_refl _)]
abbrev Sl (M:RM) (v:AV) (xs:List α) : Prop:=dQ M E.size v (E.row xs) xs.length
abbrev Ow (M:RM) (base el:Nat) (v:AV) (xs:List α) : Prop:=Own M base el E.size v (E.row xs) xs.length
variable {E} {M M' : RM} {v:AV} {xs:List α}
theorem Sl.elem (h:Sl E M v xs) {i:Nat} (hi:i<xs.length) : ∃ b o,b<M.next∧b∈aD v∧(∀ (kd:IntKind) (K:AV→Prop),bS v (N kd (i:Int)) E.size K=K (.ptr b o))∧M.loads b o E.size=some (E.cells xs[i]):=by
 obtain⟨b,o,cap,rfl,hb,hl⟩:=h.pos (by omega)
 have hsum:i * E.size + E.size≤xs.length * E.size:=by rw[← Nat.succ_mul]; exact Nat.mul_le_mul_right _ hi
 refine⟨b,o + i * E.size,hb,by simp[aD],fun kd K=>?_, ?_⟩
 ·rw[AA]
  simp only[Int.toNat_natCast]
  exact propext ⟨fun h=>h.2.2,fun h=>⟨by omega,by omega,h⟩⟩
 ·rw[DW hl (i * E.size) E.size hsum,E.sS hi]
theorem Sl.at (h:Sl E M v xs) {i:Nat} (sz:Nat) (j:Int) (hi:i<xs.length) (hsz:E.size=sz:=by rfl) (hj:j=(i:Int):=by rfl) : ∃ b o,b<M.next∧b∈aD v∧(∀ (kd:IntKind) (K:AV→Prop),bS v (N kd j) sz K=K (.ptr b o))∧M.loads b o sz=some (E.cells xs[i]):=by
 subst hsz hj; exact h.elem hi
theorem fZ {b o k:Nat} {cs:List AV} (h:M.loads b o k=some cs) {j:Nat} {x:AV} (hj:cs[j]?=some x) : M.cell b (o + j)=some x:=by
 have hlt:j<k:=by rw[← Dv h]; exact(List.getElem?_eq_some_iff.1 hj).1
 rw[KC h j hlt,hj]
theorem sV {b o k:Nat} {cs:List AV} (h:M.loads b o k=some cs) {x:AV} (hj:cs[0]?=some x) : M.cell b o=some x:=fZ h hj
theorem ND {base T bytes:Nat} {zs:List AV} {u:AV} {ys:List α} {K:af} (ho:Ow E M base T v xs) (hb:base≤M.next) (hs:1≤E.size) (hu:Sl E M u ys)
  (hn:(xs.length + ys.length) * bytes≤140737488355328) (hn2:xs.length + ys.length≤140737488355328)
  (hK:∀ v' M',Ow E M' base T v' (xs++ys)→ag (aD v) M M'→M.next≤M'.next→(v'=v∨∀ b∈aD v',M.next≤b)→K v' M') :
  appW T E.size bytes zs false v u M K:=by
 refine yN ho hb hs (dQ.lQ hu _) (E.eH ys) (E.yA ys) hn hn2 ?_
 intro v' M' h1 h2 h3 h4
 refine hK v' M' ?_ h2 h3 h4
 rw[← E.oL] at h1
 simpa [Ow] using h1
theorem Sl.new {T c:Nat} {p:Bool} (ys:List α) : Sl E (M.push (.row (E.row ys) p T 0)) (.slc M.next 0 ys.length (.ex c)) ys :=
 .slc _ _ _ _ _ (by simp[RM.push]) (by rw[RM.nP (RM.bg _) (by rw[E.eH]; omega),List.drop_zero,← E.eH,List.take_length])
theorem Cr {base T bytes:Nat} {zs:List AV} {a:α} {K:af} (ho:Ow E M base T v xs) (hb:base≤M.next) (hs:1≤E.size)
  (hn:(xs.length + 1) * bytes≤140737488355328) (hn2:xs.length + 1≤140737488355328)
  (hK:∀ v' M',Ow E M' base T v' (xs++[a])→ag (aD v) M M'→M.next≤M'.next→(v'=v∨∀ b∈aD v',M.next≤b)→K v' M') :
  appW T E.size bytes zs false v (.slc M.next 0 1 (.ex 1)) (M.push (.row (E.cells a) false T 0)) K:=by
 have hk:ag [] M (M.push (.row (E.cells a) false T 0)):=(ag.refl _ _).push _
 refine ND (ys:=[a]) (Own.keep ho hk (by simp)) (Nat.le_trans hb hk.next) hs (by rw[← E.row_one]; exact Sl.new [a]) hn hn2 ?_
 intro v' M' h1 h2 h3 h4
 exact hK v' M' h1 ((hk.mono (by simp)).trans h2) (Nat.le_trans hk.next h3) (h4.imp id fun h b hb=>Nat.le_trans hk.next (h b hb))
@[go_sem] theorem Sd {T:Nat} {zs:List AV} {K:RB→(Nat→AV)→Prop} : iJ T 0 zs [] K=K (.row [] false T 0) (fun b=>.slc b 0 0 (.ex 0)):=by
 apply propext; unfold iJ
 constructor
 ·rintro⟨l,h,hk⟩; cases h; exact hk
 ·intro hk; exact⟨_,rfl,hk⟩
theorem tu {T size:Nat} {zs:List AV} {x:AV} {K:RB→(Nat→AV)→Prop} (h:x.cells.length=size) (h1:x.cells.all oneCell=true) (hz:zs.length=size) :
  iJ T 1 zs [(0,size,x)] K=K (.row x.cells false T 0) (fun b=>.slc b 0 1 (.ex 1)):=by
 have:uu (l7 zs 1) [(0,size,x)]=some x.cells:=by
  simp only[uu,l7,List.append_nil,h1,h,Nat.zero_add,hz,Nat.le_refl,and_self,if_true,List.take_zero,List.nil_append]
  rw[List.drop_of_length_le (by omega),List.append_nil]
 apply propext; unfold iJ
 constructor
 ·rintro⟨l,h,hk⟩; rw[this] at h; cases h; exact hk
 ·intro hk; exact⟨_,this,hk⟩
theorem Ow.lit (E:Enc α) {T:Nat} (M:RM) : Ow E (M.push (.row [] false T 0)) M.next T (.slc M.next 0 0 (.ex 0)) []:=Own.lit M (Nat.le_refl _)
theorem lg {i:Nat} (h:i<9223372036854775807) : IntKind.wrap .i64 ((i:Int) + 1)=((i + 1:Nat) : Int):=by
 rw[zJ (by omega) (by omega)]; rfl
end
@[go_sem] theorem PZ:bD [] [] []=some true:=rfl
@[go_sem] theorem PU (ks:List Nat) (k:IntKind) (a b:Int) (xs ys:List AV) : bD (1 :: ks) (N k a :: xs) (N k b :: ys)=if a=b then bD ks xs ys else some false:=by
 simp only[bD,mg,if_true]
 by_cases h:a=b
 ·simp[h]
 ·have:(a == b)=false:=by simp[h]
  simp[this,h]
@[go_sem] theorem PM (ks:List Nat) (a b:List UInt8) (xs ys:List AV) : bD (2 :: ks) (St a :: xs) (St b :: ys)=if a=b then bD ks xs ys else some false:=by
 simp only[bD,mg]
 by_cases h:a=b
 ·simp[h]
 ·have:(a == b)=false:=by simp[h]
  simp[this,h]
@[go_sem] theorem Ps (ks:List Nat) (a b:Bool) (xs ys:List AV) : bD (3 :: ks) (Bo a :: xs) (Bo b :: ys)=if a=b then bD ks xs ys else some false:=by
 simp only[bD,mg]
 by_cases h:a=b
 ·simp[h]
 ·have:(a == b)=false:=by simp[h]
  simp[this,h]
theorem fu (x:AV) (w:Bool) (f g:af→Prop) (F G:AV→RM→af→Prop) (k:af) :
  ae x w f g (fun v M=>ae x w (F v M) (G v M) k)=ae x w (fun k'=>f fun v M=>F v M k') (fun k'=>g fun v M=>G v M k') k:=by
 unfold ae jv
 split
 ·split <;> simp_all
 ·rfl
 ·rfl
theorem Ny (x:AV) (w:Bool) (f g:KR→Prop) (F G:AV→RM→Option Nat→KR→Prop) (k:KR) :
  bM x w f g (fun v M b=>bM x w (F v M b) (G v M b) k)=bM x w (fun k'=>f fun v M b=>F v M b k') (fun k'=>g fun v M b=>G v M b k') k:=by
 unfold bM jv
 split
 ·split <;> simp_all
 ·rfl
 ·rfl
theorem bL {body:(List AV→RM→Prop)→List AV→RM→Prop} {xs:List AV} {M:RM} (I:Nat→List AV→RM→Prop) (n:Nat) (h0:I n xs M)
  (hb:∀ (next:List AV→RM→Prop) m ys M',(∀ m' zs M'',m'<m→I m' zs M''→next zs M'')→I m ys M'→body next ys M') : dN body xs M :=
 ⟨I,n,h0,fun m ys M' hI=>hb _ m ys M' (fun m' zs M'' hlt h=>⟨m',hlt,h⟩) hI⟩
theorem Iu {P:Program} {I:World→Prop} {T:Table} (hT:iD P I T) {f:FuncId} {args:List AV} {v:AV} {M:RM} {Q:af} (hP:CP P f) (hl:∀ A,uo T f args A=some (v,A))
  (hI:∀ w,M.base.inv w→I w) (hQ:Q v M) : dE P f args M Q:=by
 refine⟨hP,fun ρ w us hargs hw=>?_⟩
 obtain⟨A,hA⟩:=hw
 refine(rH (base:=M.base) hI T hT f args A v A (hl A) ρ w us hargs hA.rel hA.size).mono fun e w' hR=>?_
 obtain⟨ρ',v',rfl,hst,hw',_,hv⟩:=hR
 refine⟨v',v,M,ρ',rfl,gm hA hst hw' rfl hA.next (Nat.le_refl _) (fun b x hx=>?_),hv,hQ⟩
 rcases hA.blk b x hx with h | ⟨c,rfl,_⟩
 ·exact .inl h
 ·exact .inr ⟨c,rfl,hx⟩
abbrev By (b:UInt8) : AV:=N .u8 (b.toNat:Int)
def BY:Enc UInt8:=⟨1,fun b=>[By b],fun _=>rfl,fun _=>rfl⟩
theorem xV (s:List UInt8) : BY.row s=s.map By:=by
 induction s with
 | nil=>rfl
 | cons b s ih=>rw[Enc.jo,ih]; rfl
def fU:Enc (List UInt8):=⟨1,fun s=>[St s],fun _=>rfl,fun _=>rfl⟩
def INT:Enc Int:=⟨1,fun n=>[N .i64 n],fun _=>rfl,fun _=>rfl⟩
theorem tO:∀ (s:List UInt8),bu byteOf (s.map By)=some s
 | []=>rfl
 | b :: s=>by
   simp only[List.map_cons,bu,byteOf,tO s]
   simp
section
variable {α:Type} {E:Enc α} {M M' : RM} {v:AV} {xs:List α}
theorem Sl.str {s:List UInt8} (h:Sl BY M v s) {K:AV→Prop} : sW M v K=K (St s) :=
 GJ (dQ.uI h (by rw[xV]; exact tO s))
theorem Sl.K8 (h:Sl E M v xs) {i:Nat} (j:Int) (hi:i<xs.length) (hsz:E.size=1:=by rfl) (hj:j=(i:Int):=by rfl) :
  ∃ b o,b<M.next∧b∈aD v∧(∀ (kd:IntKind) (K:AV→Prop),bS v (N kd j) 1 K=K (.ptr b o))∧∀ x,E.cells xs[i]=[x]→M.cell b o=some x:=by
 obtain⟨b,o,h1,h2,h3,h4⟩:=Sl.at h 1 j hi hsz hj
 exact⟨b,o,h1,h2,h3,fun x hx=>sV h4 (by rw[hx]; rfl)⟩
structure Rw (E:Enc α) (M:RM) (b:Nat) (opn:Bool) (el:Nat) (xs:List α) : Prop where
 heap:M.heap b=some (.row (E.row xs) opn el 0)
 lt:b<M.next
theorem Rw.sl {b el:Nat} {p:Bool} {cap:Cap} (h:Rw E M b p el xs) : Sl E M (.slc b 0 xs.length cap) xs:=by
 refine .slc _ _ _ _ _ h.lt ?_
 rw[RM.nP h.heap (by rw[E.eH]; omega),List.drop_zero,← E.eH,List.take_length]
theorem Rw.keep {b el:Nat} {p:Bool} {bs:List Nat} (h:Rw E M b p el xs) (hk:ag bs M M') (hb:b ∉ bs) : Rw E M' b p el xs :=
 ⟨hk.aS h.heap h.lt hb,Nat.lt_of_lt_of_le h.lt hk.next⟩
theorem Rw.new {el:Nat} {p:Bool} (M:RM) (xs:List α) : Rw E (M.push (.row (E.row xs) p el 0)) M.next p el xs :=
 ⟨RM.bg _,by simp[RM.push]⟩
theorem Rw.load {b el:Nat} {p:Bool} (h:Rw E M b p el xs) {i:Nat} (hi:i<xs.length) : M.loads b (i * E.size) E.size=some (E.cells xs[i]):=by
 have hsum:i * E.size + E.size≤xs.length * E.size:=by rw[← Nat.succ_mul]; exact Nat.mul_le_mul_right _ hi
 rw[RM.nP h.heap (by rw[E.eH]; exact hsum),E.sS hi]
theorem Enc.Oj (E:Enc α) {xs:List α} {i:Nat} (hi:i<xs.length) (x:α) : E.row (xs.set i x)=(E.row xs).take (i * E.size)++E.cells x++(E.row xs).drop (i * E.size + E.size):=by
 rw[E.Gb,← Nat.succ_mul,E.AU,List.set_eq_take_append_cons_drop,if_pos hi,E.oL,E.jo,List.append_assoc]
theorem Rw.store {b el:Nat} {p:Bool} (h:Rw E M b p el xs) {i:Nat} (hi:i<xs.length) (x:α) :
  M.stores b (i * E.size) (E.cells x)=some (M.put b (.row (E.row (xs.set i x)) p el 0))∧Rw E (M.put b (.row (E.row (xs.set i x)) p el 0)) b p el (xs.set i x):=by
 have hsum:i * E.size + E.size≤xs.length * E.size:=by rw[← Nat.succ_mul]; exact Nat.mul_le_mul_right _ hi
 refine⟨?_,RM.jf _ _,h.lt⟩
 rw[RM.IZ h.heap (by rw[E.len,E.eH]; exact hsum) (Nat.zero_le _) (E.one x),E.Oj hi,E.len]
theorem Rw.az {b el:Nat} {p:Bool} (h:Rw E M b p el xs) {i:Nat} (hi:i<xs.length) (hsz:E.size=1:=by rfl) {x:AV} (hx:E.cells xs[i]=[x]:=by rfl) : M.cell b i=some x:=by
 have:=h.load hi
 rw[hsz,Nat.mul_one] at this
 exact sV this (by rw[hx]; rfl)
theorem Rw.KV {b el:Nat} {p:Bool} (h:Rw E M b p el xs) {i:Nat} (hi:i<xs.length) (x:α) (hsz:E.size=1:=by rfl) {u:AV} (hx:E.cells x=[u]:=by rfl) :
  M.stores b i [u]=some (M.put b (.row (E.row (xs.set i x)) p el 0))∧Rw E (M.put b (.row (E.row (xs.set i x)) p el 0)) b p el (xs.set i x):=by
 have:=h.store hi x
 rw[hsz,Nat.mul_one,hx] at this
 exact this
end
@[go_sem] theorem xI (el:Nat) (s:List UInt8) (K:RB→(Nat→AV)→Prop) : rY el (St s) K=K (.row (BY.row s) true el 0) (fun b=>.slc b 0 s.length (.op 1)):=by
 rw[xV]
 apply propext; unfold rY
 constructor
 ·rintro⟨s',h,hk⟩; cases h; exact hk
 ·intro hk; exact⟨s,rfl,hk⟩
def bX (b:UInt8) : UInt8:=if 65≤b.toNat∧b.toNat≤90 then b + 32 else b
def low (s:List UInt8) : List UInt8:=s.map bX
theorem I9 (b:UInt8) : b.toNat<256:=b.toNat_lt
structure iR (n:Nat) (bs:List Nat) (M M' : RM) : Prop where
 base:M'.base=M.base
 next:M.next≤M'.next
 heap:∀ c,c<n→c ∉ bs→M'.heap c=M.heap c
theorem iR.refl (n:Nat) (bs:List Nat) (M:RM) : iR n bs M M:=⟨rfl,Nat.le_refl _,fun _ _ _=>rfl⟩
theorem iR.trans {n:Nat} {bs:List Nat} {M M1 M2:RM} (h:iR n bs M M1) (k:iR n bs M1 M2) : iR n bs M M2 :=
 ⟨k.base.trans h.base,Nat.le_trans h.next k.next,fun c h1 h2=>(k.heap c h1 h2).trans (h.heap c h1 h2)⟩
theorem ag.to {bs cs:List Nat} {n:Nat} {M M' : RM} (h:ag bs M M') (hn:n≤M.next) (hb:∀ b∈bs,n≤b∨b∈cs) : iR n cs M M' :=
 ⟨h.base,h.next,fun c h1 h2=>h.heap c (Nat.lt_of_lt_of_le h1 hn) (fun hm=>by rcases hb c hm with h3 | h3; omega; exact h2 h3)⟩
theorem ag.NR {bs cs:List Nat} {n:Nat} {M0 M M' : RM} (h:ag bs M0 M) (k:iR n cs M M') (hn:M0.next≤n) (hc:∀ c∈cs,M0.next≤c∨c∈bs) : ag bs M0 M' :=
 ⟨k.base.trans h.base,Nat.le_trans h.next k.next,fun c h1 h2=>by
  rw[k.heap c (Nat.lt_of_lt_of_le h1 hn) (fun hm=>by rcases hc c hm with h3 | h3; omega; exact h2 h3),h.heap c h1 h2]⟩
theorem Own.same {M M' : RM} {n el size n0:Nat} {v:AV} {cs:List AV} (h:Own M n0 el size v cs n) (hn:M'.next=M.next) (hb:∀ c∈aD v,M'.heap c=M.heap c) (hbase:M'.base=M.base) : Own M' n0 el size v cs n:=by
 cases h with
 | nil=>exact .nil
 | ex0 b o h1 h2 h3=>exact .ex0 b o h1 (by omega) (by simpa [RM.Ao,hb b (by simp[aD]),RM.lo,hbase] using h3)
 | op b n cs h1 h2 h3 h4=>exact .op b n cs h1 (by omega) (by rw[hb b (by simp[aD]),h3]) h4
theorem Own.one {M:RM} {n el size n0:Nat} {v:AV} {cs:List AV} (h:Own M n0 el size v cs n) : oneCell v=true:=by
 cases h <;> rfl
def J9 (B:Base) (c:ah) : Prop:=∀ {M:RM} {Q:af},M.base=B→Q (Bo true) M→c [] M Q
theorem Own.cells {M:RM} {n el size n0:Nat} {v:AV} {cs:List AV} (h:Own M n0 el size v cs n) : v.cells=[v]:=by
 cases h <;> rfl
end Go.Ab
set_option maxRecDepth 10000
namespace Go.Ab.Vl
open Go Go.Ab
structure lG (TB T8 n0:Nat) (M:RM) (b:Nat) (xs:List UInt8) : Prop where
 lt:b<n0
 hn:n0≤M.next
 row:∃ addr buf,M.heap b=some (.row [addr,buf] false TB 0)∧(addr=.sc (.pointer none)∨addr=.ptr b 0)∧Ow BY M n0 T8 buf xs∧(xs=[]→buf=aR)
def Ll (x:ah) : Prop:=∀ {v:AV} {M:RM} {Q:af},Q v M→x [v] M Q
def xS (TB:Nat) (c:ah) : Prop:=∀ {M:RM} {b:Nat} {addr buf:AV} {Q:af},M.heap b=some (.row [addr,buf] false TB 0)→(addr=.sc (.pointer none)∨addr=.ptr b 0)→oneCell buf=true →
 (∀ M',M'.heap b=some (.row [.ptr b 0,buf] false TB 0)→M'.next=M.next→M'.base=M.base→(∀ c,c≠b→M'.heap c=M.heap c)→Q (.tup []) M')→c [.ptr b 0] M Q
theorem Jb {TB:Nat} {x:ah} (hx:Ll x) : xS TB fun args M Q=>∃ a0,args=[a0]∧fD x TB a0 M Q:=by
 intro M b addr buf Q hh ha hb hQ
 refine⟨_,rfl, ?_⟩
 unfold fD
 rcases ha with rfl | rfl
 ·simp only[go_sem,RM.cell_of hh]
  refine⟨_,0,_,_,_,_,rfl,hh,by simp,hx ⟨_,_,_,_,rfl,hh,rfl, ?_⟩⟩
  simp only[go_sem,RM.iZ hh]
  rw[fC (by simp) (by simp) (by simp[oneCell])]
  simp only[go_sem]
  refine hQ _ (by simp[go_sem]) rfl rfl fun c hc=>by simp[go_sem,hc]
 ·simp only[go_sem,RM.cell_of hh]
  have:∀ K:AV→Prop,iB true 1 (.ptr b 0) (.ptr b 0) K=K (Bo false):=fun K=>(gF (r:=true) rfl (by simp[A9])).trans rfl
  rw[this]
  simp only[go_sem]
  exact hQ _ hh rfl rfl fun _ _=>rfl
def pW (TB T8:Nat) (c:ah) : Prop:=∀ {n0:Nat} {M:RM} {b:Nat} {xs s:List UInt8} {Q:af},lG TB T8 n0 M b xs→xs.length + s.length≤140737488355328 →
 (∀ M',lG TB T8 n0 M' b (xs++s)→iR n0 [b] M M'→Q (.tup [N .i64 s.length,.sc .nilIface]) M')→c [.ptr b 0,St s] M Q
theorem AP {TB T8:Nat} {c:ah} (hc:xS TB c) : pW TB T8 fun args M Q=>∃ a0 a1,args=[a0,a1]∧bR c T8 a0 a1 M Q:=by
 intro n0 M b xs s Q hB hl hQ
 obtain⟨addr,buf,hh,ha,ho,he⟩:=hB.row
 refine⟨_,_,rfl, ?_⟩
 unfold bR
 refine hc hh ha ho.one fun M1 h1 hnx hbs hot=>?_
 have hlt:=hB.lt
 have hn:=hB.hn
 have ho1:Ow BY M1 n0 T8 buf xs:=Own.same ho hnx (fun c hc=>hot c (by have:=ho.blk c hc; omega)) hbs
 simp only[go_sem,RM.cell_of h1]
 have hnew:lQ M1 1 [N .u8 0] false (St s)=some (s.length,BY.row s):=by
  simp only[lQ,xV,if_true]
 by_cases hne0:xs++s=[]
 ·obtain⟨rfl,rfl⟩:=List.append_eq_nil_iff.1 hne0
  have hb0:=he rfl
  subst hb0
  refine⟨0,[],hnew,by omega,by omega,aR,M1,by simp[pQ], ?_⟩
  simp only[go_sem,RM.iZ h1]
  rw[fC (by simp) (by simp) (by simp[oneCell])]
  simp only[go_sem]
  refine hQ _ ⟨hlt,by show n0≤M1.next; omega,.ptr b 0,aR,by simp[go_sem],.inr rfl,.nil,fun _=>rfl⟩ ⟨hbs,by show M.next≤M1.next; omega,fun c h3 h4=>?_⟩
  have h4:c≠b:=by simpa using h4
  simp only[go_sem,if_neg h4]
  exact hot c h4
 refine yN ho1 (by omega) (Nat.le_refl _) hnew (by rw[BY.eH]; rfl) (BY.yA s) (by omega) (by omega) fun v' M2 h2 k2 hnx2 hv=>?_
 rw[← BY.oL] at h2
 have h2:Ow BY M2 n0 T8 v' (xs++s):=by
  show Own M2 n0 T8 1 v' (BY.row (xs++s)) (xs++s).length
  rw[List.length_append]; exact h2
 have hb2:b ∉ aD buf:=fun hm=>by have:=ho.blk b hm; omega
 have hh2:=k2.aS h1 (by omega) hb2
 simp only[go_sem,RM.iZ hh2]
 rw[Own.cells h2,fC (by simp) (by simp) (by simp[Own.one h2])]
 simp only[go_sem]
 have hne:∀ c∈aD v',c≠b:=fun c hm=>by have:=h2.blk c hm; omega
 refine hQ _ ⟨hlt,by show n0≤M2.next; omega,.ptr b 0,v',RM.jf _ _,.inr rfl,Own.same h2 rfl (fun c hm=>by simp[go_sem,hne c hm]) rfl,fun e=>absurd e hne0⟩ ⟨?_, ?_,fun c h3 h4=>?_⟩
 ·exact k2.base.trans hbs
 ·show M.next≤M2.next
  omega
 ·have h4:c≠b:=by simpa using h4
  simp only[go_sem,if_neg h4]
  rw[k2.heap c (by omega) (fun hm=>by have:=ho.blk c hm; omega),hot c h4]
def yH (TB T8:Nat) (c:ah) : Prop:=∀ {n0:Nat} {M:RM} {b:Nat} {xs:List UInt8} {Q:af},lG TB T8 n0 M b xs→xs.length≤4611686018427387904 →
 (∀ M',iR n0 [] M M'→Q (St xs) M')→c [.ptr b 0] M Q
theorem G6 {TB T8:Nat} : yH TB T8 fun args M Q=>∃ a0,args=[a0]∧gI T8 a0 M Q:=by
 intro n0 M b xs Q hB hl hQ
 obtain⟨addr,buf,hh,ha,ho,he⟩:=hB.row
 refine⟨_,rfl, ?_⟩
 unfold gI
 simp only[go_sem,RM.cell_of hh]
 by_cases hx:xs=[]
 ·subst hx
  have hb0:=he rfl
  subst hb0
  simp only[wV,go_sem]
  exact .inr ⟨rfl,rfl,hQ _ (iR.refl _ _ _)⟩
 ·obtain⟨nn,hnn⟩ : ∃ nn,xs.length=nn + 1:=⟨xs.length - 1,by have:=List.length_pos_iff.2 hx; omega⟩
  have hcs:bu byteOf (BY.row xs)=some xs:=by rw[xV]; exact tO xs
  have hl8:(BY.row xs).length=nn + 1:=by rw[BY.eH,hnn]; exact Nat.mul_one _
  have ho' : Own M n0 T8 1 buf (BY.row xs) (nn + 1):=by rw[← hnn]; exact ho
  generalize BY.row xs=cs at hcs hl8 ho'
  cases ho' with
  | op c n cs h1 h2 h3 h4 =>
    simp only[wV,go_sem]
    refine .inl ⟨c,nn,cs,true,0,xs,rfl,rfl,by omega,h3,by omega,by rw[List.take_of_length_le (by omega)]; exact hcs,hQ _ ⟨rfl,Nat.le_refl _,fun d hd _=>?_⟩⟩
    simp only[go_sem]
    rw[if_neg (by omega)]
theorem lG.new {TB T8 n0 b:Nat} {M:RM} (hh:M.heap b=some (.row [.sc (.pointer none),aR] false TB 0)) (hb:b<n0) (hn:n0≤M.next) : lG TB T8 n0 M b [] :=
 ⟨hb,hn,_,_,hh,.inl rfl,.nil,fun _=>rfl⟩
def OT (d:UInt8) : Prop:=d.toNat=92∨d.toNat=44∨d.toNat=59∨d.toNat=58
instance (d:UInt8) : Decidable (OT d):=inferInstanceAs (Decidable (_∨_))
def RX (d:UInt8) : Prop:=d.toNat=110∨d.toNat=78
instance (d:UInt8) : Decidable (RX d):=inferInstanceAs (Decidable (_∨_))
def jS (c:ah) : Prop:=∀ {M:RM} {s:List UInt8} {x:UInt8} {Q:af},Q (N .i64 (Lib.indexByte s x)) M→c [St s,By x] M Q
theorem Ct (l:List UInt8) (x:UInt8) : (Lib.indexByte l x ≥ 0)↔x∈l:=by
 induction l with
 | nil=>simp[Lib.indexByte]
 | cons y ys ih =>
   simp only[Lib.indexByte]
   have:=Lib.indexByte_ge ys x
   by_cases h:y=x
   ·subst h; simp
   ·have hb:(y == x)=false:=by simpa using h
    have h' : ¬ x=y:=fun e=>h e.symm
    simp only[hb,List.mem_cons,h',false_or]
    rw[← ih]
    simp
    split <;> omega
def EM (x:UInt8) : List UInt8→List UInt8→Bool→List (List UInt8)
 | [],cur,_=>[cur]
 | c :: s,cur,odd=>if c=x∧odd=false then cur :: EM x s [] (decide (c.toNat=92) && !odd) else EM x s (cur++[c]) (decide (c.toNat=92) && !odd)
def parts (x:UInt8) (s:List UInt8) : List (List UInt8):=EM x s [] false
theorem GZ {s:List UInt8} {l h:Nat} (h1:l≤h) (h2:h≤s.length) (k1 k2:IntKind) : aN (St s) (some (N k1 (l:Int))) (some (N k2 (h:Int)))=some (St ((s.drop l).take (h - l))):=by
 simp only[aN,bnd]
 simp[h1,h2]
theorem bQ {s:List UInt8} {l:Nat} (h1:l≤s.length) (k1:IntKind) : aN (St s) (some (N k1 (l:Int))) none=some (St (s.drop l)):=by
 simp only[aN,bnd]
 simp[h1]
 rw[List.take_of_length_le (by simp)]
set_option maxRecDepth 100000
def jw (n b0 b1 b2 b3:Nat) : Nat:=if Lib.decodeN n b0 b1 b2 b3=(65533,1) then 0 else(Lib.decodeN n b0 b1 b2 b3).2
section
variable {n b0 b1 b2 b3:Nat}
theorem wS (h:b0<128) : jw n b0 b1 b2 b3=1:=by
 have:Lib.decodeN n b0 b1 b2 b3=(b0,1):=by simp[Lib.decodeN,h]
 rw[jw,this,if_neg (by intro e; cases e; omega)]
theorem j6 (h:Lib.decodeN n b0 b1 b2 b3=(65533,1)) : jw n b0 b1 b2 b3=0:=by rw[jw,if_pos h]
theorem Gh (h:128≤b0∧b0<194∨245≤b0) : jw n b0 b1 b2 b3=0:=by
 refine j6 ?_
 unfold Lib.decodeN
 repeat' split
 all_goals first | rfl | (exfalso; omega)
theorem EZ (h:194≤b0∧b0<224) (hb:n<2∨b1<128∨191<b1) : jw n b0 b1 b2 b3=0:=by
 refine j6 ?_
 unfold Lib.decodeN
 repeat' split
 all_goals first | rfl | (exfalso; omega)
theorem LX (h:194≤b0∧b0<224) (hn:2≤n) (h1:128≤b1∧b1≤191) : jw n b0 b1 b2 b3=2:=by
 have:Lib.decodeN n b0 b1 b2 b3=(b0 % 32 * 64 + b1 % 64,2):=by
  unfold Lib.decodeN
  repeat' split
  all_goals first | rfl | (exfalso; omega)
 rw[jw,this,if_neg (fun e=>absurd (congrArg Prod.snd e) (by simp))]
theorem Gj (h:224≤b0∧b0<240) (hb:n<3∨b1<128∨191<b1∨b2<128∨191<b2) : jw n b0 b1 b2 b3=0:=by
 refine j6 ?_
 unfold Lib.decodeN
 repeat' split
 all_goals first | rfl | (exfalso; omega)
theorem Mv (h:224≤b0∧b0<240) (hn:3≤n) (h1:128≤b1∧b1≤191) (h2:128≤b2∧b2≤191) {v:Nat} (hv:v=64 * (64 * (b0 - 224) + b1 - 128) + b2 - 128) :
  jw n b0 b1 b2 b3=if v<2048∨55296≤v∧v<57344 then 0 else 3:=by
 have hv' : v=b0 % 16 * 4096 + b1 % 64 * 64 + b2 % 64:=by omega
 split
 ·rename_i hc
  refine j6 ?_
  unfold Lib.decodeN
  repeat' split
  all_goals first | rfl | (exfalso; omega)
 ·rename_i hc
  have:Lib.decodeN n b0 b1 b2 b3=(b0 % 16 * 4096 + b1 % 64 * 64 + b2 % 64,3):=by
   unfold Lib.decodeN
   repeat' split
   all_goals first | rfl | (exfalso; omega)
  rw[jw,this,if_neg (fun e=>absurd (congrArg Prod.snd e) (by simp))]
theorem EP (h:240≤b0∧b0<245) (hb:n<4∨b1<128∨191<b1∨b2<128∨191<b2∨b3<128∨191<b3) : jw n b0 b1 b2 b3=0:=by
 refine j6 ?_
 unfold Lib.decodeN
 repeat' split
 all_goals first | rfl | (exfalso; omega)
theorem OX (h:240≤b0∧b0<245) (hn:4≤n) (h1:128≤b1∧b1≤191) (h2:128≤b2∧b2≤191) (h3:128≤b3∧b3≤191) {v:Nat} (hv:v=64 * (64 * (64 * (b0 - 240) + b1 - 128) + b2 - 128) + b3 - 128) :
  jw n b0 b1 b2 b3=if v<65536∨1114111<v then 0 else 4:=by
 have hv' : v=b0 % 8 * 262144 + b1 % 64 * 4096 + b2 % 64 * 64 + b3 % 64:=by omega
 split
 ·rename_i hc
  refine j6 ?_
  unfold Lib.decodeN
  repeat' split
  all_goals first | rfl | (exfalso; omega)
 ·rename_i hc
  have:Lib.decodeN n b0 b1 b2 b3=(b0 % 8 * 262144 + b1 % 64 * 4096 + b2 % 64 * 64 + b3 % 64,4):=by
   unfold Lib.decodeN
   repeat' split
   all_goals first | rfl | (exfalso; omega)
  rw[jw,this,if_neg (fun e=>absurd (congrArg Prod.snd e) (by simp))]
end
def bt (s:List UInt8) (i:Nat) : Nat:=(s.getD i 0).toNat
theorem Ey {s:List UInt8} {i:Nat} (hi:i<s.length) : s[i].toNat=bt s i:=by simp[bt,List.getD_eq_getElem?_getD,hi]
def dec (s:List UInt8) : Nat × Nat:=Lib.decodeN s.length (bt s 0) (bt s 1) (bt s 2) (bt s 3)
def rk (s:List UInt8) : Nat:=if s=[] then 0 else jw s.length (bt s 0) (bt s 1) (bt s 2) (bt s 3)
def rs (s:List UInt8) : Nat:=if s=[] then 0 else(dec s).2
theorem qb (s:List UInt8) : 1≤(dec s).2:=Lib.decodeN_ge1 _ _ _ _ _
theorem Pv {s:List UInt8} (h:s≠[]) : rs s=if rk s=0 then 1 else rk s:=by
 have:=qb s
 simp only[rs,rk,if_neg h,jw]
 unfold dec at *
 split
 ·rename_i h1
  rw[h1]; rfl
 ·rename_i h1
  rw[if_neg (by omega)]
theorem Jj (n b0 b1 b2 b3:Nat) (hn:1≤n) : (Lib.decodeN n b0 b1 b2 b3).2≤n∧(Lib.decodeN n b0 b1 b2 b3).2≤4:=by
 unfold Lib.decodeN
 repeat' split
 all_goals (simp; try omega)
theorem l5 {s:List UInt8} (h:s≠[]) : 1≤rs s:=by simp only[rs,if_neg h]; exact qb s
theorem qZ {s:List UInt8} (h:s≠[]) : rs s≤s.length∧rs s≤4:=by
 simp only[rs,if_neg h]
 exact Jj _ _ _ _ _ (List.length_pos_iff.2 h)
def acc (v0:Nat) (s:List UInt8) : Nat→Nat
 | 0=>v0
 | k + 1=>64 * acc v0 s k + bt s (k + 1) - 128
def Iz (f:(List AV→RM→Prop)→Prop) (g:List AV→RM→Prop) : Prop:=f g
theorem gB (f:(List AV→RM→Prop)→Prop) (g:List AV→RM→Prop) : fA f g=Iz f g:=rfl
theorem uG {f:(List AV→RM→Prop)→Prop} {g:List AV→RM→Prop} (h:f g) : Iz f g:=h
theorem gz {H:(List AV→RM→Prop)→Prop} {G:List AV→RM→Prop} (P:List AV→RM→Prop) (hT:∀ xs M,P xs M→G xs M)
  (hH:∀ J:List AV→RM→Prop,(∀ xs M,P xs M→J xs M)→H J) : Iz H G:=hH G hT
theorem uq {x:Int} (h : -9223372036854775808≤x) (k:x<9223372036854775808) : IntKind.wrap .i64 x=x:=zJ (by omega) (by omega)
set_option maxRecDepth 10000
theorem Jz {s:List UInt8} : rk s≤s.length∧rk s≤4:=by
 by_cases h:s=[]
 ·subst h; simp[rk]
 ·have h1:=Pv h
  have h2:=qZ h
  by_cases h0:rk s=0
  ·omega
  ·rw[if_neg h0] at h1; omega
theorem su {s:List UInt8} (h:s≠[]) {k:Nat} (hk:1≤k) : (s.drop k).length<s.length:=by
 have:=List.length_pos_iff.2 h
 simp; omega
theorem NQ {n m b0 b1 b2 b3 c1 c2 c3 k:Nat} (h:jw n b0 b1 b2 b3=k) (h0:k≠0) (hm:k≤m) (e1:2≤k→c1=b1) (e2:3≤k→c2=b2) (e3:4≤k→c3=b3) : jw m b0 c1 c2 c3=k:=by
 by_cases r1:b0<128
 ·rw[wS r1] at h ⊢; exact h
 by_cases r2:b0<194∨245≤b0
 ·rw[Gh (by omega)] at h; exact absurd h.symm h0
 by_cases r3:b0<224
 ·by_cases g:n<2∨b1<128∨191<b1
  ·rw[EZ (by omega) g] at h; exact absurd h.symm h0
  ·rw[LX (by omega) (by omega) (by omega)] at h
   subst h
   have:=e1 (by omega)
   exact LX (by omega) (by omega) (by omega)
 by_cases r4:b0<240
 ·by_cases g:n<3∨b1<128∨191<b1∨b2<128∨191<b2
  ·rw[Gj (by omega) g] at h; exact absurd h.symm h0
  ·rw[Mv (by omega) (by omega) (by omega) (by omega) rfl] at h
   have hk:k=3:=by split at h <;> omega
   subst hk
   obtain rfl:=e1 (by omega)
   obtain rfl:=e2 (by omega)
   rw[Mv (by omega) (by omega) (by omega) (by omega) rfl]; exact h
 ·by_cases g:n<4∨b1<128∨191<b1∨b2<128∨191<b2∨b3<128∨191<b3
  ·rw[EP (by omega) g] at h; exact absurd h.symm h0
  ·rw[OX (by omega) (by omega) (by omega) (by omega) (by omega) rfl] at h
   have hk:k=4:=by split at h <;> omega
   subst hk
   obtain rfl:=e1 (by omega)
   obtain rfl:=e2 (by omega)
   obtain rfl:=e3 (by omega)
   rw[OX (by omega) (by omega) (by omega) (by omega) (by omega) rfl]; exact h
theorem Cc {s:List UInt8} {k i:Nat} (t:List UInt8) (hk:k≤s.length) (hi:i<k) : bt (s.take k++t) i=bt s i:=by
 simp only[bt,List.getD_eq_getElem?_getD]
 rw[List.getElem?_append_left (by simp; omega),List.getElem?_take_of_lt hi]
theorem K5 {s t:List UInt8} (h0:rk s≠0) : rk (s.take (rk s)++t)=rk s:=by
 have hl:=Jz (s:=s)
 have hne:s≠[]:=by intro e; subst e; simp[rk] at h0
 have hne' : s.take (rk s)++t≠[]:=by
  intro e
  have:=congrArg List.length e
  rw[List.length_append,List.length_take,Nat.min_eq_left hl.1] at this
  simp only[List.length_nil] at this; omega
 have hk:jw s.length (bt s 0) (bt s 1) (bt s 2) (bt s 3)=rk s:=by rw[rk,if_neg hne]
 rw[show rk (s.take (rk s)++t)=jw (s.take (rk s)++t).length (bt (s.take (rk s)++t) 0) (bt (s.take (rk s)++t) 1) (bt (s.take (rk s)++t) 2) (bt (s.take (rk s)++t) 3) by rw[rk,if_neg hne']]
 rw[Cc t hl.1 (show 0<rk s by omega)]
 exact NQ hk h0 (by simp; omega) (fun h=>Cc t hl.1 (by omega)) (fun h=>Cc t hl.1 (by omega)) (fun h=>Cc t hl.1 (by omega))
def bZ (s:List UInt8) : Bool:=if s=[] then true else if h:rk s=0 then false else bZ (s.drop (rk s))
 termination_by s.length
 decreasing_by exact su (by assumption) (by omega)
theorem mQ:bZ []=true:=by rw[bZ]; simp
theorem Ii {s:List UInt8} (hne:s≠[]) (h:rk s=0) : bZ s=false:=by rw[bZ]; simp[hne,h]
theorem mF {s:List UInt8} (h:rk s≠0) : bZ s=bZ (s.drop (rk s)):=by
 have hne:s≠[]:=by intro e; subst e; simp[rk] at h
 rw[bZ]; simp[hne,h]
theorem Ns {s:List UInt8} (hne:s≠[]) (h:bZ s=true) : rk s≠0:=fun h0=>by rw[Ii hne h0] at h; cases h
theorem Bw:∀ (n:Nat) {a b:List UInt8},a.length≤n→bZ a=true→bZ b=true→bZ (a++b)=true
 | 0,a,b,hn,ha,hb=>by
   have:a=[]:=List.eq_nil_of_length_eq_zero (by omega)
   subst this; exact hb
 | n + 1,a,b,hn,ha,hb=>by
   by_cases hne:a=[]
   ·subst hne; exact hb
   have h0:=Ns hne ha
   have hl:=Jz (s:=a)
   have e:rk (a++b)=rk a:=by
    have:=K5 (s:=a) (t:=a.drop (rk a)++b) h0
    rwa [← List.append_assoc,List.take_append_drop] at this
   rw[mF (by omega),e,List.drop_append_of_le_length hl.1]
   refine Bw n ?_ (by rw[← mF h0,ha]) hb
   simp; omega
def fo (u:Nat) (s:List UInt8) : List UInt8 :=
 if s=[] then[] else if u + rs s > 75 then[13,10,32]++s.take (rs s)++fo (1 + rs s) (s.drop (rs s)) else s.take (rs s)++fo (u + rs s) (s.drop (rs s))
 termination_by s.length
 decreasing_by all_goals exact su (by assumption) (l5 (by assumption))
theorem xN (u:Nat) : fo u []=[]:=by rw[fo]; simp
theorem zW {u:Nat} {s:List UInt8} (hne:s≠[]) (h:75<u + rs s) : fo u s=[13,10,32]++s.take (rs s)++fo (1 + rs s) (s.drop (rs s)):=by
 rw[fo,if_neg hne,if_pos (by omega)]
theorem yF {u:Nat} {s:List UInt8} (hne:s≠[]) (h:u + rs s≤75) : fo u s=s.take (rs s)++fo (u + rs s) (s.drop (rs s)):=by
 rw[fo,if_neg hne,if_neg (by omega)]
def pc (lim:Nat) (s:List UInt8) : Nat:=if s=[] then 0 else if rs s > lim then 0 else rs s + pc (lim - rs s) (s.drop (rs s))
 termination_by s.length
 decreasing_by exact su (by assumption) (l5 (by assumption))
theorem Kr (l:Nat) : pc l []=0:=by rw[pc]; simp
theorem EN {l:Nat} {s:List UInt8} (h:l<rs s) : pc l s=0:=by rw[pc]; simp; intro _ _; omega
theorem yJ {l:Nat} {s:List UInt8} (hne:s≠[]) (h:rs s≤l) : pc l s=rs s + pc (l - rs s) (s.drop (rs s)):=by
 rw[pc,if_neg hne,if_neg (by omega)]
theorem Nz:∀ (n:Nat) {l:Nat} {s:List UInt8},s.length≤n→pc l s≤s.length
 | n,l,s,hn=>by
   by_cases hne:s=[]
   ·subst hne; simp[Kr]
   by_cases h:l<rs s
   ·simp[EN h]
   rw[yJ hne (by omega)]
   have h1:=l5 hne
   have h2:=qZ hne
   cases n with
   | zero=>exact absurd (List.eq_nil_of_length_eq_zero (by omega)) hne
   | succ n =>
     have:=Nz n (l:=l - rs s) (s:=s.drop (rs s)) (by simp; omega)
     simp at this; omega
theorem O6 {l:Nat} {s:List UInt8} (hne:s≠[]) (h:4≤l) : 1≤pc l s:=by
 have h1:=l5 hne
 have h2:=qZ hne
 rw[yJ hne (by omega)]; omega
theorem Nt:∀ (n:Nat) {u:Nat} {s:List UInt8},s.length≤n→u≤75→fo u s=s.take (pc (75 - u) s)++(if s.drop (pc (75 - u) s)=[] then[] else[13,10,32]++fo 1 (s.drop (pc (75 - u) s)))
 | n,u,s,hn,hu=>by
   by_cases hne:s=[]
   ·subst hne; simp[xN]
   have h1:=l5 hne
   have h2:=qZ hne
   by_cases h:75<u + rs s
   ·rw[EN (by omega),zW hne h]
    simp only[List.take_zero,List.drop_zero,List.nil_append,if_neg hne]
    rw[yF (u:=1) hne (by omega)]; simp
   ·rw[yJ hne (by omega),yF hne (by omega)]
    cases n with
    | zero=>exact absurd (List.eq_nil_of_length_eq_zero (by omega)) hne
    | succ n =>
      rw[Nt n (u:=u + rs s) (by simp; omega) (by omega),List.take_add,← List.drop_drop,show 75 - (u + rs s)=75 - u - rs s by omega,List.append_assoc]
theorem BX:∀ (n:Nat) {u:Nat} {s:List UInt8},s.length≤n→(fo u s).length≤4 * s.length
 | n,u,s,hn=>by
   by_cases hne:s=[]
   ·subst hne; simp[xN]
   have h1:=l5 hne
   have h2:=qZ hne
   cases n with
   | zero=>exact absurd (List.eq_nil_of_length_eq_zero (by omega)) hne
   | succ n =>
     by_cases h:75<u + rs s
     ·rw[zW hne h]
      have:=BX n (u:=1 + rs s) (s:=s.drop (rs s)) (by simp; omega)
      simp at this ⊢; omega
     ·rw[yF hne (by omega)]
      have:=BX n (u:=u + rs s) (s:=s.drop (rs s)) (by simp; omega)
      simp at this ⊢; omega
theorem iY {s:List UInt8} {h:Nat} (h2:h≤s.length) (k2:IntKind) : aN (St s) none (some (N k2 (h:Int)))=some (St (s.take h)):=by
 have:=GZ (s:=s) (l:=0) (h:=h) (by omega) h2 .i64 k2
 rw[List.drop_zero,Nat.sub_zero] at this; exact this
theorem N8 {α:Type} {l t s:List α} (h:l++t=s) : l.length≤s.length:=by rw[← h]; simp
def OE (B:Base) (c:ah) : Prop:=∀ {M:RM} {s:List UInt8} {Q:af},M.base=B→s≠[]→s.length≤1000000→(∀ r:AV,Q (.tup [r,N .i64 (rs s)]) M)→c [St s] M Q
def FD (B:Base) (c:ah) : Prop:=∀ {M:RM} {s:List UInt8} {l:Nat} {Q:af},M.base=B→s.length≤1000000→l≤1000→Q (N .i64 (pc l s)) M→c [St s,N .i64 l] M Q
theorem Jt {B:Base} {cd:ah} (hd:OE B cd) : FD B fun args M Q=>∃ a0 a1,args=[a0,a1]∧nZ cd a0 a1 M Q:=by
 intro M s l Q hM hl hll hQ
 refine⟨_,_,rfl, ?_⟩
 unfold nZ
 simp only[go_sem]
 refine bL (fun m ys M'=>M'=M∧∃ i:Nat,m=s.length - i∧ys=[N .i64 i]∧i≤s.length∧i≤l∧i + pc (l - i) (s.drop i)=pc l s) _ ⟨rfl,0,rfl,rfl,Nat.zero_le _,Nat.zero_le _,by simp⟩ ?_
 rintro next m ys M' hnext ⟨rfl,i,rfl,rfl,hi,hil,hp⟩
 simp only[go_sem]
 refine⟨fun hlt=>?_,fun hge=>?_⟩
 ·have hlt:i<s.length:=by have:=of_decide_eq_true hlt; omega
  have hne:s.drop i≠[]:=by intro e; have:=congrArg List.length e; simp at this; omega
  have h1:=l5 hne
  have h2:=qZ hne
  rw[List.length_drop] at h2
  rw[bQ hi]
  simp only[go_sem]
  refine hd hM hne (by simp; omega) fun r=>?_
  have e1:IntKind.wrap .i64 ((i:Int) + (rs (s.drop i) : Int))=((i + rs (s.drop i) : Nat) : Int):=by rw[uq (by omega) (by omega)]; omega
  simp only[go_sem,e1]
  refine⟨fun h=>?_,fun h=>?_⟩
  ·have h:l<i + rs (s.drop i):=by have:=of_decide_eq_true h; omega
   rw[EN (by omega),Nat.add_zero] at hp
   rw[hp]; exact hQ
  ·have h:i + rs (s.drop i)≤l:=by have:=of_decide_eq_false h; omega
   rw[yJ hne (by omega),List.drop_drop] at hp
   exact hnext _ _ _ (by omega) ⟨rfl,_,rfl,rfl,by omega,h,by rw[← hp,show l - (i + rs (s.drop i))=l - i - rs (s.drop i) by omega]; omega⟩
 ·have hge:s.length≤i:=by have:=of_decide_eq_false hge; omega
  rw[List.drop_eq_nil_of_le hge,Kr,Nat.add_zero] at hp
  rw[hp]; exact hQ
theorem Ko {B:Base} {TB T8:Nat} {cp cs ct:ah} (hp:FD B cp) (hs:pW TB T8 cs) (ht:yH TB T8 ct) {M:RM} {s:List UInt8} {Q:af} (hM:M.base=B) (hl:s.length≤1000000) (hQ:∀ M',ag [] M M'→Q (St (fo 0 s)) M') :
  qc TB cp cs ct (St s) M Q:=by
 unfold qc
 simp only[bJ]
 generalize hM2:M.push (.row [.sc (.pointer none),.sc (.slice none 0 0)] false TB 0)=M2
 have hn2:M2.next=M.next + 1:=by rw[← hM2]; rfl
 have hk2:ag [] M M2:=by rw[← hM2]; exact(ag.refl _ _).push _
 have hb0:lG TB T8 M2.next M2 M.next []:=lG.new (by rw[← hM2]; simp[go_sem]) (by omega) (Nat.le_refl _)
 have hfl:=BX s.length (u:=0) (s:=s) (Nat.le_refl _)
 refine bL (fun m ys M3=>∃ (t w:List UInt8) (u:Nat),m=t.length∧ys=[St t,N .i64 ((75 - u:Nat) : Int)]∧u≤1∧t.length≤s.length∧lG TB T8 M2.next M3 M.next w∧w++fo u t=fo 0 s∧iR M2.next [M.next] M2 M3) _
  ⟨s,[],0,rfl,rfl,by omega,Nat.le_refl _,hb0,rfl,iR.refl _ _ _⟩ ?_
 rintro next m ys M3 hnext ⟨t,w,u,rfl,rfl,hu,ht',hB,hw,hK⟩
 have hwl:=N8 hw
 by_cases hne:t=[]
 ·subst hne
  simp only[go_sem,bne_self_eq_false]
  rw[xN,List.append_nil] at hw
  subst hw
  refine ht hB (by omega) fun M4 k4=>hQ M4 ?_
  refine hk2.NR (hK.trans ⟨k4.base,k4.next,fun c h1 h2=>k4.heap c h1 (by simp)⟩) (by omega) fun c hc=>.inl (by simp at hc; omega)
 ·have hne' : (t != [])=true:=by simp[hne]
  simp only[go_sem,hne']
  have hb3:M3.base=B:=by rw[hK.base,hk2.base,hM]
  refine hp hb3 (by omega) (by omega) ?_
  have hpl:=Nz t.length (l:=75 - u) (s:=t) (Nat.le_refl _)
  have hpp:=O6 hne (show 4≤75 - u by omega)
  rw[Nt t.length (Nat.le_refl _) (by omega)] at hw
  generalize pc (75 - u) t=n at *
  rw[iY hpl,bQ hpl]
  simp only[go_sem]
  have hx:=congrArg List.length hw
  simp only[List.length_append] at hx
  refine hs hB (by omega) fun M4 hB4 k4=>?_
  by_cases hz:t.drop n=[]
  ·rw[hz]
   simp only[go_sem,bne_self_eq_false]
   refine hnext _ _ _ (by simp; exact List.length_pos_iff.2 hne) ⟨[],_,1,rfl,rfl,by omega,Nat.zero_le _,hB4, ?_,hK.trans k4⟩
   rw[if_pos hz] at hw
   rw[xN,← hw]; simp
  ·have hz' : (t.drop n != [])=true:=by simp[hz]
   rw[if_neg hz] at hw hx
   simp only[go_sem,hz']
   simp only[List.length_append,List.length_cons,List.length_nil] at hx
   refine hs (s:=[13,10,32]) hB4 (by simp; omega) fun M5 hB5 k5=>?_
   refine hnext _ _ _ (su hne hpp) ⟨_,_,1,rfl,rfl,by omega,by simp; omega,hB5, ?_,(hK.trans k4).trans k5⟩
   rw[← hw]; simp
def nl:List UInt8→Option (List UInt8 × List UInt8)
 | []=>none
 | c :: t=>if c.toNat=10 then some ([],t) else(nl t).map fun p=>(c :: p.1,p.2)
theorem EW:∀ s:List UInt8,(nl s=none∧Lib.indexByte s 10=-1)∨∃ a b,nl s=some (a,b)∧Lib.indexByte s 10=(a.length:Int)∧s=a++10 :: b
 | []=>.inl ⟨rfl,rfl⟩
 | c :: t=>by
   by_cases h:c.toNat=10
   ·obtain rfl:c=10:=UInt8.toNat_inj.1 h
    exact .inr ⟨[],t,by simp[nl],by simp[Lib.indexByte],rfl⟩
   ·have hc:(c == (10:UInt8))=false:=by
     simp only[beq_eq_false_iff_ne,ne_eq]
     intro e; subst e; exact h rfl
    rcases EW t with⟨h1,h2⟩ | ⟨a,b,h1,h2,h3⟩
    ·exact .inl ⟨by simp[nl,h,h1],by simp[Lib.indexByte,hc,h2]⟩
    ·refine .inr ⟨c :: a,b,by simp[nl,h,h1], ?_,by rw[h3]; rfl⟩
     have:((a.length:Int) == -1)=false:=by simp
     simp[Lib.indexByte,hc,h2,this]
def strip (s:List UInt8) : List UInt8:=if s.drop (s.length - 1)=[13] then s.take (s.length - 1) else s
theorem MR (a:List UInt8) : strip (a++[13])=a:=by simp[strip]
theorem J8 (a:List UInt8) : (strip a).length≤a.length:=by
 unfold strip; split
 ·simp
 ·exact Nat.le_refl _
def bq:List UInt8→List UInt8→List (List UInt8)
 | cur,[]=>if cur=[] then[] else[cur]
 | cur,c :: t=>if c.toNat=10 then strip cur :: bq [] t else bq (cur++[c]) t
theorem Cv:∀ (s cur:List UInt8),bq cur s=match nl s with | some (a,b)=>strip (cur++a) :: bq [] b | none=>if cur++s=[] then[] else[cur++s]
 | [],cur=>by simp[bq,nl]
 | c :: t,cur=>by
   by_cases h:c.toNat=10
   ·simp[bq,nl,h]
   ·simp only[bq,nl,if_neg h]
    rw[Cv t (cur++[c])]
    cases nl t with
    | none=>simp
    | some p=>simp
theorem Ah:∀ (s cur:List UInt8),(bq cur s).length≤s.length + 1
 | [],cur=>by simp only[bq]; split <;> simp
 | c :: t,cur=>by
   simp only[bq]
   split
   ·have:=Ah t []
    simp; omega
   ·have:=Ah t (cur++[c])
    simp; omega
theorem wO {a:List UInt8} (ha:∀ b∈a,b.toNat≠10) : ∀ (cur t:List UInt8),bq cur (a++13 :: 10 :: t)=(cur++a) :: bq [] t:=by
 induction a with
 | nil=>intro cur t; simp[bq,MR]
 | cons c a ih =>
   intro cur t
   have hc:=ha c (by simp)
   simp only[List.cons_append,bq,if_neg hc]
   rw[ih (fun b hb=>ha b (by simp[hb]))]
   simp
theorem CW {a:List UInt8} (ha:∀ b∈a,b.toNat≠10) : ∀ (cur t:List UInt8),bq cur (a++t)=bq (cur++a) t:=by
 induction a with
 | nil=>intro cur t; simp
 | cons c a ih =>
   intro cur t
   have hc:=ha c (by simp)
   simp only[List.cons_append,bq,if_neg hc]
   rw[ih (fun b hb=>ha b (by simp[hb]))]
   simp
def EK (c:ah) : Prop:=∀ {M:RM} {s:List UInt8} {Q:af},Q (N .i64 (Lib.indexByte s 10)) M→c [St s,St [10]] M Q
theorem index_spec {ci x c1 c2:ah} (hi:jS ci) : EK fun args M Q=>∃ a0 a1,args=[a0,a1]∧bV ci x c1 c2 a0 a1 M Q:=by
 intro M s Q hQ
 refine⟨_,_,rfl, ?_⟩
 unfold bV
 rw[dY,nk,show((([10] : List UInt8).length:Int) == 0)=false from rfl]
 simp only[fu]
 by_cases h:[10]=s
 ·subst h
  simp only[go_sem,beq_self_eq_true]
  exact hQ
 ·have h' : (([10] : List UInt8) == s)=false:=by simp[h]
  simp only[go_sem,h']
  exact⟨fun _=>⟨by omega,10,rfl,hi hQ⟩,fun h=>absurd h (by decide)⟩
def CU (s:List UInt8) : AV:=match nl s with
 | some (a,b)=>.tup [St a,St b,Bo true]
 | none=>.tup [St s,St [],Bo false]
def CV (c:ah) : Prop:=∀ {M:RM} {s:List UInt8} {Q:af},s.length≤1000000000→Q (CU s) M→c [St s,St [10]] M Q
theorem Ee {ci:ah} (hi:EK ci) : CV fun args M Q=>∃ a0 a1,args=[a0,a1]∧cZ ci a0 a1 M Q:=by
 intro M s Q hl hQ
 refine⟨_,_,rfl, ?_⟩
 unfold cZ
 refine hi ?_
 unfold CU at hQ
 rcases EW s with⟨h1,h2⟩ | ⟨a,b,h1,h2,h3⟩
 ·rw[h1] at hQ
  simp only[go_sem,h2]
  exact⟨fun h=>absurd h (by decide),fun _=>hQ⟩
 ·rw[h1] at hQ
  have hsl:=congrArg List.length h3
  simp at hsl
  rw[h2,gJ,show decide ((a.length:Int) ≥ 0)=true by simp]
  refine⟨fun _=>?_,fun h=>by cases h⟩
  rw[iY (by omega)]
  simp only[go_sem]
  rw[show IntKind.wrap .i64 ((a.length:Int) + ((1:Nat) : Int))=((a.length + 1:Nat) : Int) by rw[uq (by omega) (by omega)]; omega]
  rw[bQ (by omega)]
  simp only[go_sem]
  rw[h3]
  rw[show(a++10 :: b).take a.length=a by simp,show(a++10 :: b).drop (a.length + 1)=b by rw[← List.drop_drop]; simp]
  exact hQ
theorem LY {ci:ah} (hi:CV ci) : CV fun args M Q=>∃ a0 a1,args=[a0,a1]∧jq ci a0 a1 M Q:=by
 intro M s Q hl hQ
 refine⟨_,_,rfl, ?_⟩
 unfold jq
 refine hi hl ?_
 unfold CU at hQ ⊢
 cases h:nl s with
 | none=>rw[h] at hQ; simpa only[go_sem] using hQ
 | some p=>rw[h] at hQ; simpa only[go_sem] using hQ
def uM (c:ah) : Prop:=∀ {M:RM} {s:List UInt8} {Q:af},s.length≤1000000000→Q (Bo (decide (s.drop (s.length - 1)=[13]))) M→c [St s,St [13]] M Q
theorem Df:uM fun args M Q=>∃ a0 a1,args=[a0,a1]∧dV a0 a1 M Q:=by
 intro M s Q hl hQ
 refine⟨_,_,rfl, ?_⟩
 unfold dV
 simp only[fu]
 rw[dY,dY,gJ]
 by_cases h:s=[]
 ·subst h
  simp only[go_sem,show decide ((([] : List UInt8).length:Int) ≥ (([13] : List UInt8).length:Int))=false from rfl]
  exact hQ
 ·have hpos:=List.length_pos_iff.2 h
  rw[show decide ((s.length:Int) ≥ (([13] : List UInt8).length:Int))=true by simp; omega]
  simp only[go_sem]
  rw[show IntKind.wrap .i64 ((s.length:Int) - ((1:Nat) : Int))=((s.length - 1:Nat) : Int) by rw[uq (by omega) (by omega)]; omega]
  rw[bQ (by omega)]
  simp only[go_sem]
  have:(s.drop (s.length - 1) == [13])=decide (s.drop (s.length - 1)=[13]):=by
   by_cases e:s.drop (s.length - 1)=[13] <;> simp[e]
  rw[this]; exact hQ
def yO (c:ah) : Prop:=∀ {M:RM} {s:List UInt8} {Q:af},s.length≤1000000000→Q (St (strip s)) M→c [St s,St [13]] M Q
theorem Cu {ch:ah} (hh:uM ch) : yO fun args M Q=>∃ a0 a1,args=[a0,a1]∧dM ch a0 a1 M Q:=by
 intro M s Q hl hQ
 refine⟨_,_,rfl, ?_⟩
 unfold dM
 refine hh hl ?_
 unfold strip at hQ
 by_cases e:s.drop (s.length - 1)=[13]
 ·rw[if_pos e] at hQ
  have hne:s≠[]:=by intro h; subst h; simp at e
  have hpos:=List.length_pos_iff.2 hne
  rw[decide_eq_true e]
  refine⟨fun _=>?_,fun h=>by cases h⟩
  simp only[go_sem]
  rw[show IntKind.wrap .i64 ((s.length:Int) - ((1:Nat) : Int))=((s.length - 1:Nat) : Int) by rw[uq (by omega) (by omega)]; omega]
  rw[iY (by omega)]
  simp only[go_sem]
  exact hQ
 ·rw[if_neg e] at hQ
  rw[decide_eq_false e]
  exact⟨fun h=>(by cases h),fun _=>hQ⟩
theorem JX {ch:ah} (hh:yO ch) : yO fun args M Q=>∃ a0 a1,args=[a0,a1]∧ji ch a0 a1 M Q:=by
 intro M s Q hl hQ
 refine⟨_,_,rfl, ?_⟩
 unfold ji
 exact hh hl hQ
theorem Qd {n0 T:Nat} {M:RM} {v:AV} {xs:List (List UInt8)} {x:List UInt8} {K:AV→RM→Prop} (ho:Ow fU M n0 T v xs) (hn:n0≤M.next) (hl:xs.length≤2000000000)
  (hK:∀ v' M',Ow fU M' n0 T v' (xs++[x])→ag (aD v) M M'→(v'=v∨∀ b∈aD v',M.next≤b)→K v' M') :
  iJ T 1 [St []] [(0,1,St x)] fun r f=>appW T 1 16 [St []] false v (f M.next) (M.push r) K:=by
 rw[tu (x:=St x) (size:=1) rfl rfl rfl]
 exact Cr (E:=fU) (a:=x) ho hn (Nat.le_refl _) (by omega) (by omega) fun v' M' h1 h2 _ h4=>hK v' M' h1 h2 h4
theorem PT {n0 T:Nat} {M:RM} {v:AV} {xs:List Int} {x:Int} {K:AV→RM→Prop} (ho:Ow INT M n0 T v xs) (hn:n0≤M.next) (hl:xs.length≤2000000000)
  (hK:∀ v' M',Ow INT M' n0 T v' (xs++[x])→ag (aD v) M M'→(v'=v∨∀ b∈aD v',M.next≤b)→K v' M') :
  iJ T 1 [N .i64 0] [(0,1,N .i64 x)] fun r f=>appW T 1 8 [N .i64 0] false v (f M.next) (M.push r) K:=by
 rw[tu (x:=N .i64 x) (size:=1) rfl rfl rfl]
 exact Cr (E:=INT) (a:=x) ho hn (Nat.le_refl _) (by omega) (by omega) fun v' M' h1 h2 _ h4=>hK v' M' h1 h2 h4
theorem P5 {M:RM} {n0 T:Nat} {v:AV} {xs:List (List UInt8)} (ho:Ow fU M n0 T v xs) (hne:xs≠[]) : ∃ b,v=.slc b 0 xs.length (.op 1)∧Rw fU M b true T xs∧n0≤b:=by
 have ho' : Own M n0 T 1 v (fU.row xs) xs.length:=ho
 have hp:=List.length_pos_iff.2 hne
 generalize hcs:fU.row xs=cs at ho'
 generalize hn:xs.length=n at ho'
 cases ho' with
 | nil=>omega
 | ex0=>omega
 | op b n cs h1 h2 h3 h4=>exact⟨b,rfl,⟨by rw[h3,hcs],h2⟩,h1⟩
theorem Qe {M:RM} {n0 T b:Nat} {xs:List (List UInt8)} (h:Rw fU M b true T xs) (hb:n0≤b) : Ow fU M n0 T (.slc b 0 xs.length (.op 1)) xs :=
 Own.op b _ _ hb h.lt h.heap (by rw[fU.eH])
def isSp:List UInt8→Bool
 | []=>false
 | c :: _=>decide (c.toNat=32) || decide (c.toNat=9)
def glue (acc:List (List UInt8)) (x:List UInt8) : List (List UInt8):=if acc≠[]∧isSp x=true then acc.set (acc.length - 1) (acc.getD (acc.length - 1) []++x.drop 1) else acc++[x]
theorem ME (acc:List (List UInt8)) (x:List UInt8) : (glue acc x).length≤acc.length + 1:=by
 unfold glue; split <;> simp
theorem MQ {t:List UInt8} (hne:t≠[]) : ∃ kX rest found,CU t=.tup [St kX,St rest,Bo found]∧rest.length<t.length∧kX.length + rest.length≤t.length∧bq [] t=(if found then strip kX else kX) :: bq [] rest:=by
 have hp:=List.length_pos_iff.2 hne
 rcases EW t with⟨h1,_⟩ | ⟨a,b,h1,_,h3⟩
 ·exact⟨t,[],false,by simp[CU,h1],by simpa using hp,by simp,by rw[Cv,h1]; simp[hne,bq]⟩
 ·have:=congrArg List.length h3
  simp at this
  exact⟨a,b,true,by simp[CU,h1],by omega,by omega,by rw[Cv,h1]; simp⟩
def lV (s:List UInt8) : Prop:=∀ b∈s,b.toNat≠10
theorem lV.take {s:List UInt8} (h:lV s) (n:Nat) : lV (s.take n):=fun b hb=>h b (List.mem_of_mem_take hb)
theorem lV.drop {s:List UInt8} (h:lV s) (n:Nat) : lV (s.drop n):=fun b hb=>h b (List.mem_of_mem_drop hb)
theorem lV.sp {s:List UInt8} (h:lV s) : lV (32 :: s):=fun b hb=>by
 rcases List.mem_cons.1 hb with rfl | hb
 ·decide
 ·exact h b hb
theorem Ic (cur:List UInt8) (u:Nat) : bq cur (fo u []++[13,10])=[cur]:=by
 have:=wO (a:=[]) (by simp) cur []
 simpa [xN,bq] using this
theorem Dy {u:Nat} {s:List UInt8} (hne:s≠[]) (h:75<u + rs s) (hs:lV s) (cur:List UInt8) :
  bq cur (fo u s++[13,10])=cur :: bq (32 :: s.take (rs s)) (fo (1 + rs s) (s.drop (rs s))++[13,10]):=by
 rw[zW hne h]
 have h1:=wO (a:=[]) (by simp) cur (32 :: s.take (rs s)++(fo (1 + rs s) (s.drop (rs s))++[13,10]))
 have h2:=CW (hs.take (rs s)).sp [] (fo (1 + rs s) (s.drop (rs s))++[13,10])
 rw[List.nil_append] at h2
 rw[← h2]
 simpa using h1
theorem Fb {u:Nat} {s:List UInt8} (hne:s≠[]) (h:u + rs s≤75) (hs:lV s) (cur:List UInt8) :
  bq cur (fo u s++[13,10])=bq (cur++s.take (rs s)) (fo (u + rs s) (s.drop (rs s))++[13,10]):=by
 rw[yF hne h,List.append_assoc,CW (hs.take (rs s))]
theorem EY (p c:List UInt8) : glue [p] (32 :: c)=[p++c]:=by simp[glue,isSp]
theorem xB:∀ (n:Nat) {u:Nat} {s p c:List UInt8},s.length≤n→lV s→(bq (32 :: c) (fo u s++[13,10])).foldl glue [p]=[p++c++s]
 | n,u,s,p,c,hn,hs=>by
   by_cases hne:s=[]
   ·subst hne
    rw[Ic]
    simp[EY]
   have h1:=l5 hne
   have h2:=qZ hne
   cases n with
   | zero=>exact absurd (List.eq_nil_of_length_eq_zero (by omega)) hne
   | succ n =>
     by_cases h:75<u + rs s
     ·rw[Dy hne h hs,List.foldl_cons,EY,xB n (by simp; omega) (hs.drop _),List.append_assoc,List.take_append_drop]
     ·rw[Fb hne (by omega) hs,List.cons_append,xB n (by simp; omega) (hs.drop _)]
      simp
theorem EG:∀ (n:Nat) {u:Nat} {s c:List UInt8},s.length≤n→lV s→(bq c (fo u s++[13,10])).foldl glue []=[c++s]
 | n,u,s,c,hn,hs=>by
   by_cases hne:s=[]
   ·subst hne
    rw[Ic]
    simp[glue]
   have h1:=l5 hne
   have h2:=qZ hne
   cases n with
   | zero=>exact absurd (List.eq_nil_of_length_eq_zero (by omega)) hne
   | succ n =>
     by_cases h:75<u + rs s
     ·rw[Dy hne h hs,List.foldl_cons,show glue [] c=[c] by simp[glue],xB n (by simp; omega) (hs.drop _),List.append_assoc,List.take_append_drop]
     ·rw[Fb hne (by omega) hs,EG n (by simp; omega) (hs.drop _)]
      simp
def J4 (B:Base) (c:ah) : Prop:=∀ {M:RM} {s:List UInt8} {Q:af},M.base=B→s.length≤1000000→(∀ M',ag [] M M'→Q (St (fo 0 s)) M')→c [St s] M Q
def iF (acc:List (List UInt8)) (ns:List Int) (k:Int) : List (List UInt8)→List (List UInt8) × List Int
 | []=>(acc,ns)
 | x :: xs=>iF (glue acc x) (if acc≠[]∧isSp x=true then ns else ns++[k]) (IntKind.i64.wrap (k + 1)) xs
theorem zR:∀ (xs:List (List UInt8)) (acc:List (List UInt8)) (ns:List Int) (k:Int),(iF acc ns k xs).1=xs.foldl glue acc
 | [],_,_,_=>rfl
 | x :: xs,acc,ns,k=>by rw[iF,zR xs,List.foldl_cons]
def tT (T TI:Nat) (c:ah) : Prop:=∀ {M:RM} {s:List UInt8} {Q:af},s.length≤1000000 →
 (∀ v u M',Ow fU M' M.next T v (iF [] [] 1 (bq [] s)).1→Ow INT M' M.next TI u (iF [] [] 1 (bq [] s)).2→(∀ b∈aD v,b ∉ aD u)→ag [] M M'→Q (.tup [v,u]) M')→c [St s] M Q
theorem F9 {T TI:Nat} {cc ct:ah} (hc:CV cc) (ht:yO ct) : tT T TI fun args M Q=>∃ a0,args=[a0]∧mY cc ct T TI a0 M Q:=by
 intro M s Q hl hQ
 refine⟨_,rfl, ?_⟩
 unfold mY
 simp only[fu,gB]
 refine bL (fun m ys M3=>∃ (t:List UInt8) (v u:AV) (acc:List (List UInt8)) (ns:List Int) (k:Int),m=t.length∧ys=[St t,v,u,N .i64 k]∧acc.length + t.length≤s.length∧(∀ x∈acc,x.length + t.length≤s.length)∧ns.length + t.length≤s.length ∧
   Ow fU M3 M.next T v acc∧Ow INT M3 M.next TI u ns∧(∀ b∈aD v,b ∉ aD u)∧ag [] M M3∧iF acc ns k (bq [] t)=iF [] [] 1 (bq [] s)) _
  ⟨s,aR,aR,[],[],1,rfl,rfl,by simp,by simp,by simp,.nil,.nil,by simp[aD],ag.refl _ _,rfl⟩ ?_
 rintro next m ys M3 hnext ⟨t,v,u,acc,ns,k,rfl,rfl,hal,hxl,hnl,hv,hu,hd,hK,hf⟩
 by_cases hne:t=[]
 ·subst hne
  simp only[go_sem,bne_self_eq_false]
  simp only[bq,if_true,iF] at hf
  exact hQ v u M3 (by rw[← hf]; exact hv) (by rw[← hf]; exact hu) hd hK
 have hne' : (t != [])=true:=by simp[hne]
 have hpos:=List.length_pos_iff.2 hne
 obtain⟨kX,rest,found,hcut,hrl,hll,hraw⟩:=MQ hne
 simp only[go_sem,hne']
 refine uG ?_
 refine hc (by omega) ?_
 rw[hcut]
 simp only[go_sem]
 refine gz (fun xs M'=>M'=M3∧xs=[St (if found then strip kX else kX)]) ?_ ?_
 ·rintro _ M0 ⟨hM0,rfl⟩
  subst hM0
  have hlen:(if found then strip kX else kX).length + rest.length≤t.length:=by
   split
   ·have:=J8 kX; omega
   ·exact hll
  generalize (if found then strip kX else kX)=line at *
  rw[hraw,iF] at hf
  have app:glue acc line=acc++[line]∧¬ (acc≠[]∧isSp line=true)→iJ T 1 [St []] [(0,1,St line)] fun r f=>appW T 1 16 [St []] false v (f M0.next) (M0.push r) fun t54 OP =>
    iJ TI 1 [N IntKind.i64 0] [(0,1,N IntKind.i64 k)] fun Qx Qz=>appW TI 1 8 [N IntKind.i64 0] false u (Qz OP.next) (OP.push Qx) fun t58 QJ =>
     next [St rest,t54,t58,N IntKind.i64 (IntKind.i64.wrap (k + 1))] QJ:=fun hg=>by
   refine Qd hv hK.next (by omega) fun v' M4 h4 k4 hv'=>?_
   have hu4:Ow INT M4 M.next TI u ns:=Own.keep hu k4 (fun b hb hb'=>hd b hb' hb)
   have hK4:ag [] M M4:=hK.mW k4 fun c hc=>.inl (hv.blk c hc).1
   have hd4:∀ b∈aD v',b ∉ aD u:=fun b hb hb'=>by
    rcases hv' with rfl | hv'
    ·exact hd b hb hb'
    ·have h1:=hv' b hb
     have h2:=(hu.blk b hb').2
     omega
   refine PT hu4 hK4.next (by omega) fun u' M5 h5 k5 hu'=>?_
   have hv5:Ow fU M5 M.next T v' (acc++[line]):=Own.keep h4 k5 hd4
   have hd5:∀ b∈aD v',b ∉ aD u':=fun b hb hb'=>by
    rcases hu' with rfl | hu'
    ·exact hd4 b hb hb'
    ·have h1:=hu' b hb'
     have h2:=(h4.blk b hb).2
     omega
   refine hnext _ _ _ hrl ⟨rest,v',u',_,_,_,rfl,rfl,by simp; omega, ?_,by simp; omega,hv5,h5,hd5,hK4.mW k5 fun c hc=>.inl (hu4.blk c hc).1,by rw[hg.1,if_neg hg.2] at hf; exact hf⟩
   intro x hx
   rcases List.mem_append.1 hx with hx | hx
   ·have:=hxl x hx; omega
   ·have:x=line:=by simpa using hx
    subst this; omega
  by_cases ha:acc=[]
  ·rw[dQ.len hv.Du]
   subst ha
   rw[show((([] : List (List UInt8)).length:Nat) : Int)=0 from rfl,zV,show decide ((0:Int) > 0)=false from rfl]
   simp only[go_sem]
   exact app (by simp[glue])
  have hap:=List.length_pos_iff.2 ha
  rw[dQ.len hv.Du]
  have e0:decide (((acc.length:Nat) : Int) > 0)=true:=by simp; omega
  obtain⟨b,rfl,hrw,hb⟩:=P5 hv ha
  cases line with
  | nil =>
    simp only[go_sem,e0,bne_self_eq_false]
    exact app (by simp[glue,isSp])
  | cons c r =>
    have e1:(c :: r != [])=true:=by simp
    have w1:IntKind.wrap .i64 ((acc.length:Int) - 1)=((acc.length - 1:Nat) : Int):=by rw[uq (by omega) (by omega)]; omega
    have hld:=hrw.az (i:=acc.length - 1) (by omega)
    have Ou:acc.getD (acc.length - 1) []=acc[acc.length - 1]'(by omega):=by
     rw[List.getD_eq_getElem?_getD,List.getElem?_eq_getElem (by omega)]; rfl
    have set:isSp (c :: r)=true→(0≤IntKind.i64.wrap (↑acc.length - 1)∧IntKind.i64.wrap (↑acc.length - 1) < ↑acc.length ∧
      ∃ v,M0.cell b (IntKind.i64.wrap (↑acc.length - 1)).toNat=some v∧cK (aN (St (c :: r)) (some (N IntKind.i64 1)) none) fun t48=>bF BinOp.add v t48 fun t49 =>
        0≤IntKind.i64.wrap (↑acc.length - 1)∧IntKind.i64.wrap (↑acc.length - 1) < ↑acc.length∧t49.cells.length=1∧∃ M',M0.stores b (IntKind.i64.wrap (↑acc.length - 1)).toNat t49.cells=some M' ∧
          next [St rest,AV.slc b 0 acc.length (Cap.op 1),u,N IntKind.i64 (IntKind.i64.wrap (k + 1))] M'):=fun hs=>by
     obtain⟨hst,O9⟩:=hrw.KV (i:=acc.length - 1) (by omega) (acc.getD (acc.length - 1) []++r)
     rw[w1,Int.toNat_natCast]
     refine⟨by omega,by omega,_,hld, ?_⟩
     rw[show aN (St (c :: r)) (some (N .i64 1)) none=some (St r) from bQ (l:=1) (by simp) .i64]
     rw[Ou] at hst O9
     simp only[go_sem]
     have hxa:=hxl _ (List.getElem_mem (l:=acc) (n:=acc.length - 1) (by omega))
     have hlr:r.length + 1 + rest.length≤t.length:=by simpa using hlen
     refine⟨by omega,by omega,_,hst, ?_⟩
     have hv4:=Qe O9 hb
     rw[List.length_set] at hv4
     have hkp:ag [b] M0 (M0.put b (.row (fU.row (acc.set (acc.length - 1) (acc[acc.length - 1]'(by omega)++r))) true T 0)):=(ag.refl _ _).put _ (.inr (by simp))
     refine hnext _ _ _ hrl ⟨rest,_,u,_,ns,_,rfl,rfl,by simp; omega, ?_,by omega,hv4,Own.keep hu hkp ?_,hd,hK.put _ (.inl hb), ?_⟩
     ·intro x hx
      rcases List.mem_or_eq_of_mem_set hx with hx | rfl
      ·have:=hxl x hx; omega
      ·simp; omega
     ·intro b' hb' hm
      have:b'=b:=by simpa using hm
      subst this
      exact hd b' (by simp[aD]) hb'
     ·rw[if_pos ⟨ha,hs⟩,glue,if_pos ⟨ha,hs⟩,Ou] at hf; exact hf
    simp only[go_sem,e0,e1]
    refine⟨by omega,c,rfl, ?_⟩
    by_cases h32:c.toNat=32
    ·have e32:((c.toNat:Int) == 32)=true:=by simp[h32]
     simp only[e32,go_sem]
     exact set (by simp[isSp,h32])
    ·have e32:((c.toNat:Int) == 32)=false:=by simp; omega
     simp only[e32,go_sem]
     refine⟨by omega,c,rfl, ?_⟩
     by_cases h9:c.toNat=9
     ·have e9:((c.toNat:Int) == 9)=true:=by simp[h9]
      simp only[e9,go_sem]
      exact set (by simp[isSp,h9])
     ·have e9:((c.toNat:Int) == 9)=false:=by simp; omega
      simp only[e9,go_sem]
      exact app (by simp[glue,isSp,h32,h9])
 ·intro J hJ
  cases found with
  | true =>
    refine⟨fun _=>ht (by omega) (hJ _ _ ⟨rfl,rfl⟩),fun h=>by cases h⟩
  | false=>exact⟨fun h=>(by cases h),fun _=>hJ _ _ ⟨rfl,rfl⟩⟩
def aK (x:UInt8) : List UInt8→Bool
 | []=>false
 | c :: _=>c == x
def lJ (c:ah) : Prop:=∀ {M:RM} {s:List UInt8} {x:UInt8} {Q:af},s.length≤1000000000→Q (Bo (aK x s)) M→c [St s,St [x]] M Q
theorem zQ:lJ fun args M Q=>∃ a0 a1,args=[a0,a1]∧dS a0 a1 M Q:=by
 intro M s x Q hl hQ
 refine⟨_,_,rfl, ?_⟩
 unfold dS
 simp only[fu]
 rw[dY,dY,gJ]
 cases s with
 | nil =>
   rw[show decide ((([] : List UInt8).length:Int) ≥ (([x] : List UInt8).length:Int))=false from rfl]
   simp only[go_sem]
   exact hQ
 | cons c r =>
   rw[show decide (((c :: r).length:Int) ≥ (([x] : List UInt8).length:Int))=true by simp; omega]
   simp only[go_sem]
   rw[show aN (St (c :: r)) none (some (N .i64 ((1:Nat) : Int)))=some (St [c]) from iY (h:=1) (by simp) .i64]
   simp only[go_sem]
   rw[show(([c] : List UInt8) == [x])=(c == x) by simp]
   exact hQ
theorem GY {ch:ah} (hh:lJ ch) : lJ fun args M Q=>∃ a0 a1,args=[a0,a1]∧jF ch a0 a1 M Q:=by
 intro M s x Q hl hQ
 refine⟨_,_,rfl, ?_⟩
 unfold jF
 exact hh hl hQ
def bG (c:UInt8) : Bool:=(decide (32≤c.toNat) && decide (c.toNat≠127)) || decide (c.toNat=9)
def Fw (c:ah) : Prop:=∀ {M:RM} {x:UInt8} {Q:af},Q (Bo (bG x)) M→c [By x] M Q
theorem JL:Fw fun args M Q=>∃ a0,args=[a0]∧nW a0 M Q:=by
 intro M x Q hQ
 refine⟨_,rfl, ?_⟩
 unfold nW
 simp only[fu]
 unfold bG at hQ
 by_cases h1:32≤x.toNat
 ·have e1:decide ((x.toNat:Int) ≥ 32)=true:=by simp; omega
  rw[gJ,e1]
  by_cases h2:x.toNat=127
  ·have e2:((x.toNat:Int) != 127)=false:=by simp[h2]
   have e9:((x.toNat:Int) == 9)=false:=by simp; omega
   simp only[go_sem,e2,e9]
   simpa [h2] using hQ
  ·have e2:((x.toNat:Int) != 127)=true:=by simp; omega
   simp only[go_sem,e2]
   simpa [h1,h2] using hQ
 ·have e1:decide ((x.toNat:Int) ≥ 32)=false:=by simp; omega
  rw[gJ,e1]
  by_cases h9:x.toNat=9
  ·have e9:((x.toNat:Int) == 9)=true:=by simp[h9]
   simp only[go_sem,e9]
   simpa [h1,h9] using hQ
  ·have e9:((x.toNat:Int) == 9)=false:=by simp; omega
   simp only[go_sem,e9]
   simpa [h1,h9] using hQ
def bX (c:UInt8) : UInt8:=if 65≤c.toNat∧c.toNat≤90 then UInt8.ofNat (c.toNat + 32) else c
def EC (c:ah) : Prop:=∀ {M:RM} {s:List UInt8} {Q:af},s.length≤1000000000→(∀ M',ag [] M M'→Q (St (s.map bX)) M')→c [St s] M Q
theorem Hz {s:List UInt8} {i:Nat} (hi:i<s.length) : ((s.take i).map bX).length=i:=by simp; omega
theorem MP {s:List UInt8} {i:Nat} (hi:i<s.length) (x:UInt8) : ((s.take i).map bX++s.drop i).set i x=(s.take i).map bX++x :: s.drop (i + 1):=by
 have hl:=Hz hi
 rw[List.drop_eq_getElem_cons hi,List.set_append_right _ _ (by omega),hl,Nat.sub_self,List.set_cons_zero]
theorem Ga {s:List UInt8} {i:Nat} (hi:i<s.length) : (s.take (i + 1)).map bX++s.drop (i + 1)=(s.take i).map bX++bX s[i] :: s.drop (i + 1):=by
 rw[List.take_succ_eq_append_getElem hi,List.map_append,List.append_assoc]
 rfl
theorem NS {s:List UInt8} {i:Nat} (hi:i<s.length) (h:i<((s.take i).map bX++s.drop i).length) : ((s.take i).map bX++s.drop i)[i]=s[i]:=by
 have hl:=Hz hi
 rw[List.getElem_append_right (by omega)]
 simp only[hl,Nat.sub_self,List.getElem_drop,Nat.add_zero]
theorem JV {T8:Nat} : EC fun args M Q=>∃ a0,args=[a0]∧oo T8 a0 M Q:=by
 intro M s Q hl hQ
 refine⟨_,rfl, ?_⟩
 unfold oo
 simp only[fu,bJ,xI,uw]
 have hk1:ag [] M (M.push (.row (BY.row s) true T8 0)):=(ag.refl _ _).push _
 have hr1:Rw BY (M.push (.row (BY.row s) true T8 0)) M.next true T8 s:=Rw.new M s
 generalize M.push (.row (BY.row s) true T8 0)=M1 at *
 refine bL (fun m ys M3=>∃ i:Nat,m=s.length - i∧ys=[N .i64 i]∧i≤s.length∧Rw BY M3 M.next true T8 ((s.take i).map bX++s.drop i)∧ag [] M M3) _
  ⟨0,rfl,rfl,Nat.zero_le _,by simpa using hr1,hk1⟩ ?_
 rintro next m ys M3 hnext ⟨i,rfl,rfl,hi,hR,hK⟩
 simp only[go_sem]
 refine⟨fun hlt=>?_,fun hge=>?_⟩
 ·have hlt:i<s.length:=by simpa using hlt
  have hlen:i<((s.take i).map bX++s.drop i).length:=by simp; omega
  have hc:=hR.az hlen
  have w1:=lg (show i<9223372036854775807 by omega)
  rw[NS hlt hlen] at hc
  refine⟨by omega,_,hc, ?_⟩
  have same:bX s[i]=s[i]→next [N .i64 ((i + 1:Nat) : Int)] M3:=fun h=>by
   refine hnext _ _ _ (by omega) ⟨i + 1,rfl,rfl,by omega, ?_,hK⟩
   rw[Ga hlt,h,← List.drop_eq_getElem_cons hlt]
   exact hR
  have cb:=I9 s[i]
  simp only[w1]
  by_cases h1:65≤s[i].toNat
  ·have e1:((s[i].toNat:Int) ≥ 65):=by omega
   by_cases h2:s[i].toNat≤90
   ·have e2:((s[i].toNat:Int)≤90):=by omega
    have hlow:bX s[i]=UInt8.ofNat (s[i].toNat + 32):=by rw[bX,if_pos ⟨h1,h2⟩]
    have wv:N IntKind.u8 (IntKind.u8.wrap (IntKind.u8.wrap ((s[i].toNat:Int) + 97) - 65))=By (bX s[i]):=by
     rw[hlow,By,Ka,Nat.mod_eq_of_lt (by omega)]
     congr 1
     rw[show IntKind.u8.wrap ((s[i].toNat:Int) + 97)=(s[i].toNat:Int) + 97 from oQ (by omega) (by omega)]
     rw[oQ (by omega) (by omega)]; omega
    obtain⟨hs,hR'⟩:=hR.KV hlen (bX s[i])
    simp only[e1,e2,decide_true,go_sem]
    rw[MP hlt] at hs hR'
    refine⟨by omega,_,(congrArg (fun x=>M3.stores M.next i [x]) wv).trans hs, ?_⟩
    refine hnext _ _ _ (by omega) ⟨i + 1,rfl,rfl,by omega, ?_,hK.put _ (.inl (Nat.le_refl _))⟩
    rw[Ga hlt]
    exact hR'
   ·have e2:¬ ((s[i].toNat:Int)≤90):=by omega
    simp only[e1,e2,decide_true,decide_false,go_sem]
    exact same (by rw[bX,if_neg (by omega)])
  ·have e1:¬ ((s[i].toNat:Int) ≥ 65):=by omega
   simp only[e1,decide_false,go_sem]
   exact same (by rw[bX,if_neg (by omega)])
 ·have:i=s.length:=by simp at hge; omega
  subst this
  rw[List.take_length,List.drop_length,List.append_nil] at hR
  have:=hR.sl (cap:=.op 1)
  rw[List.length_map] at this
  rw[Sl.str this]
  exact hQ M3 hK
theorem GU (s:List UInt8) (h:s≠[]) : Lib.decodeL s=dec s:=by
 have hp:=List.length_pos_iff.2 h
 have g:∀ i,((⟨⟨s⟩⟩ : ByteArray).get! i).toNat=bt s i:=fun i=>by
  simp only[ByteArray.get!,bt,List.getD_eq_getElem?_getD]
  simp[getElem!_def]
  cases s[i]? <;> rfl
 first
  | (rw[Lib.decodeL]; rw[Lib.decode_at,g,g,g,g]; rfl)
  | (simp only[Lib.decodeL,dec,bt])
theorem A8:∀ (n:Nat) (s:List UInt8),s.length≤n→Lib.validD s=bZ s
 | n,s,hn=>by
   by_cases hne:s=[]
   ·subst hne; rw[Lib.validD_nil,mQ]
   have hrk:rk s=if dec s=(65533,1) then 0 else(dec s).2:=by rw[rk,if_neg hne]; rfl
   rw[Lib.validD_step s hne,GU s hne]
   have h1:=qb s
   by_cases hb:(dec s).1=65533∧(dec s).2=1
   ·rw[if_pos hb,Ii hne (by rw[hrk,if_pos (Prod.ext hb.1 hb.2)])]
   ·rw[if_neg hb]
    have h0:rk s=(dec s).2:=by
     rw[hrk,if_neg]
     intro e; rw[e] at hb; exact hb ⟨rfl,rfl⟩
    rw[mF (by omega),h0]
    cases n with
    | zero=>exact absurd (List.eq_nil_of_length_eq_zero (by omega)) hne
    | succ n =>
      refine A8 n _ ?_
      have:=su hne h1
      omega
def BV (B:Base) (c:ah) : Prop:=∀ {M:RM} {s:List UInt8} {Q:af},M.base=B→s.length≤1000000000→Q (Bo (bZ s)) M→c [St s] M Q
def okB (x:List UInt8) (c:UInt8) : Bool:=bG c && !(decide (c∈x))
def eB (x s:List UInt8) : Bool:=s.all (okB x) && bZ s
def j3 (B:Base) (c:ah) : Prop:=∀ {M:RM} {s x:List UInt8} {Q:af},M.base=B→s.length≤1000000000→(∀ M',ag [] M M'→Q (Bo (eB x s)) M')→c [St s,St x] M Q
theorem CK {B:Base} {T8:Nat} {cp ci cv:ah} (hp:Fw cp) (hi:jS ci) (hv:BV B cv) : j3 B fun args M Q=>∃ a0 a1,args=[a0,a1]∧kH T8 cp ci cv a0 a1 M Q:=by
 intro M s x Q hM hl hQ
 refine⟨_,_,rfl, ?_⟩
 unfold kH
 simp only[fu,bJ,xI,uw]
 have hk1:ag [] M (M.push (.row (BY.row s) true T8 0)):=(ag.refl _ _).push _
 have hr1:Rw BY (M.push (.row (BY.row s) true T8 0)) M.next true T8 s:=Rw.new M s
 generalize M.push (.row (BY.row s) true T8 0)=M1 at *
 refine bL (fun m ys M3=>M3=M1∧∃ i:Nat,m=s.length - i∧ys=[N .i64 i]∧i≤s.length∧(s.take i).all (okB x)=true) _
  ⟨rfl,0,rfl,rfl,Nat.zero_le _,by simp⟩ ?_
 rintro next m ys M3 hnext ⟨hM3,i,rfl,rfl,hile,hall⟩
 subst hM3
 simp only[go_sem]
 refine⟨fun hlt=>?_,fun hge=>?_⟩
 ·have hlt:i<s.length:=by simpa using hlt
  have hc:=hr1.az hlt
  have htk:=List.take_succ_eq_append_getElem hlt
  have hmem:=List.getElem_mem hlt
  generalize s[i]=c at *
  have w1:=lg (show i<9223372036854775807 by omega)
  have bad:okB x c=false→Q (Bo false) M3:=fun h=>by
   have:eB x s=false:=by
    have h2:s.all (okB x)=false:=by
     rw[List.all_eq_false]
     exact⟨c,hmem,by rw[h]; simp⟩
    rw[eB,h2]; rfl
   rw[← this]; exact hQ M3 hk1
  have good:okB x c=true→next [N .i64 ((i + 1:Nat) : Int)] M3:=fun h=>by
   refine hnext _ _ _ (by omega) ⟨rfl,i + 1,rfl,rfl,by omega, ?_⟩
   rw[htk,List.all_append,hall]
   simp[h]
  refine⟨by omega,By c,hc,hp ?_⟩
  cases hpl:bG c with
  | false =>
    simp only[go_sem]
    exact bad (by simp[okB,hpl])
  | true =>
    simp only[go_sem]
    refine hi ?_
    have hge:=Ct x c
    by_cases hcx:c∈x
    ·have e1:decide (Lib.indexByte x c ≥ 0)=true:=decide_eq_true (hge.2 hcx)
     simp only[go_sem,e1]
     exact bad (by simp[okB,hcx])
    ·have e1:decide (Lib.indexByte x c ≥ 0)=false:=decide_eq_false fun h=>hcx (hge.1 h)
     simp only[go_sem,e1,w1]
     exact good (by simp[okB,hcx,hpl])
 ·have:i=s.length:=by simp at hge; omega
  subst this
  rw[List.take_length] at hall
  refine hv (by rw[hk1.base,hM]) hl ?_
  have:=hQ M3 hk1
  rw[eB,hall,Bool.true_and] at this
  exact this
def JN (x:UInt8) (s:List UInt8) : AV:=if aK x s then .tup [St (s.drop 1),Bo true] else .tup [St s,Bo false]
def ko (c:ah) : Prop:=∀ {M:RM} {s:List UInt8} {x:UInt8} {Q:af},s.length≤1000000000→Q (JN x s) M→c [St s,St [x]] M Q
theorem vO {ch:ah} (hh:lJ ch) : ko fun args M Q=>∃ a0 a1,args=[a0,a1]∧dW ch a0 a1 M Q:=by
 intro M s x Q hl hQ
 refine⟨_,_,rfl, ?_⟩
 unfold dW
 refine hh hl ?_
 unfold JN at hQ
 cases h:aK x s with
 | false =>
   simp only[h,Bool.false_eq_true,if_false] at hQ
   simp only[go_sem]
   exact hQ
 | true =>
   simp only[h,if_true] at hQ
   have hne:s≠[]:=by intro e; subst e; cases h
   have hp:=List.length_pos_iff.2 hne
   simp only[go_sem]
   rw[show aN (St s) (some (N .i64 ((1:Nat) : Int))) none=some (St (s.drop 1)) from bQ (by omega) .i64]
   simp only[go_sem]
   exact hQ
theorem Cs {ch:ah} (hh:ko ch) : ko fun args M Q=>∃ a0 a1,args=[a0,a1]∧jI ch a0 a1 M Q:=by
 intro M s x Q hl hQ
 refine⟨_,_,rfl, ?_⟩
 unfold jI
 refine hh hl ?_
 unfold JN at hQ ⊢
 cases h:aK x s with
 | false=>rw[h] at hQ; simpa only[go_sem,Bool.false_eq_true,if_false] using hQ
 | true=>rw[h] at hQ; simpa only[go_sem,if_true] using hQ
def bP:List UInt8:=[97,98,99,100,101,102,103,104,105,106,107,108,109,110,111,112,113,114,115,116,117,118,119,120,121,122,48,49,50,51,52,53,54,55,56,57,45]
def Kk (B:Base) (c:ah) : Prop:=∀ {M:RM} {s:List UInt8} {Q:af},M.base=B→s.length≤1000000000→(∀ M',ag [] M M'→Q (St (s.dropWhile (bP.contains ·))) M')→c [St s,St bP] M Q
theorem vG {α:Type} (p:α→Bool) : ∀ l:List α,(l.dropWhile p).length≤l.length
 | []=>by simp
 | x :: l=>by
   rw[List.dropWhile_cons]
   have:=vG p l
   split
   ·simp; omega
   ·exact Nat.le_refl _
def wk (s:List UInt8) : Nat:=s.length - ((s.map bX).dropWhile (bP.contains ·)).length
theorem yB (s:List UInt8) : wk s≤s.length:=Nat.sub_le _ _
def IM (s:List UInt8) : AV:=.tup [St ((s.take (wk s)).map bX),St (s.drop (wk s))]
def Ej (B:Base) (c:ah) : Prop:=∀ {M:RM} {s:List UInt8} {Q:af},M.base=B→s.length≤1000000000→(∀ M',ag [] M M'→Q (IM s) M')→c [St s] M Q
theorem KJ {B:Base} {cs ct:ah} (hs:EC cs) (ht:Kk B ct) : Ej B fun args M Q=>∃ a0,args=[a0]∧qo cs ct a0 M Q:=by
 intro M s Q hM hl hQ
 refine⟨_,rfl, ?_⟩
 unfold qo
 rw[dY]
 refine hs hl fun M1 k1=>?_
 refine ht (by rw[k1.base,hM]) (by simpa using hl) fun M2 k2=>?_
 have hd:=vG (bP.contains ·) (s.map bX)
 rw[List.length_map] at hd
 rw[dY,FT]
 rw[show IntKind.wrap .i64 ((s.length:Int) - (((s.map bX).dropWhile (bP.contains ·)).length:Int))=((wk s:Nat) : Int) by rw[uq (by omega) (by omega)]; unfold wk; omega]
 rw[iY (yB s),bQ (yB s)]
 simp only[go_sem]
 have:=yB s
 refine hs (by simp; omega) fun M3 k3=>?_
 exact hQ M3 ((k1.trans k2).trans k3)
def Gg (B:Base) (f:List UInt8→List UInt8) (c:ah) : Prop:=∀ {M:RM} {s:List UInt8} {Q:af},M.base=B→s.length≤1000000000→(∀ M',ag [] M M'→Q (St (f s)) M')→c [St s,St bP] M Q
def fq (f:List UInt8→List UInt8) (s:List UInt8) : Bool:=decide (1≤s.length) && decide (s.length≤20) && (f s == [])
def nN (B:Base) (f:List UInt8→List UInt8) (c:ah) : Prop:=∀ {M:RM} {s:List UInt8} {Q:af},M.base=B→s.length≤1000000000→(∀ M',ag [] M M'→Q (Bo (fq f s)) M')→c [St s] M Q
theorem Ef {B:Base} {f:List UInt8→List UInt8} {ct:ah} (ht:Gg B f ct) : nN B f fun args M Q=>∃ a0,args=[a0]∧lh ct a0 M Q:=by
 intro M s Q hM hl hQ
 refine⟨_,rfl, ?_⟩
 unfold lh
 simp only[fu]
 rw[dY,gJ]
 unfold fq at hQ
 by_cases h1:1≤s.length
 ·have e1:decide ((s.length:Int) ≥ 1)=true:=by simp; omega
  rw[e1]
  by_cases h2:s.length≤20
  ·have e2:decide ((s.length:Int)≤20)=true:=by simp; omega
   simp only[go_sem,e2]
   refine ht hM hl fun M1 k1=>?_
   simp only[go_sem]
   have:=hQ M1 k1
   simpa [h1,h2] using this
  ·have e2:decide ((s.length:Int)≤20)=false:=by simp; omega
   simp only[go_sem,e2]
   simpa [h1,h2] using hQ M (ag.refl _ _)
 ·have e1:decide ((s.length:Int) ≥ 1)=false:=by simp; omega
  rw[e1]
  simp only[go_sem]
  simpa [h1] using hQ M (ag.refl _ _)
end Go.Ab.Vl
namespace Go.Ab
open Go Go.RowKit
section
variable {P:Program} {ρ:Ren} {M:RM} {w w' : World}
theorem aI.below {base:Base} {A:AW} (h:aI P base ρ A w) (hb:Below w.heap.size w w') (hn:base.n≤w.heap.size) : aI P base ρ A w' where
 dom b i hbi:=⟨(h.dom b i hbi).1,Nat.lt_of_lt_of_le (h.dom b i hbi).2 hb.size⟩
 blk b i x hbi hx:=let ⟨o,ho,hr⟩:=h.blk b i x hbi hx; ⟨o,by rw[hb.block _ (h.dom b i hbi).2]; exact ho,hr⟩
 sep:=h.sep
 top:=h.top
 lo:=h.lo
 inv:=base.low w w' (fun c hc=>hb.block c (Nat.lt_of_lt_of_le hc hn)) h.inv
theorem Step.of_below {base n:Nat} (hb:Below w.heap.size w w') (hn:base≤w.heap.size) : Step base n ρ w ρ w' where
 os:=hb.os
 tape:=hb.tape
 output:=hb.output
 size:=hb.size
 frame c hc _:=hb.block c hc
 ext _ _:=rfl
 fresh b i h:=.inl ⟨b,i,h,rfl⟩
 low c hc:=hb.block c (Nat.lt_of_lt_of_le hc hn)
theorem After.below (h:bi P ρ M w) (hb:Below w.heap.size w w') : After P M ρ w M ρ w':=by
 obtain⟨A,hA⟩:=h
 refine gm hA (Step.of_below hb hA.size) (hA.rel.below hb hA.size) rfl hA.next (Nat.le_refl _) fun b x hx=>?_
 rcases hA.blk b x hx with h | ⟨c,rfl,_⟩
 ·exact .inl h
 ·exact .inr ⟨c,rfl,hx⟩
theorem bi.inv (h:bi P ρ M w) : M.base.inv w:=by
 obtain⟨A,hA⟩:=h
 exact hA.rel.inv
theorem dE.pM {f:FuncId} {args:List AV} {v:AV} {Q:af} (hP:CP P f)
  (h:∀ (ρ:Ren) (w:World) (us:List Value),aA ρ args us→bi P ρ M w→Calls P f ⟨us⟩ w fun e w'=>∃ v',e=.returned v'∧Below w.heap.size w w'∧aa ρ v v') (hQ:Q v M) : dE P f args M Q:=by
 refine⟨hP,fun ρ w us hargs hw=>(h ρ w us hargs hw).mono fun e w' hR=>?_⟩
 obtain⟨v',rfl,hb,hv⟩:=hR
 exact⟨v',v,M,ρ,rfl,After.below hw hb,hv,hQ⟩
end
end Go.Ab
namespace Go.Ab.Vl
open Go Go.Ab
def brk (x:UInt8) : List UInt8→Option (List UInt8 × List UInt8)
 | []=>none
 | c :: t=>if c=x then some ([],t) else(brk x t).map fun p=>(c :: p.1,p.2)
theorem rZ (x:UInt8) : ∀ s:List UInt8,(brk x s=none∧Lib.indexByte s x=-1∧x ∉ s)∨∃ a b,brk x s=some (a,b)∧Lib.indexByte s x=(a.length:Int)∧s=a++x :: b∧x ∉ a
 | []=>.inl ⟨rfl,rfl,by simp⟩
 | c :: t=>by
   by_cases h:c=x
   ·subst h
    exact .inr ⟨[],t,by simp[brk],by simp[Lib.indexByte],rfl,by simp⟩
   ·have hc:(c == x)=false:=by simpa using h
    rcases rZ x t with⟨h1,h2,h4⟩ | ⟨a,b,h1,h2,h3,h4⟩
    ·exact .inl ⟨by simp[brk,h,h1],by simp[Lib.indexByte,hc,h2],by simp[h4,Ne.symm h]⟩
    ·refine .inr ⟨c :: a,b,by simp[brk,h,h1], ?_,by rw[h3]; rfl,by simp[h4,Ne.symm h]⟩
     have:((a.length:Int) == -1)=false:=by simp
     simp[Lib.indexByte,hc,h2,this]
def Dl (x:UInt8) (c:ah) : Prop:=∀ {M:RM} {s:List UInt8} {Q:af},Q (N .i64 (Lib.indexByte s x)) M→c [St s,St [x]] M Q
theorem GR {x:UInt8} {ci xx c1 c2:ah} (hi:jS ci) : Dl x fun args M Q=>∃ a0 a1,args=[a0,a1]∧bV ci xx c1 c2 a0 a1 M Q:=by
 intro M s Q hQ
 refine⟨_,_,rfl, ?_⟩
 unfold bV
 rw[dY,nk,show((([x] : List UInt8).length:Int) == 0)=false from rfl]
 simp only[fu]
 by_cases h:[x]=s
 ·subst h
  have:Lib.indexByte [x] x=0:=by simp[Lib.indexByte]
  rw[this] at hQ
  simp only[go_sem,beq_self_eq_true]
  exact hQ
 ·have h' : (([x] : List UInt8) == s)=false:=by simp[h]
  simp only[go_sem,h']
  exact⟨fun _=>⟨by omega,x,rfl,hi hQ⟩,fun h=>absurd h (by decide)⟩
def Em (x:UInt8) (s:List UInt8) : AV:=match brk x s with
 | some (a,b)=>.tup [St a,St b,Bo true]
 | none=>.tup [St s,St [],Bo false]
def yT (x:UInt8) (c:ah) : Prop:=∀ {M:RM} {s:List UInt8} {Q:af},s.length≤1000000000→Q (Em x s) M→c [St s,St [x]] M Q
theorem Db {x:UInt8} {ci:ah} (hi:Dl x ci) : yT x fun args M Q=>∃ a0 a1,args=[a0,a1]∧cZ ci a0 a1 M Q:=by
 intro M s Q hl hQ
 refine⟨_,_,rfl, ?_⟩
 unfold cZ
 refine hi ?_
 unfold Em at hQ
 rcases rZ x s with⟨h1,h2,_⟩ | ⟨a,b,h1,h2,h3,_⟩
 ·rw[h1] at hQ
  simp only[go_sem,h2]
  exact⟨fun h=>absurd h (by decide),fun _=>hQ⟩
 ·rw[h1] at hQ
  have hsl:=congrArg List.length h3
  simp at hsl
  rw[h2,gJ,show decide ((a.length:Int) ≥ 0)=true by simp]
  refine⟨fun _=>?_,fun h=>by cases h⟩
  rw[iY (by omega)]
  simp only[go_sem]
  rw[show IntKind.wrap .i64 ((a.length:Int) + ((1:Nat) : Int))=((a.length + 1:Nat) : Int) by rw[uq (by omega) (by omega)]; omega]
  rw[bQ (by omega)]
  simp only[go_sem]
  rw[h3]
  rw[show(a++x :: b).take a.length=a by simp,show(a++x :: b).drop (a.length + 1)=b by rw[← List.drop_drop]; simp]
  exact hQ
theorem KF {x:UInt8} {ci:ah} (hi:yT x ci) : yT x fun args M Q=>∃ a0 a1,args=[a0,a1]∧jq ci a0 a1 M Q:=by
 intro M s Q hl hQ
 refine⟨_,_,rfl, ?_⟩
 unfold jq
 refine hi hl ?_
 unfold Em at hQ ⊢
 cases h:brk x s with
 | none=>rw[h] at hQ; simpa only[go_sem] using hQ
 | some p=>rw[h] at hQ; simpa only[go_sem] using hQ
theorem get_bt (s:List UInt8) (i:Nat) : ((⟨⟨s⟩⟩ : ByteArray).get! i).toNat=bt s i:=by
 unfold bt
 show((⟨s⟩ : Array UInt8)[i]!).toNat=_
 simp only[getElem!_def]
 rw[List.getElem?_toArray]
 cases h:s[i]? with
 | none=>simp only[List.getD_eq_getElem?_getD,h]; rfl
 | some x=>simp[List.getD_eq_getElem?_getD,h]
theorem vW {s:List UInt8} {i:Nat} (hi:i<s.length) :
  (bt s i<128∧Utf8.decode ⟨⟨s⟩⟩ i=(bt s i,1))∨(128≤bt s i∧128≤(Utf8.decode ⟨⟨s⟩⟩ i).1∧(Utf8.decode ⟨⟨s⟩⟩ i).1<2147483648∧1≤(Utf8.decode ⟨⟨s⟩⟩ i).2∧i + (Utf8.decode ⟨⟨s⟩⟩ i).2≤s.length∧∀ k,i≤k→k<i + (Utf8.decode ⟨⟨s⟩⟩ i).2→128≤bt s k):=by
 have hs:(⟨⟨s⟩⟩ : ByteArray).size=s.length:=rfl
 unfold Utf8.decode
 simp only[get_bt,hs,Nat.add_zero,Utf8.runeError]
 by_cases h0:bt s i<128
 ·exact .inl ⟨h0,by rw[if_pos h0]⟩
 right
 have h8:bt s i<256:=by unfold bt; exact(s.getD i 0).toNat_lt
 refine⟨by omega, ?_⟩
 rw[if_neg h0]
 have one:∀ k,i≤k→k<i + 1→128≤bt s k:=fun k h1 h2=>by
  have:k=i:=by omega
  subst this; omega
 split
 ·rename_i h2
  simp only[Bool.and_eq_true,beq_iff_eq,decide_eq_true_eq] at h2
  split
  ·refine⟨by simpa using ‹_›,by simp; omega,by simp,by simp; omega,fun k h3 h4=>?_⟩
   simp at h4
   rcases Nat.lt_or_ge k (i + 1) with h5 | h5
   ·exact one k h3 h5
   ·have:k=i + 1:=by omega
    subst this; omega
  ·exact⟨by simp,by simp,by simp,by simp; omega,fun k h3 h4=>one k h3 (by simpa using h4)⟩
 ·split
  ·rename_i h3
   simp only[Bool.and_eq_true,beq_iff_eq,decide_eq_true_eq] at h3
   split
   ·rename_i h4
    simp only[Bool.and_eq_true,decide_eq_true_eq,ge_iff_le] at h4
    refine⟨by simp; omega,by simp; omega,by simp,by simp; omega,fun k h5 h6=>?_⟩
    simp at h6
    rcases Nat.lt_or_ge k (i + 1) with h7 | h7
    ·exact one k h5 h7
    ·rcases Nat.lt_or_ge k (i + 2) with h7 | h7
     ·have:k=i + 1:=by omega
      subst this; omega
     ·have:k=i + 2:=by omega
      subst this; omega
   ·exact⟨by simp,by simp,by simp,by simp; omega,fun k h3 h4=>one k h3 (by simpa using h4)⟩
  ·split
   ·rename_i h3
    simp only[Bool.and_eq_true,beq_iff_eq,decide_eq_true_eq] at h3
    split
    ·rename_i h4
     simp only[Bool.and_eq_true,decide_eq_true_eq,ge_iff_le] at h4
     refine⟨by simp; omega,by simp; omega,by simp,by simp; omega,fun k h5 h6=>?_⟩
     simp at h6
     rcases Nat.lt_or_ge k (i + 1) with h7 | h7
     ·exact one k h5 h7
     ·rcases Nat.lt_or_ge k (i + 2) with h7 | h7
      ·have:k=i + 1:=by omega
       subst this; omega
      ·rcases Nat.lt_or_ge k (i + 3) with h7 | h7
       ·have:k=i + 2:=by omega
        subst this; omega
       ·have:k=i + 3:=by omega
        subst this; omega
    ·exact⟨by simp,by simp,by simp,by simp; omega,fun k h3 h4=>one k h3 (by simpa using h4)⟩
   ·exact⟨by simp,by simp,by simp,by simp; omega,fun k h3 h4=>one k h3 (by simpa using h4)⟩
theorem GN {r:Nat} (h:128≤r) : ∃ a x,(Utf8.encode (r:Int)).data.toList=a++[x]∧128≤x.toNat∧1≤a.length∧a.length≤3:=by
 have key:∀ c:Nat,128≤c→∃ a x,(if c<0x80 then(⟨#[UInt8.ofNat c]⟩ : ByteArray) else if c<0x800 then⟨#[UInt8.ofNat (0xC0 + c / 64),UInt8.ofNat (0x80 + c % 64)]⟩
   else if c<0x10000 then⟨#[UInt8.ofNat (0xE0 + c / 4096),UInt8.ofNat (0x80 + c / 64 % 64),UInt8.ofNat (0x80 + c % 64)]⟩
   else⟨#[UInt8.ofNat (0xF0 + c / 262144),UInt8.ofNat (0x80 + c / 4096 % 64),UInt8.ofNat (0x80 + c / 64 % 64),UInt8.ofNat (0x80 + c % 64)]⟩).data.toList=a++[x]∧128≤x.toNat∧1≤a.length∧a.length≤3:=by
  intro c hc
  rw[if_neg (by omega)]
  have hx:128≤(UInt8.ofNat (0x80 + c % 64)).toNat:=by simp; omega
  split
  ·exact⟨[_],_,rfl,hx,by simp,by simp⟩
  ·split
   ·exact⟨[_,_],_,rfl,hx,by simp,by simp⟩
   ·exact⟨[_,_,_],_,rfl,hx,by simp,by simp⟩
 have h2:128≤(if Utf8.valid (r:Int)=true then(r:Int).toNat else Utf8.runeError):=by
  split
  ·simpa using h
  ·decide
 simp only[Utf8.encode]
 generalize (if Utf8.valid (r:Int)=true then(r:Int).toNat else Utf8.runeError)=c at h2 ⊢
 exact key c h2
theorem Eg {s:List UInt8} {x:UInt8} (h:x ∉ s) : Lib.indexByte s x=-1:=by
 rcases rZ x s with⟨_,h2,_⟩ | ⟨a,b,_,_,h3,_⟩
 ·exact h2
 ·exact absurd (by rw[h3]; simp) h
def Asc (cs:List UInt8) : Prop:=∀ x∈cs,x.toNat<128
theorem Asc.bt {cs:List UInt8} (h:Asc cs) {i:Nat} (hi:i<cs.length) : bt cs i<128:=by
 rw[← Ey hi]; exact h _ (List.getElem_mem hi)
def tQ (c:ah) : Prop:=∀ {M:RM} {r:Nat} {Q:af},(∀ b,Q (Bo b) M)→c [N .i32 (r:Int)] M Q
theorem CX:tQ fun args M Q=>∃ a0,args=[a0]∧gK a0 M Q:=by
 intro M r Q hQ
 refine⟨_,rfl, ?_⟩
 unfold gK
 simp only[fu,Av]
 simp only[go_sem,decide_true]
 refine⟨fun _=>hQ _,fun _=>?_⟩
 cases decide ((57343:Int)<(r:Int)) with
 | true=>simp only[go_sem]; exact⟨fun _=>hQ _,fun _=>hQ _⟩
 | false=>simp only[go_sem]; exact hQ _
def yY (cs:List UInt8) (r:Nat) : Int:=if r<128 then Lib.indexByte cs (UInt8.ofNat r) else -1
def tK (cs:List UInt8) (c:ah) : Prop:=∀ {M:RM} {r:Nat} {Q:af},r<2147483648→(∀ M',ag [] M M'→Q (N .i64 (yY cs r)) M')→c [St cs,N .i32 (r:Int)] M Q
theorem Di {cs:List UInt8} {ci cv:ah} (hcs:Asc cs) (hl:cs.length≤1000) (hi:jS ci) (hv:tQ cv) : tK cs fun args M Q=>∃ a0 a1,args=[a0,a1]∧jC ci cv a0 a1 M Q:=by
 intro M r Q hr hQ
 refine⟨_,_,rfl, ?_⟩
 unfold jC
 simp only[fu,gB,Av]
 by_cases h1:r<128
 ·have e1:decide ((r:Int)<128)=true:=by simp; omega
  simp only[go_sem,decide_true,e1]
  have:N .u8 (IntKind.wrap .u8 (r:Int))=By (UInt8.ofNat r):=by
   have h2:IntKind.wrap .u8 (r:Int)=(r:Int):=by unfold IntKind.wrap; simp[IntKind.bits,IntKind.signed]; omega
   rw[h2]; simp[By]; omega
  rw[this]
  refine hi ?_
  have:=hQ M (ag.refl _ _)
  rw[yY,if_pos h1] at this
  exact this
 have hm:yY cs r=-1:=by rw[yY,if_neg h1]
 rw[hm] at hQ
 have e1:decide ((r:Int)<128)=false:=by simp; omega
 simp only[go_sem,decide_true,e1]
 refine⟨fun h2=>?_,fun h2=>?_⟩
 ·refine⟨cs,rfl, ?_⟩
  simp only[go_sem]
  refine bL (fun m ys M3=>∃ pos:Nat,m=cs.length - pos∧ys=[]∧M3.heap M.next=some (.fP cs pos)∧ag [] M M3∧M.next<M3.next) _
   ⟨0,rfl,rfl,RM.bg _,(ag.refl _ _).push _,by simp[RM.push]⟩ ?_
  rintro next m ys M3 hnext ⟨pos,rfl,rfl,hh,hk,hlt⟩
  refine⟨_,_,_,rfl,hh, ?_⟩
  split
  ·rename_i hp
   rcases vW hp with⟨d1,d2⟩ | ⟨d1,_⟩
   ·rw[d2]
    simp only[go_sem]
    have e3:((bt cs pos:Int) == 65533)=false:=by simp; omega
    simp only[e3]
    refine⟨fun h=>by simp at h,fun _=>hnext _ _ _ (by omega) ⟨pos + 1,rfl,rfl,RM.jf _ _,hk.put _ (.inl (Nat.le_refl _)),by simpa [RM.kN] using hlt⟩⟩
   ·have:=hcs.bt hp; omega
  ·simp only[go_sem]
   exact hQ M3 hk
 ·refine hv fun b=>?_
  cases b with
  | false=>simp only[go_sem]; exact hQ M (ag.refl _ _)
  | true =>
    simp only[go_sem]
    obtain⟨a,x,hax,hx,ha1,ha2⟩:=GN (r:=r) (by omega)
    rw[hax]
    have w1:IntKind.wrap .i64 (((a++[x]).length:Int) - 1)=((a.length:Nat) : Int):=by simp; rw[uq (by omega) (by omega)]
    have hxn:x ∉ cs:=fun h=>by have:=hcs x h; omega
    rw[w1]
    refine bL (fun m ys M3=>M3=M∧ys=[N .i64 (a.length:Int)]) 0 ⟨rfl,rfl⟩ ?_
    rintro next m ys M3 hnext ⟨rfl,rfl⟩
    simp only[go_sem]
    refine⟨fun h3=>?_,fun h3=>hQ M3 (ag.refl _ _)⟩
    have h3:a.length<cs.length:=by simpa using h3
    have hbt:=hcs.bt h3
    refine uG ?_
    have hla:(a++[x])[a.length]?=some x:=by simp
    refine⟨_,List.getElem?_eq_getElem h3,x,hla,fun _=>?_,fun hne=>?_⟩
    ·rw[show IntKind.wrap .i64 ((a.length:Int) + 1)=((a.length + 1:Nat) : Int) by rw[uq (by omega) (by omega)]; omega]
     rw[bQ (by omega)]
     simp only[go_sem]
     refine⟨x,hla,hi ?_⟩
     rw[Eg (fun h=>hxn (List.mem_of_mem_drop h))]
     simp only[go_sem,show decide ((-1:Int)<0)=true from rfl]
     exact hQ M3 (ag.refl _ _)
    ·rw[Ey h3] at hne
     have:((bt cs a.length:Int) != (x.toNat:Int))=true:=by simp; omega
     rw[this] at hne; cases hne
def wG (cs:List UInt8) (B:Base) (c:ah) : Prop:=∀ {M:RM} {s:List UInt8} {Q:af},M.base=B→s.length≤1000000000→(∀ M',ag [] M M'→Q (N .i64 (Lib.indexAny s cs)) M')→c [St s,St cs] M Q
theorem Dm {cs:List UInt8} {T:Nat} {cr cu cm ct:ah} {M:RM} {s:List UInt8} {Q:af} (hcs:Asc cs) (h2:2≤cs.length) (hl:cs.length≤1000) (hs:s.length≤8) (hr:tK cs cr)
  (hu:∀ {M:RM} {n:Nat} {Q:af},Q (Bo (decide (8<n))) M→cu [N .i64 (n:Int)] M Q) (hQ:∀ M',ag [] M M'→Q (N .i64 (Lib.indexAny s cs)) M') : jU cr cu cm T ct (St s) (St cs) M Q:=by
 unfold jU
 have e0:(cs == ([] : List UInt8))=false:=by
  cases cs with
  | nil=>simp at h2
  | cons=>rfl
 have e1:((cs.length:Int) == 1)=false:=by simp; omega
 simp only[gB,go_sem,e0,e1]
 refine uG ?_
 refine hu ?_
 rw[show decide (8<s.length)=false by simp; omega]
 simp only[go_sem]
 refine⟨s,rfl, ?_⟩
 simp only[go_sem]
 refine bL (fun m ys M3=>∃ pos:Nat,m=s.length - pos∧ys=[]∧M3.heap M.next=some (.fP s pos)∧ag [] M M3∧M.next<M3.next∧pos≤s.length∧Lib.NoAny s cs pos) _
  ⟨0,rfl,rfl,RM.bg _,(ag.refl _ _).push _,by simp[RM.push],Nat.zero_le _,Lib.NoAny.zero _ _⟩ ?_
 rintro next m ys M3 hnext ⟨pos,rfl,rfl,hh,hk,hlt,hple,hno⟩
 refine⟨_,_,_,rfl,hh, ?_⟩
 have Mj:∀ y,ag [] M (M3.put M.next y):=fun y=>hk.put y (.inl (Nat.le_refl _))
 split
 ·rename_i hp
  rcases vW hp with⟨d1,d2⟩ | ⟨d1,d2,d3,d4,d5,d6⟩
  ·rw[d2]
   simp only[go_sem]
   refine hr (by omega) fun M4 k4=>?_
   rw[yY,if_pos d1]
   have hx:UInt8.ofNat (bt s pos)=s[pos]:=by rw[← Ey hp]; simp
   rw[hx]
   have hc:=Lib.contains_iff_indexByte cs s[pos]
   simp only[go_sem]
   refine⟨fun h=>?_,fun h=>?_⟩
   ·have h:(0:Int)≤Lib.indexByte cs s[pos]:=by simpa using h
    rw[decide_eq_true h] at hc
    have:=hQ M4 ((Mj _).trans k4)
    rw[Lib.indexAny_hit hno (List.getElem?_eq_getElem hp) hc] at this
    exact this
   ·have h:¬ (0:Int)≤Lib.indexByte cs s[pos]:=by simpa using h
    rw[decide_eq_false h] at hc
    refine hnext _ _ _ (by omega) ⟨pos + 1,rfl,rfl,k4.aS (RM.jf _ _) (by simpa [RM.kN] using hlt) (by simp),(Mj _).trans k4, ?_,by omega,hno.succ (List.getElem?_eq_getElem hp) hc⟩
    have:=k4.next
    simp[RM.kN] at this; omega
  ·generalize Utf8.decode ⟨⟨s⟩⟩ pos=d at *
   obtain⟨r,n⟩:=d
   simp only at d2 d3 d4 d5 d6
   simp only[go_sem]
   refine hr d3 fun M4 k4=>?_
   rw[yY,if_neg (by omega)]
   simp only[go_sem,show decide ((-1:Int) ≥ 0)=false from rfl]
   refine hnext _ _ _ (by omega) ⟨pos + n,rfl,rfl,k4.aS (RM.jf _ _) (by simpa [RM.kN] using hlt) (by simp),(Mj _).trans k4, ?_,by omega,fun j b hj hb=>?_⟩
   ·have:=k4.next
    simp[RM.kN] at this; omega
   ·rcases Nat.lt_or_ge j pos with h | h
    ·exact hno j b h hb
    ·have hjl:j<s.length:=(List.getElem?_eq_some_iff.1 hb).1
     have h7:=d6 j h hj
     rw[← Ey hjl] at h7
     have h8:s[j]=b:=(List.getElem?_eq_some_iff.1 hb).2
     rw[h8] at h7
     cases hcb:cs.contains b with
     | false=>rfl
     | true =>
       have:=hcs b (by simpa using hcb)
       omega
 ·simp only[go_sem]
  have:pos=s.length:=by omega
  subst this
  rw[Lib.indexAny_none hno] at hQ
  exact hQ M3 hk
end Go.Ab.Vl
namespace Go.Ab
open Go Go.RowKit
structure jY (α:Type) where
 size:Nat
 rel:RM→List AV→α→(Nat→Prop)→Prop
 len:∀ {M cs a S},rel M cs a S→cs.length=size
 one:∀ {M cs a S},rel M cs a S→cs.all oneCell=true
 mono:∀ {M cs a S S'},rel M cs a S→(∀ b,S b→S' b)→rel M cs a S'
 lt:∀ {M cs a S},rel M cs a S→rel M cs a (fun b=>S b∧b<M.next)
 keep:∀ {M M' cs a S bs},rel M cs a S→ag bs M M'→(∀ b∈bs,¬ S b)→rel M' cs a S
def Enc.kL {α:Type} (E:Enc α) : jY α where
 size:=E.size
 rel _ cs a _:=cs=E.cells a
 len h:=by subst h; exact E.len _
 one h:=by subst h; exact E.one _
 mono h _:=h
 lt h:=h
 keep h _ _:=h
inductive di {α:Type} (R:jY α) (M:RM) (S:Nat→Prop) : List AV→List α→Prop
 | nil:di R M S [] []
 | cons {cs ds:List AV} {a:α} {xs:List α} : R.rel M cs a S→di R M S ds xs→di R M S (cs++ds) (a :: xs)
section
variable {α:Type} {R:jY α} {M M' : RM} {S S' : Nat→Prop} {cs ds:List AV} {xs ys:List α} {a:α}
theorem di.len (h:di R M S cs xs) : cs.length=xs.length * R.size:=by
 induction h with
 | nil=>simp
 | cons h1 _ ih=>rw[List.length_append,R.len h1,ih,List.length_cons,Nat.succ_mul,Nat.add_comm]
theorem di.one (h:di R M S cs xs) : cs.all oneCell=true:=by
 induction h with
 | nil=>rfl
 | cons h1 _ ih=>rw[List.all_append,R.one h1,ih]; rfl
theorem di.mono (h:di R M S cs xs) (hs:∀ b,S b→S' b) : di R M S' cs xs:=by
 induction h with
 | nil=>exact .nil
 | cons h1 _ ih=>exact .cons (R.mono h1 hs) ih
theorem di.lt (h:di R M S cs xs) : di R M (fun b=>S b∧b<M.next) cs xs:=by
 induction h with
 | nil=>exact .nil
 | cons h1 _ ih=>exact .cons (R.lt h1) ih
theorem di.keep {bs:List Nat} (h:di R M S cs xs) (hk:ag bs M M') (hb:∀ b∈bs,¬ S b) : di R M' S cs xs:=by
 induction h with
 | nil=>exact .nil
 | cons h1 _ ih=>exact .cons (R.keep h1 hk hb) ih
theorem di.append (h:di R M S cs xs) (k:di R M S ds ys) : di R M S (cs++ds) (xs++ys):=by
 induction h with
 | nil=>exact k
 | cons h1 _ ih=>rw[List.append_assoc]; exact .cons h1 ih
theorem di.single (h:R.rel M cs a S) : di R M S cs [a]:=by
 have:=di.cons h .nil
 simpa using this
theorem di.get (h:di R M S cs xs) : ∀ {i:Nat} (hi:i<xs.length),R.rel M ((cs.drop (i * R.size)).take R.size) xs[i] S:=by
 induction h with
 | nil=>intro i hi; simp at hi
 | cons h1 h2 ih =>
   rename_i c1 d1 a1 x1
   intro i hi
   cases i with
   | zero =>
     rw[Nat.zero_mul,List.drop_zero,List.take_append_of_le_length (by rw[R.len h1]; exact Nat.le_refl _),List.take_of_length_le (by rw[R.len h1]; exact Nat.le_refl _)]
     exact h1
   | succ i =>
     rw[Nat.succ_mul,Nat.add_comm,← List.drop_drop,List.drop_left' (R.len h1)]
     exact ih (by simpa using hi)
theorem di.cells {E:Enc α} : ∀ {cs:List AV} {xs:List α},di E.kL M S cs xs→cs=E.row xs
 | _,_,.nil=>rfl
 | _,_,.cons h1 h2=>by rw[Enc.jo,di.cells h2]; rw[show _=_ from h1]
theorem di.of_cells {E:Enc α} : ∀ (xs:List α),di E.kL M S (E.row xs) xs
 | []=>.nil
 | x :: xs=>by rw[Enc.jo]; exact .cons rfl (di.of_cells xs)
def bT (R:jY α) (M:RM) (v:AV) (xs:List α) (S:Nat→Prop) : Prop :=
 ∃ cs,dQ M R.size v cs xs.length∧(∀ b∈aD v,S b)∧di R M S cs xs
theorem dQ.lt {size n:Nat} {v:AV} (h:dQ M size v cs n) : ∀ b∈aD v,b<M.next:=by
 cases h with
 | nil=>intro b hb; simp[aD] at hb
 | emp=>intro b hb; simp[aD] at hb
 | slc b o n cap cs hb _=>intro c hc; simp[aD] at hc; omega
theorem dQ.one {size n:Nat} {v:AV} (h:dQ M size v cs n) : oneCell v=true:=by
 cases h <;> rfl
theorem dQ.cells {size n:Nat} {v:AV} (h:dQ M size v cs n) : v.cells=[v]:=by
 cases h <;> rfl
variable {v:AV}
theorem bT.mono (h:bT R M v xs S) (hs:∀ b,S b→S' b) : bT R M v xs S':=let ⟨cs,h1,h2,h3⟩:=h; ⟨cs,h1,fun b hb=>hs b (h2 b hb),h3.mono hs⟩
theorem bT.lt (h:bT R M v xs S) : bT R M v xs (fun b=>S b∧b<M.next):=let ⟨cs,h1,h2,h3⟩:=h; ⟨cs,h1,fun b hb=>⟨h2 b hb,h1.lt b hb⟩,h3.lt⟩
theorem bT.keep {bs:List Nat} (h:bT R M v xs S) (hk:ag bs M M') (hb:∀ b∈bs,¬ S b) : bT R M' v xs S :=
 let ⟨cs,h1,h2,h3⟩:=h; ⟨cs,h1.keep hk (fun b hv hbs=>hb b hbs (h2 b hv)),h2,h3.keep hk hb⟩
theorem bT.len (h:bT R M v xs S) {K:AV→Prop} : dF v K=K (N .i64 xs.length):=let ⟨cs,h1,_,_⟩:=h; h1.len
theorem bT.one (h:bT R M v xs S) : oneCell v=true:=let ⟨cs,h1,_,_⟩:=h; h1.one
theorem bT.cells (h:bT R M v xs S) : v.cells=[v]:=let ⟨cs,h1,_,_⟩:=h; h1.cells
theorem bT.nil:bT R M aR [] S:=⟨[],.nil,by simp[aD],.nil⟩
theorem bT.sl {E:Enc α} (h:bT E.kL M v xs S) : Sl E M v xs:=by
 obtain⟨cs,h1,h2,h3⟩:=h
 rw[h3.cells] at h1
 exact h1
theorem bT.Qc {E:Enc α} (h:Sl E M v xs) (hs:∀ b∈aD v,S b) : bT E.kL M v xs S:=⟨_,h,hs,di.of_cells xs⟩
theorem bT.at (h:bT R M v xs S) {i:Nat} (sz:Nat) (j:Int) (hi:i<xs.length) (hsz:R.size=sz:=by rfl) (hj:j=(i:Int):=by rfl) :
  ∃ b o cs,b<M.next∧b∈aD v∧(∀ (kd:IntKind) (K:AV→Prop),bS v (N kd j) sz K=K (.ptr b o))∧M.loads b o sz=some cs∧R.rel M cs xs[i] S:=by
 subst hsz hj
 obtain⟨cs,h1,h2,h3⟩:=h
 obtain⟨b,o,cap,rfl,hb,hl⟩:=h1.pos (by omega)
 have hsum:i * R.size + R.size≤xs.length * R.size:=by rw[← Nat.succ_mul]; exact Nat.mul_le_mul_right _ hi
 refine⟨b,o + i * R.size,(cs.drop (i * R.size)).take R.size,hb,by simp[aD],fun kd K=>?_, ?_,h3.get hi⟩
 ·rw[AA]
  simp only[Int.toNat_natCast]
  exact propext ⟨fun h=>h.2.2,fun h=>⟨by omega,by omega,h⟩⟩
 ·rw[DW hl (i * R.size) R.size hsum]
def jY.slice (R:jY α) : jY (List α) where
 size:=1
 rel M cs xs S:=∃ v,cs=[v]∧bT R M v xs S
 len h:=by obtain⟨v,rfl,_⟩:=h; rfl
 one h:=by obtain⟨v,rfl,h⟩:=h; simp[h.one]
 mono h hs:=by obtain⟨v,rfl,h⟩:=h; exact⟨v,rfl,h.mono hs⟩
 lt h:=by obtain⟨v,rfl,h⟩:=h; exact⟨v,rfl,h.lt⟩
 keep h hk hb:=by obtain⟨v,rfl,h⟩:=h; exact⟨v,rfl,h.keep hk hb⟩
def fJ (R:jY α) (M:RM) (base el:Nat) (v:AV) (xs:List α) (S:Nat→Prop) : Prop :=
 ∃ cs,Own M base el R.size v cs xs.length∧di R M S cs xs
theorem fJ.nil {base el:Nat} : fJ R M base el aR [] S:=⟨[],.nil,.nil⟩
theorem fJ.mono {base el:Nat} (h:fJ R M base el v xs S) (hs:∀ b,S b→S' b) : fJ R M base el v xs S':=let ⟨cs,h1,h2⟩:=h; ⟨cs,h1,h2.mono hs⟩
theorem fJ.lt {base el:Nat} (h:fJ R M base el v xs S) : fJ R M base el v xs (fun b=>S b∧b<M.next):=let ⟨cs,h1,h2⟩:=h; ⟨cs,h1,h2.lt⟩
theorem fJ.keep {base el:Nat} {bs:List Nat} (h:fJ R M base el v xs S) (hk:ag bs M M') (hb:∀ b∈bs,¬ S b) (hv:∀ b∈aD v,b ∉ bs) : fJ R M' base el v xs S :=
 let ⟨cs,h1,h2⟩:=h; ⟨cs,h1.keep hk hv,h2.keep hk hb⟩
theorem fJ.len {base el:Nat} (h:fJ R M base el v xs S) {K:AV→Prop} : dF v K=K (N .i64 xs.length):=let ⟨cs,h1,_⟩:=h; h1.Du.len
theorem fJ.blk {base el:Nat} (h:fJ R M base el v xs S) : ∀ b∈aD v,base≤b∧b<M.next:=let ⟨cs,h1,_⟩:=h; h1.blk
theorem fJ.Nb {base el:Nat} (h:fJ R M base el v xs S) (hs:∀ b,base≤b→b<M.next→S b) : bT R M v xs S :=
 let ⟨cs,h1,h2⟩:=h; ⟨cs,h1.Du,fun b hb=>hs b (h1.blk b hb).1 (h1.blk b hb).2,h2⟩
theorem fJ.cells {base el:Nat} (h:fJ R M base el v xs S) : v.cells=[v]:=let ⟨cs,h1,_⟩:=h; h1.cells
theorem fJ.one {base el:Nat} (h:fJ R M base el v xs S) : oneCell v=true:=let ⟨cs,h1,_⟩:=h; h1.one
theorem fJ.app {base T bytes:Nat} {zs:List AV} {K:af} (ho:fJ R M base T v xs S) (ha:R.rel M cs a S) (hb:base≤M.next) (hs:1≤R.size)
  (hd:∀ b∈aD v,¬ S b) (hS:∀ b,S b→b<M.next)
  (hn:(xs.length + 1) * bytes≤140737488355328) (hn2:xs.length + 1≤140737488355328)
  (hK:∀ v' M',fJ R M' base T v' (xs++[a]) S→ag (aD v) M M'→M.next≤M'.next→(v'=v∨∀ b∈aD v',M.next≤b)→(∀ b∈aD v',¬ S b)→K v' M') :
  appW T R.size bytes zs false v (.slc M.next 0 1 (.ex 1)) (M.push (.row cs false T 0)) K:=by
 obtain⟨ds,h1,h2⟩:=ho
 have hk:ag [] M (M.push (.row cs false T 0)):=(ag.refl _ _).push _
 have hl:=R.len ha
 have hnl:lQ (M.push (.row cs false T 0)) R.size zs false (.slc M.next 0 1 (.ex 1))=some (1,cs):=by
  simp only[lQ,Nat.one_mul]
  rw[RM.nP (RM.bg _) (by omega),List.drop_zero,← hl,List.take_length]
 refine yN (h1.keep hk (by simp)) (Nat.le_trans hb hk.next) hs hnl (by rw[hl,Nat.one_mul]) (R.one ha) hn hn2 ?_
 intro v' M' q1 q2 q3 q4
 have kk:ag (aD v) M M':=(hk.mono (by simp)).trans q2
 refine hK v' M' ⟨_,by simpa using q1, ?_⟩ kk (Nat.le_trans hk.next q3) (q4.imp id fun h b hb=>Nat.le_trans hk.next (h b hb)) ?_
 ·exact(h2.keep kk hd).append (di.single (R.keep ha kk hd))
 ·rcases q4 with rfl | q4
  ·exact hd
  ·intro b hb hSb
   have:=q4 b hb
   have:=hS b hSb
   simp only[RM.push] at *
   omega
end
section
variable {M M' : RM} {b i n e f:Nat} {l:List AV} {p:Bool} {x:AV}
theorem aB {K:AV→Prop} (h:M.heap b=some (.row l p e f)) (hx:l[i]?=some x) : az M (.ptr b i) K=K x:=by
 rw[cz,RM.cell_of h,hx]; simp
theorem fV {K:AV→Prop} (h:M.heap b=some (.row l p e f)) (hn:l.length=n) : dK M (.ptr b 0) n K=K (.agg l):=by
 rw[xA,RM.MH h]
 have:qw (some l) 0 n=some l:=by simp[qw,← hn]
 rw[this]; simp
theorem wB {K:RM→Prop} (h:M.heap b=some (.row l p e 0)) (hi:i<l.length) (hc:x.cells=[x]) (h1:oneCell x=true) : aV M (.ptr b i) x 1 K=K (M.put b (.row (l.set i x) p e 0)):=by
 rw[BF,hc,RM.iZ h,fC (by simp only[List.length_cons,List.length_nil]; omega) (Nat.zero_le _) (by simp[h1])]
 have:l.take i++[x]++l.drop (i + 1)=l.set i x:=by
  rw[List.set_eq_take_append_cons_drop,if_pos hi]; simp
 simp[this]
theorem iW {K:RM→Prop} (l' : List AV) (h:M.heap b=some (.row l p e 0)) (hi:i<l.length) (hc:x.cells=[x]) (h1:oneCell x=true) (hl:l.set i x=l') : aV M (.ptr b i) x 1 K=K (M.put b (.row l' p e 0)):=by
 rw[wB h hi hc h1,hl]
theorem bn {K:AV→Prop} : aM (.ptr b 0) n K=K (.ptr b n):=by rw[eG,Nat.zero_add]
theorem iC {K:RM→Prop} (h:M.heap b=some (.row l p e 0)) (hn:x.cells.length=n) (hl:l.length=n) (h1:x.cells.all oneCell=true) : aV M (.ptr b 0) x n K=K (M.put b (.row x.cells p e 0)):=by
 rw[BF,RM.iZ h,D8 (by rw[hn,hl]) h1]
 simp[hn]
theorem fB {c:Nat} {y z:RB} (h:M.heap b=some y) (hb:b≠c) : (M.put c z).heap b=some y:=by
 simp only[RM.put]; rw[if_neg hb]; exact h
theorem bf (y:RB) : (M.put b y).heap b=some y:=RM.jf _ _
theorem iL {y z:RB} (h:M.heap b=some y) (hb:b<M.next) : (M.push z).heap b=some y:=by
 simp only[RM.push]; rw[if_neg (by omega)]; exact h
theorem dL (y:RB) : (M.push y).next=M.next + 1:=rfl
theorem lv (c:Nat) (y:RB) : (M.put c y).next=M.next:=rfl
theorem ag.new {bs:List Nat} (h:ag bs M M') {b:Nat} (y:RB) (hb:M.next≤b) : ag bs M (M'.put b y):=h.put y (.inl hb)
end
variable {M:RM}
theorem kV {a:AV} {l:List AV} {K:AV→Prop} : aW (.tup (a :: l)) 0 K=K a:=by rw[AO]; simp
theorem kU {a b:AV} {l:List AV} {K:AV→Prop} : aW (.tup (a :: b :: l)) 1 K=K b:=by rw[AO]; simp
theorem Ep {a b c:AV} {l:List AV} {K:AV→Prop} : aW (.tup (a :: b :: c :: l)) 2 K=K c:=by rw[AO]; simp
theorem gy {p q:Prop} : au (Bo true) p q=p:=by simp[EA]
theorem kw {p q:Prop} : au (Bo false) p q=q:=by simp[EA]
theorem dI {b:Bool} {p q:Prop} (h1:b=true→p) (h2:b=false→q) : au (Bo b) p q:=⟨h1,h2⟩
theorem wH {f g:af→Prop} {k:af} : ae (Bo true) true f g k=f k:=rfl
theorem iw {f g:af→Prop} {k:af} : ae (Bo false) false f g k=f k:=rfl
theorem dx {f g:af→Prop} {k:af} : ae (Bo true) false f g k=g k:=rfl
theorem D6 {f g:af→Prop} {k:af} : ae (Bo false) true f g k=g k:=rfl
theorem D5 {f g:KR→Prop} {k:KR} : bM (Bo true) true f g k=f k:=rfl
theorem KZ {f g:KR→Prop} {k:KR} : bM (Bo false) false f g k=f k:=rfl
theorem Ky {f g:KR→Prop} {k:KR} : bM (Bo true) false f g k=g k:=rfl
theorem fH {a b:AV} {K:AV→Prop} : aP (Bo true) a b K=K a:=by rw[Fs]; rfl
theorem kE {a b:AV} {K:AV→Prop} : aP (Bo false) a b K=K b:=by rw[Fs]; rfl
theorem dQ.known {size:Nat} {v:AV} {cs:List AV} {n:Nat} (h:dQ M size v cs n) : known v=true:=by
 cases h <;> rfl
theorem bT.known {α:Type} {R:jY α} {v:AV} {xs:List α} {S:Nat→Prop} (h:bT R M v xs S) : known v=true:=let ⟨_,h1,_,_⟩:=h; h1.known
theorem lu {t:TypeId} {cs:List AV} {K:RB→(Nat→AV)→Prop} (h1:cs.all oneCell=true) (h2:1≤cs.length) : qd t (.agg cs) K=K (.row cs false t 0) (fun b=>.ptr b 0):=by
 unfold qd
 exact propext ⟨fun h=>h.2.2,fun h=>⟨h1,h2,h⟩⟩
theorem OD {x y a b:AV} (h1:known x=true) (h2:x.cells=[x]) (h3:known y=true) (h4:y.cells=[y]) : uB [a,b] [(0,1,x),(1,1,y)]=some [x,y]:=by
 simp[uB,h1,h2,h3,h4]
def jY.pre {α β:Type} (E:Enc α) (R:jY β) : jY (α × β) where
 size:=E.size + R.size
 rel M cs a S:=∃ ds,cs=E.cells a.1++ds∧R.rel M ds a.2 S
 len h:=by obtain⟨ds,rfl,h⟩:=h; rw[List.length_append,E.len,R.len h]
 one h:=by obtain⟨ds,rfl,h⟩:=h; rw[List.all_append,E.one,R.one h]; rfl
 mono h hs:=by obtain⟨ds,rfl,h⟩:=h; exact⟨ds,rfl,R.mono h hs⟩
 lt h:=by obtain⟨ds,rfl,h⟩:=h; exact⟨ds,rfl,R.lt h⟩
 keep h hk hb:=by obtain⟨ds,rfl,h⟩:=h; exact⟨ds,rfl,R.keep h hk hb⟩
def jY.post {α β:Type} (R:jY α) (E:Enc β) : jY (α × β) where
 size:=R.size + E.size
 rel M cs a S:=∃ ds,cs=ds++E.cells a.2∧R.rel M ds a.1 S
 len h:=by obtain⟨ds,rfl,h⟩:=h; rw[List.length_append,E.len,R.len h]
 one h:=by obtain⟨ds,rfl,h⟩:=h; rw[List.all_append,E.one,R.one h]; rfl
 mono h hs:=by obtain⟨ds,rfl,h⟩:=h; exact⟨ds,rfl,R.mono h hs⟩
 lt h:=by obtain⟨ds,rfl,h⟩:=h; exact⟨ds,rfl,R.lt h⟩
 keep h hk hb:=by obtain⟨ds,rfl,h⟩:=h; exact⟨ds,rfl,R.keep h hk hb⟩
def jY.map {α β:Type} (R:jY α) (g:β→α) : jY β where
 size:=R.size
 rel M cs a S:=R.rel M cs (g a) S
 len h:=R.len h
 one h:=R.one h
 mono h hs:=R.mono h hs
 lt h:=R.lt h
 keep h hk hb:=R.keep h hk hb
end Go.Ab
namespace Go.Ab.Vl
open Go Go.Ab
def fG:List UInt8:=[44,59,58]
def jd (s:List UInt8) : List UInt8 × List UInt8 × Bool :=
 if aK 34 s then match brk 34 (s.drop 1) with
  | some (a,b)=>(a,b,eB [] a)
  | none=>(s.drop 1,[],false)
 else if Lib.indexAny s fG<0 then([],[],false)
 else(s.take (Lib.indexAny s fG).toNat,s.drop (Lib.indexAny s fG).toNat,eB [34] (s.take (Lib.indexAny s fG).toNat))
theorem zH:∀ (s cs:List UInt8),Lib.indexAny s cs<(s.length:Int)∨Lib.indexAny s cs=-1
 | [],cs=>.inr rfl
 | b :: s,cs=>by
   have:=zH s cs
   rw[Lib.indexAny]
   split
   ·left; simp only[List.length_cons]; omega
   ·split
    ·right; rfl
    ·rename_i h1 h2
     left
     rcases this with h | h
     ·simp only[List.length_cons]; omega
     ·rw[h] at h2; simp at h2
theorem p9 (s:List UInt8) : (jd s).1.length≤s.length∧(jd s).2.1.length≤s.length:=by
 unfold jd
 split
 ·rcases rZ 34 (s.drop 1) with⟨h1,_⟩ | ⟨a,b,h1,_,h3,_⟩
  ·rw[h1]; simp
  ·rw[h1]
   have:=congrArg List.length h3
   simp at this ⊢; omega
 ·split
  ·simp
  ·simp; omega
def FK (B:Base) (c:ah) : Prop:=∀ {M:RM} {s:List UInt8} {Q:af},M.base=B→s.length≤1000000→(∀ M',ag [] M M'→Q (.tup [St (jd s).1,St (jd s).2.1,Bo (jd s).2.2]) M')→c [St s] M Q
theorem Ir {B:Base} {cp cc cg ci:ah} (hp:ko cp) (hc:yT 34 cc) (hg:j3 B cg) (hi:wG fG B ci) : FK B fun args M Q=>∃ a0,args=[a0]∧om cp cc cg ci a0 M Q:=by
 intro M s Q hM hl hQ
 refine⟨_,rfl, ?_⟩
 unfold om
 refine hp (by omega) ?_
 unfold JN
 unfold jd at hQ
 cases hh:aK 34 s with
 | true =>
   simp only[hh,if_true] at hQ
   simp only[go_sem,fu]
   refine hc (by simp; omega) ?_
   unfold Em
   cases hb:brk 34 (s.drop 1) with
   | none =>
     simp only[hb] at hQ
     simp only[go_sem]
     exact hQ M (ag.refl _ _)
   | some p =>
     obtain⟨a,b⟩:=p
     simp only[hb] at hQ
     have:=p9 s
     unfold jd at this
     simp only[hh,if_true,hb] at this
     simp only[go_sem]
     refine hg hM (by omega) fun M1 k1=>?_
     exact hQ M1 k1
 | false =>
   simp only[hh,Bool.false_eq_true,if_false] at hQ
   simp only[go_sem,Bool.false_eq_true,if_false]
   refine hi hM (by omega) fun M1 k1=>?_
   have hlt:=zH s fG
   generalize Lib.indexAny s fG=n at *
   simp only[go_sem]
   refine⟨fun h=>?_,fun h=>?_⟩
   ·have h:n<0:=by simpa using h
    simp only[h,if_true] at hQ
    exact hQ M1 k1
   ·have h:¬ n<0:=by simpa using h
    simp only[h,if_false] at hQ
    obtain⟨k,rfl⟩ : ∃ k:Nat,n=(k:Int):=⟨n.toNat,by omega⟩
    simp only[Int.toNat_natCast] at hQ
    have hk:k≤s.length:=by omega
    rw[iY hk,bQ hk]
    simp only[go_sem]
    refine hg (by rw[k1.base,hM]) (by simp; omega) fun M2 k2=>?_
    exact hQ M2 (k1.trans k2)
abbrev jJ:=List UInt8 × List (List UInt8)
def jV:jY jJ:=jY.pre fU fU.kL.slice
theorem AY {M:RM} {n:List UInt8} {v:AV} {vs:List (List UInt8)} {S:Nat→Prop} (h:bT fU.kL M v vs S) : jV.rel M [St n,v] (n,vs) S:=⟨[v],rfl,v,rfl,h⟩
def gV:Nat→List UInt8→List (List UInt8)→Option (List (List UInt8) × List UInt8)
 | 0,_,_=>none
 | k + 1,s,acc=>match jd (s.drop 1) with
   | (v,after,ok)=>if ok then(if aK 44 after then gV k after (acc++[v]) else some (acc++[v],after)) else none
def lm (f:List UInt8→List UInt8) : Nat→List UInt8→List jJ→Option (List jJ × List UInt8)
 | 0,_,_=>none
 | k + 1,s,acc=>if aK 59 s then
     (if fq f (((s.drop 1).take (wk (s.drop 1))).map bX) && aK 61 ((s.drop 1).drop (wk (s.drop 1))) then
      match gV ((s.drop 1).drop (wk (s.drop 1))).length ((s.drop 1).drop (wk (s.drop 1))) [] with
      | some (vs,s3)=>lm f k s3 (acc++[(((s.drop 1).take (wk (s.drop 1))).map bX,vs)])
      | none=>none
     else none)
   else some (acc,s)
theorem bU {x:UInt8} {s:List UInt8} (h:aK x s=true) : 1≤s.length:=by
 cases s with
 | nil=>cases h
 | cons=>simp
theorem nR:∀ (k:Nat) (s:List UInt8) (acc vs:List (List UInt8)) (r:List UInt8),1≤s.length→gV k s acc=some (vs,r)→r.length + vs.length≤s.length + acc.length
 | 0,_,_,_,_,_,h=>by cases h
 | k + 1,s,acc,vs,r,h1,h=>by
   rw[gV] at h
   have hl:=p9 (s.drop 1)
   generalize jd (s.drop 1)=x at *
   obtain⟨v,after,ok⟩:=x
   simp only[List.length_drop] at hl h
   split at h
   ·split at h
    ·rename_i hh
     have:=nR k after _ vs r (bU hh) h
     simp at this; omega
    ·cases h; simp; omega
   ·cases h
theorem uP:∀ (n:Nat) (s:List UInt8) (acc:List (List UInt8)) (k:Nat),s.length≤n→1≤s.length→s.length≤k→gV k s acc=gV s.length s acc
 | 0,s,acc,k,h1,h2,h3=>by omega
 | n + 1,s,acc,k,h1,h2,h3=>by
   obtain⟨j,hj⟩ : ∃ j,s.length=j + 1:=⟨s.length - 1,by omega⟩
   obtain⟨i,rfl⟩ : ∃ i,k=i + 1:=⟨k - 1,by omega⟩
   rw[hj,gV,gV]
   have hl:=p9 (s.drop 1)
   generalize jd (s.drop 1)=x at *
   obtain⟨v,after,ok⟩:=x
   simp only[List.length_drop] at hl ⊢
   split
   ·split
    ·rename_i hh
     have h4:=bU hh
     rw[uP n after _ i (by omega) h4 (by omega),uP n after _ j (by omega) h4 (by omega)]
    ·rfl
   ·rfl
theorem vT (f:List UInt8→List UInt8) : ∀ (n:Nat) (s:List UInt8) (acc:List jJ) (k:Nat),s.length≤n→s.length + 1≤k→lm f k s acc=lm f (s.length + 1) s acc
 | n,s,acc,k,h1,h3=>by
   obtain⟨i,rfl⟩ : ∃ i,k=i + 1:=⟨k - 1,by omega⟩
   rw[lm,lm]
   split
   ·rename_i h59
    have hpos:=bU h59
    split
    ·rename_i hc
     simp only[Bool.and_eq_true] at hc
     have h61:=bU hc.2
     cases hv:gV ((s.drop 1).drop (wk (s.drop 1))).length ((s.drop 1).drop (wk (s.drop 1))) [] with
     | none=>rfl
     | some p =>
       obtain⟨vs,s3⟩:=p
       have:=nR _ _ _ _ _ h61 hv
       simp at this
       simp only
       cases n with
       | zero=>omega
       | succ n =>
         rw[vT f n s3 _ i (by omega) (by omega),vT f n s3 _ s.length (by omega) (by omega)]
    ·rfl
   ·rfl
def oW (f:List UInt8→List UInt8) (s:List UInt8) : Option (List jJ × List UInt8):=lm f (s.length + 1) s []
def Cy (B:Base) (f:List UInt8→List UInt8) (TP:Nat) (c:ah) : Prop:=∀ {M:RM} {s:List UInt8} {Q:af},M.base=B→s.length≤100000 →
 (∀ M',ag [] M M'→oW f s=none→Q (.tup [aR,St [],Bo false]) M') →
 (∀ v M' ps r,ag [] M M'→oW f s=some (ps,r)→bT jV M' v ps (fun b=>M.next≤b)→ps.length + r.length≤s.length→Q (.tup [v,St r,Bo true]) M')→c [St s] M Q
theorem Gw {B:Base} {f:List UInt8→List UInt8} {TP TS:Nat} {ch cw cg cv:ah} (hh:lJ ch) (hw:Ej B cw) (hg:nN B f cg) (hv:FK B cv) :
  Cy B f TP fun args M Q=>∃ a0,args=[a0]∧mE ch TP cw cg cv TS a0 M Q:=by
 intro M s Q hM hl hN hS
 refine⟨_,rfl, ?_⟩
 unfold mE
 simp only[fu,gB]
 refine bL (fun m ys M3=>∃ (t:List UInt8) (v:AV) (acc:List jJ),m=t.length∧ys=[St t,v]∧acc.length + t.length≤s.length∧ag [] M M3 ∧
   fJ jV M3 M.next TP v acc (fun b=>M.next≤b∧b<M3.next∧b ∉ aD v)∧lm f (t.length + 1) t acc=oW f s) _
  ⟨s,aR,[],rfl,rfl,by simp,ag.refl _ _,.nil,rfl⟩ ?_
 rintro next m ys M3 hnext ⟨t,v,acc,rfl,rfl,hal,hK,ho,hp⟩
 have hM3:M3.base=B:=by rw[hK.base,hM]
 rw[lm] at hp
 dsimp only[aj]
 refine hh (by omega) ?_
 cases h59:aK 59 t with
 | false =>
   simp only[h59,Bool.false_eq_true,if_false] at hp
   rw[kw]
   refine hS v M3 acc t hK hp.symm ((ho.mono (fun b h=>h.1)).Nb (fun b hb _=>hb)) hal
 | true =>
   simp only[h59,if_true] at hp
   have htl:=bU h59
   rw[gy,bJ,show aN (St t) (some (N .i64 1)) none=some (St (t.drop 1)) from bQ (l:=1) (by omega) .i64,ja]
   have hb5:(M3.push (.row [St [],aR] false TP 0)).heap M3.next=some (.row [St [],aR] false TP 0):=RM.bg _
   refine hw (by rw[RM.Lb,hM3]) (by simp; omega) fun M4 k4=>?_
   have hb5:=k4.aS hb5 (by simp[RM.push]) (by simp)
   have hn4:M3.next<M4.next:=by have:=k4.next; simp[RM.push] at this; omega
   have kk4:ag [] M3 M4:=((ag.refl _ _).push _).trans k4
   unfold IM
   rw[kV,kU,eG,Nat.zero_add,wB hb5 (by decide) rfl rfl,eG,Nat.zero_add,aB (bf _) rfl]
   generalize ht1:t.drop 1=t1 at *
   have ht1l:t1.length + 1=t.length:=by rw[← ht1]; simp; omega
   have hwk:=yB t1
   generalize wk t1=k at *
   refine hg (by rw[RM.Mt,kk4.base,hM3]) (by simp; omega) fun M5 k5=>?_
   rw[dD]
   have fail:oW f s=none→Q (.tup [aR,St [],Bo false]) M5:=fun h=>hN M5 ((hK.trans kk4).new _ hK.next |>.trans k5) h
   cases hgn:fq f ((t1.take k).map bX) with
   | false =>
     simp only[hgn,Bool.false_and,Bool.false_eq_true,if_false] at hp
     rw[Bool.not_false,dx]
     dsimp only
     rw[fH,gy]
     exact fail hp.symm
   | true =>
   rw[Bool.not_true,iw]
   refine hh (by simp; omega) ?_
   rw[dD]
   cases h61:aK 61 (t1.drop k) with
   | false =>
     simp only[h61,Bool.and_false,Bool.false_eq_true,if_false] at hp
     rw[Bool.not_false,kE,gy]
     exact fail hp.symm
   | true =>
   simp only[hgn,h61,Bool.and_self,if_true] at hp
   rw[Bool.not_true,kE,kw]
   generalize ht2:t1.drop k=t2 at *
   have ht2l:t2.length≤t1.length:=by rw[← ht2]; simp
   generalize hnm:(t1.take k).map bX=nm at *
   -- the block of this parameter
   have hb5:M5.heap M3.next=some (.row [St nm,aR] false TP 0):=k5.aS (bf _) (by rw[lv]; exact hn4) (by simp)
   have kk5:ag [] M3 M5:=(kk4.new _ (Nat.le_refl _)).trans k5
   have hn5:M3.next<M5.next:=by have:=k5.next; rw[lv] at this; omega
   refine bL (fun m zs M6=>∃ (u:List UInt8) (vs:List (List UInt8)) (w:AV) (more:Bool),m=2 * u.length + (if more then 1 else 0)∧zs=[St u,v,Bo more]∧u.length + vs.length≤t2.length∧ag [] M3 M6∧M5.next≤M6.next ∧
     M6.heap M3.next=some (.row [St nm,w] false TP 0)∧fJ fU.kL M6 M5.next TS w vs (fun _=>False) ∧
     (more=true→1≤u.length∧gV u.length u vs=gV t2.length t2 [])∧(more=false→gV t2.length t2 []=some (vs,u))) _
    ⟨t2,[],aR,true,rfl,rfl,by simp,kk5,Nat.le_refl _,hb5,.nil,fun _=>⟨bU h61,rfl⟩,fun h=>by cases h⟩ ?_
   rintro Nh m zs M6 vP ⟨u,vs,w,more,rfl,rfl,hul,hk6,hn6,hb6,how,hm1,hm2⟩
   dsimp only[aj]
   have hM6:M6.base=B:=by rw[hk6.base,hM3]
   cases more with
   | true =>
     obtain⟨hu1,hvf⟩:=hm1 rfl
     obtain⟨j,hj⟩ : ∃ j,u.length=j + 1:=⟨u.length - 1,by omega⟩
     rw[hj,gV] at hvf
     rw[gy,show aN (St u) (some (N .i64 1)) none=some (St (u.drop 1)) from bQ (l:=1) (by omega) .i64,ja]
     have hvl:=p9 (u.drop 1)
     refine hv hM6 (by simp; omega) fun M7 k7=>?_
     generalize jd (u.drop 1)=x at *
     obtain⟨a,after,ok⟩:=x
     simp only[List.length_drop] at hvl hvf
     rw[kV,kU,Ep,dD]
     dsimp only
     cases ok with
     | false =>
       simp only[Bool.false_eq_true,if_false] at hvf
       rw[Bool.not_false,gy]
       refine hN M7 (hK.trans (hk6.trans k7)) ?_
       rw[← hp,← hvf]
     | true =>
     simp only[if_true] at hvf
     have hb7:=k7.aS hb6 (by omega) (by simp)
     rw[Bool.not_true,kw,eG,Nat.zero_add,aB hb7 rfl,tu (x:=St a) (size:=1) rfl rfl rfl,bJ]
     have QZ:=how.keep k7 (by simp) (by simp)
     refine fJ.app (R:=fU.kL) (a:=a) (cs:=[St a]) QZ rfl (by have:=k7.next; omega) (Nat.le_refl _) (by simp) (by simp) (by omega) (by omega) ?_
     intro w' M8 o8 k8 n8 hw8 _
     have hwb:∀ b∈aD w,M5.next≤b:=fun b hb=>(how.blk b hb).1
     have hb8:=k8.aS hb7 (by have:=k7.next; omega) (fun h=>by have:=hwb _ h; omega)
     have Rt:∀ b∈aD w',M5.next≤b:=fun b hb=>(o8.blk b hb).1
     rw[eG,Nat.zero_add,wB hb8 (by simp) o8.cells o8.one]
     refine hh (by omega) ?_
     have k9:ag [] M3 (M8.put M3.next (.row [St nm,w'] false TP 0)):=ag.new ((hk6.trans k7).mW k8 fun c hc=>.inl (by have:=hwb c hc; omega)) _ (Nat.le_refl _)
     refine vP _ _ _ ?_ ⟨after,vs++[a],w',aK 44 after,rfl,rfl,by simp; omega,k9,by rw[lv]; have:=k7.next; omega,bf _, ?_, ?_, ?_⟩
     ·split <;> simp <;> omega
     ·refine o8.keep (bs:=[M3.next]) ((ag.refl _ _).put _ (.inr (by simp))) (by simp) fun b hb=>?_
      have:=Rt b hb
      simp; omega
     ·intro hmo
      rw[if_pos hmo] at hvf
      refine⟨bU hmo, ?_⟩
      rw[← hvf,uP after.length after _ j (Nat.le_refl _) (bU hmo) (by omega)]
     ·intro hmo
      rw[hmo] at hvf
      simp only[Bool.false_eq_true,if_false] at hvf
      exact hvf.symm
   | false =>
     rw[hm2 rfl] at hp
     simp only at hp
     rw[kw,fV (n:=2) hb6 rfl,tu (x:=.agg [St nm,w]) (size:=2) rfl (by simp[AV.cells,how.one]; rfl) rfl,bJ]
     have hvl:=ho.blk
     let S' : Nat→Prop:=fun b=>M.next≤b∧b<M6.next∧b ∉ aD v
     have ho6:fJ jV M6 M.next TP v acc S':=(ho.keep hk6 (by simp) (by simp)).mono fun b h=>⟨h.1,by have:=hk6.next; omega,h.2.2⟩
     have hel:jV.rel M6 [St nm,w] (nm,vs) S':=AY ((how.mono (S':=S') (fun _ h=>h.elim)).Nb (fun b h1 h2=>⟨by have:=hK.next; omega,h2,fun hb=>by have:=(hvl b hb).2; omega⟩))
     refine fJ.app (R:=jV) ho6 hel (by have:=hK.next; have:=hk6.next; omega) (by decide) (fun b hb h=>h.2.2 hb) (fun b h=>h.2.1) (by omega) (by omega) ?_
     intro v' M7 o7 k7 n7 hv7 hd7
     have hvs:=nR _ _ _ _ _ (bU h61) (hm2 rfl)
     simp at hvs
     refine hnext _ _ _ (by omega) ⟨u,v',acc++[(nm,vs)],rfl,rfl,by simp; omega, ?_, ?_, ?_⟩
     ·exact(hK.trans hk6).mW k7 fun c hc=>.inl (hvl c hc).1
     ·exact o7.mono fun b h=>⟨h.1,by omega,fun hb=>hd7 b hb h⟩
     ·rw[← hp,vT f u.length u _ t.length (Nat.le_refl _) (by omega)]
structure Ln where
 g:List UInt8
 n:List UInt8
 ps:List jJ
 v:List UInt8
 deriving DecidableEq
def iX:jY (Ln × Int) where
 size:=5
 rel M cs a S:=∃ v,cs=[St a.1.g,St a.1.n,v,St a.1.v,N .i64 a.2]∧bT jV M v a.1.ps S
 len h:=by obtain⟨v,rfl,h⟩:=h; rfl
 one h:=by obtain⟨v,rfl,h⟩:=h; simp[h.one,iP]
 mono h hs:=by obtain⟨v,rfl,h⟩:=h; exact⟨v,rfl,h.mono hs⟩
 lt h:=by obtain⟨v,rfl,h⟩:=h; exact⟨v,rfl,h.lt⟩
 keep h hk hb:=by obtain⟨v,rfl,h⟩:=h; exact⟨v,rfl,h.keep hk hb⟩
abbrev lz:List AV:=[St [],St [],aR,St [],N .i64 0]
def bE (s:List UInt8) : List UInt8:=(s.take (wk s)).map bX
theorem FO (s:List UInt8) : IM s=.tup [St (bE s),St (s.drop (wk s))]:=rfl
def yU (f:List UInt8→List UInt8) (s:List UInt8) : Option (List UInt8 × List UInt8 × List UInt8) :=
 if aK 46 (s.drop (wk s)) then
  (if fq f (bE s) then some (bE s,bE ((s.drop (wk s)).drop 1),((s.drop (wk s)).drop 1).drop (wk ((s.drop (wk s)).drop 1))) else none)
 else some ([],bE s,s.drop (wk s))
def BM (f:List UInt8→List UInt8) (g n s:List UInt8) : Option Ln :=
 match oW f s with
 | none=>none
 | some (ps,r)=>if fq f n && aK 58 r && eB [] (r.drop 1) then some ⟨g,n,ps,r.drop 1⟩ else none
def oH (f:List UInt8→List UInt8) (s:List UInt8) : Option Ln :=
 if bZ s then(match yU f s with
  | none=>none
  | some (g,n,r)=>BM f g n r)
 else none
def Pb (B:Base) (f:List UInt8→List UInt8) (c:ah) : Prop:=∀ {M:RM} {s:List UInt8} {Q:af},M.base=B→s.length≤10000 →
 (∀ M',ag [] M M'→oH f s=none→Q (.tup [.agg lz,Bo false]) M') →
 (∀ cs M' L,ag [] M M'→oH f s=some L→iX.rel M' cs (L,0) (fun b=>M.next≤b)→Q (.tup [.agg cs,Bo true]) M')→c [St s] M Q
theorem Jp {M:RM} {b T:Nat} {l:List AV} {Q:af} (h:M.heap b=some (.row l false T 0)) (hl:l.length=5) (hQ:Q (.tup [.agg lz,Bo false]) (M.put b (.row lz false T 0))) :
  kS lz [] fun t=>aV M (.ptr b 0) t 5 fun M1=>dK M1 (.ptr b 0) 5 fun res=>Q (.tup [res,Bo false]) M1:=by
 rw[xD]
 refine⟨_,rfl, ?_⟩
 rw[iC (n:=5) h rfl hl rfl,fV (n:=5) (bf _) rfl]
 exact hQ
theorem Le {B:Base} {f:List UInt8→List UInt8} {TP TL:Nat} {cvs cw ch cg cp cv:ah} (hvs:BV B cvs) (hw:Ej B cw) (hh:lJ ch) (hg:nN B f cg) (hp:Cy B f TP cp) (hv:j3 B cv) :
  Pb B f fun args M Q=>∃ a0,args=[a0]∧qp TL cvs cw ch cg cp cv a0 M Q:=by
 intro M s Q hM hl hN hS
 refine⟨_,rfl, ?_⟩
 unfold qp
 simp only[fu,gB]
 rw[bJ]
 have h2:(M.push (.row lz false TL 0)).heap M.next=some (.row lz false TL 0):=RM.bg _
 have k1:ag [] M (M.push (.row lz false TL 0)):=(ag.refl _ _).push _
 have n1:(M.push (.row lz false TL 0)).next=M.next + 1:=rfl
 generalize M.push (.row lz false TL 0)=M1 at *
 refine hvs (by rw[k1.base,hM]) (by omega) ?_
 rw[dD]
 unfold oH at hN hS
 cases hf:bZ s with
 | false =>
   rw[Bool.not_false,gy]
   exact Jp h2 rfl (hN _ (k1.new _ (Nat.le_refl _)) (by simp[hf]))
 | true =>
 simp only[hf,if_true] at hN hS
 rw[Bool.not_true,kw,bJ]
 have h4:(M1.push (.row lz false TL 0)).heap (M.next + 1)=some (.row lz false TL 0):=by rw[← n1]; exact RM.bg _
 have h2:(M1.push (.row lz false TL 0)).heap M.next=some (.row lz false TL 0):=iL h2 (by omega)
 have k2:ag [] M (M1.push (.row lz false TL 0)):=k1.push _
 have n2:(M1.push (.row lz false TL 0)).next=M.next + 2:=by rw[dL,n1]
 rw[n1]
 generalize M1.push (.row lz false TL 0)=M2 at *
 refine hw (by rw[k2.base,hM]) (by omega) fun M3 k3=>?_
 rw[FO]
 have h2:=k3.aS h2 (by omega) (by simp)
 have h4:=k3.aS h4 (by omega) (by simp)
 have n3:=k3.next
 rw[kV,kU,bn,iW [St [],St (bE s),aR,St [],N .i64 0] h4 (by simp) rfl rfl rfl]
 have k4:ag [] M (M3.put (M.next + 1) (.row [St [],St (bE s),aR,St [],N .i64 0] false TL 0)):=(k2.trans k3).new _ (by omega)
 have h2:=fB (z:=.row [St [],St (bE s),aR,St [],N .i64 0] false TL 0) h2 (show M.next≠M.next + 1 by omega)
 have h4:(M3.put (M.next + 1) (.row [St [],St (bE s),aR,St [],N .i64 0] false TL 0)).heap (M.next + 1)=some (.row [St [],St (bE s),aR,St [],N .i64 0] false TL 0):=bf _
 have n4:M.next + 2≤(M3.put (M.next + 1) (.row [St [],St (bE s),aR,St [],N .i64 0] false TL 0)).next:=by rw[lv]; omega
 generalize M3.put (M.next + 1) (.row [St [],St (bE s),aR,St [],N .i64 0] false TL 0)=M4 at *
 have hdl:=yB s
 refine gz (fun xs M'=>∃ g n r,xs=[St r]∧yU f s=some (g,n,r)∧r.length≤s.length∧n.length≤s.length∧ag [] M M'∧M.next + 2≤M'.next∧M'.heap M.next=some (.row lz false TL 0) ∧
   M'.heap (M.next + 1)=some (.row [St g,St n,aR,St [],N .i64 0] false TL 0)) ?_ ?_
 ·rintro _ M5 ⟨g,n,r,rfl,hhd,hrl,hnl,k5,n5,h2,h4⟩
  rw[hhd] at hN hS
  simp only at hN hS
  unfold BM at hN hS
  dsimp only[aj]
  have stop:∀ M',ag [] M5 M'→oW f r=none∨(∃ ps q,oW f r=some (ps,q)∧(fq f n && aK 58 q && eB [] (q.drop 1))=false)→kS lz [] fun t=>aV M' (.ptr M.next 0) t 5 fun M1=>dK M1 (.ptr M.next 0) 5 fun res=>Q (.tup [res,Bo false]) M1:=by
   intro M' k' hc
   refine Jp (k'.aS h2 (by omega) (by simp)) rfl (hN _ ((k5.trans k').new _ (Nat.le_refl _)) ?_)
   rcases hc with hc | ⟨ps,q,hc,hc2⟩
   ·simp[hc]
   ·rw[hc]; simp only[hc2,Bool.false_eq_true,if_false]
  refine hp (by rw[k5.base,hM]) (by omega) ?_ ?_
  ·intro M6 k6 hpn
   rw[kV,kU,Ep,dD,Bool.not_false,dx]
   dsimp only
   rw[fH,dx]
   dsimp only
   rw[fH,dx]
   dsimp only
   rw[fH,gy]
   exact stop M6 k6 (.inl hpn)
  ·intro v M6 ps q k6 hps hsl hlen
   have h4:=k6.aS h4 (by omega) (by simp)
   have n6:=k6.next
   rw[kV,kU,Ep,dD,Bool.not_true,iw,bn,aB h4 rfl]
   refine hg (by rw[k6.base,k5.base,hM]) (by omega) fun M7 k7=>?_
   have h4:=k7.aS h4 (by omega) (by simp)
   have n7:=k7.next
   have k67:=k6.trans k7
   rw[dD]
   dsimp only
   rw[kE]
   cases hgn:fq f n with
   | false =>
     rw[Bool.not_false,dx]
     dsimp only
     rw[fH,dx]
     dsimp only
     rw[fH,gy]
     exact stop M7 k67 (.inr ⟨ps,q,hps,by rw[hgn]; rfl⟩)
   | true =>
   rw[Bool.not_true,iw]
   refine hh (by omega) ?_
   rw[dD]
   dsimp only
   rw[kE]
   cases h58:aK 58 q with
   | false =>
     rw[Bool.not_false,dx]
     dsimp only
     rw[fH,gy]
     exact stop M7 k67 (.inr ⟨ps,q,hps,by rw[hgn,h58]; rfl⟩)
   | true =>
   have hq1:=bU h58
   rw[Bool.not_true,iw,show aN (St q) (some (N .i64 1)) none=some (St (q.drop 1)) from bQ (l:=1) hq1 .i64,ja]
   refine hv (by rw[k7.base,k6.base,k5.base,hM]) (by simp; omega) fun M8 k8=>?_
   have h4:=k8.aS h4 (by omega) (by simp)
   have n8:=k8.next
   have k68:=k67.trans k8
   rw[dD]
   dsimp only
   rw[kE]
   cases hgv:eB [] (q.drop 1) with
   | false =>
     rw[Bool.not_false,gy]
     exact stop M8 k68 (.inr ⟨ps,q,hps,by rw[hgn,h58,hgv]; rfl⟩)
   | true =>
   have hs8:=hsl.keep (k7.trans k8) (by simp)
   rw[Bool.not_true,kw,ja,bn,iW [St g,St n,v,St [],N .i64 0] h4 (by simp) hs8.cells hs8.one rfl,ja]
   refine⟨rfl, ?_⟩
   rw[bn,iW [St g,St n,v,St (q.drop 1),N .i64 0] (bf _) (by simp) rfl rfl rfl,fV (n:=5) (bf _) rfl]
   have h2:=fB (z:=.row [St g,St n,v,St (q.drop 1),N .i64 0] false TL 0) (fB (z:=.row [St g,St n,v,St [],N .i64 0] false TL 0) (k68.aS h2 (by omega) (by simp)) (show M.next≠M.next + 1 by omega)) (show M.next≠M.next + 1 by omega)
   rw[iC (n:=5) h2 rfl rfl (by simp[AV.cells,iP,hs8.one]),fV (n:=5) (bf _) rfl]
   refine hS _ _ ⟨g,n,ps,q.drop 1⟩ ?_ (by rw[hps]; simp only[hgn,h58,hgv,Bool.and_self,if_true]) ⟨v,rfl, ?_⟩
   ·exact(((k5.trans k68).new _ (by omega)).new _ (by omega)).new _ (Nat.le_refl _)
   ·refine(hs8.keep (bs:=[M.next,M.next + 1]) ((((ag.refl _ _).put _ (.inr (by simp))).put _ (.inr (by simp))).put _ (.inr (by simp))) ?_).mono fun b hb=>by omega
    intro b hb h
    simp at hb
    omega
 ·intro J hJ
  refine hh (by simp; omega) ?_
  unfold yU at hJ hN
  cases h46:aK 46 (s.drop (wk s)) with
  | false =>
    rw[kw]
    simp only[h46,Bool.false_eq_true,if_false] at hJ
    exact hJ _ _ ⟨[],bE s,_,rfl,rfl,by simp,by simp[bE]; omega,k4,n4,h2,h4⟩
  | true =>
    simp only[h46,if_true] at hJ hN
    rw[gy,bn,aB h4 rfl,bn,iW [St (bE s),St (bE s),aR,St [],N .i64 0] h4 (by simp) rfl rfl rfl,bn,aB (bf _) rfl]
    have k5:ag [] M (M4.put (M.next + 1) (.row [St (bE s),St (bE s),aR,St [],N .i64 0] false TL 0)):=k4.new _ (by omega)
    have h2:=fB (z:=.row [St (bE s),St (bE s),aR,St [],N .i64 0] false TL 0) h2 (show M.next≠M.next + 1 by omega)
    have h4:(M4.put (M.next + 1) (.row [St (bE s),St (bE s),aR,St [],N .i64 0] false TL 0)).heap (M.next + 1)=some (.row [St (bE s),St (bE s),aR,St [],N .i64 0] false TL 0):=bf _
    have n5:M.next + 2≤(M4.put (M.next + 1) (.row [St (bE s),St (bE s),aR,St [],N .i64 0] false TL 0)).next:=n4
    generalize M4.put (M.next + 1) (.row [St (bE s),St (bE s),aR,St [],N .i64 0] false TL 0)=M5 at *
    refine hg (by rw[k5.base,hM]) (by simp[bE]; omega) fun M6 k6=>?_
    have h2:=k6.aS h2 (by omega) (by simp)
    have h4:=k6.aS h4 (by omega) (by simp)
    have n6:=k6.next
    rw[dD]
    cases hgn:fq f (bE s) with
    | false =>
      rw[Bool.not_false,gy]
      refine Jp h2 rfl (hN _ ((k5.trans k6).new _ (Nat.le_refl _)) (by simp[hgn]))
    | true =>
      simp only[hgn,if_true] at hJ
      rw[Bool.not_true,kw,show aN (St (s.drop (wk s))) (some (N .i64 1)) none=some (St ((s.drop (wk s)).drop 1)) from bQ (l:=1) (bU h46) .i64,ja]
      refine hw (by rw[k6.base,k5.base,hM]) (by simp; omega) fun M7 k7=>?_
      have h2:=k7.aS h2 (by omega) (by simp)
      have h4:=k7.aS h4 (by omega) (by simp)
      have n7:=k7.next
      rw[FO,kV,kU,bn,iW [St (bE s),St (bE ((s.drop (wk s)).drop 1)),aR,St [],N .i64 0] h4 (by simp) rfl rfl rfl]
      have hdl2:=yB ((s.drop (wk s)).drop 1)
      refine hJ _ _ ⟨bE s,bE ((s.drop (wk s)).drop 1),_,rfl,rfl,by simp,by simp[bE]; omega,((k5.trans k6).trans k7).new _ (by omega),by rw[lv]; omega,fB h2 (by omega),bf _⟩
inductive Qq where
 | ok (l:List (Ln × Int))
 | bad (k:Int) (e:Int)
def jX (f:List UInt8→List UInt8) : List (List UInt8 × Int)→List (Ln × Int)→Qq
 | [],acc=>.ok acc
 | (s,k) :: r,acc=>if s=[] then jX f r acc else if 912<s.length then .bad k 2 else match oH f s with
   | none=>.bad k 3
   | some L=>jX f r (acc++[(L,k)])
def MM (s:List UInt8) : List (List UInt8 × Int):=(iF [] [] 1 (bq [] s)).1.zip (iF [] [] 1 (bq [] s)).2
def Kv (f:List UInt8→List UInt8) (s:List UInt8) : Qq:=jX f (MM s) []
theorem Gq (acc:List (List UInt8)) (x:List UInt8) : (glue acc x).length=if acc≠[]∧isSp x=true then acc.length else acc.length + 1:=by
 unfold glue
 split
 ·rename_i h; simp
 ·rename_i h; simp
theorem Ad:∀ (xs:List (List UInt8)) (acc:List (List UInt8)) (ns:List Int) (k:Int),acc.length=ns.length→(iF acc ns k xs).1.length=(iF acc ns k xs).2.length
 | [],acc,ns,k,h=>h
 | x :: xs,acc,ns,k,h=>by
   rw[iF]
   refine Ad xs _ _ _ ?_
   rw[Gq]
   split <;> simp[h]
theorem Hr:∀ (xs:List (List UInt8)) (acc:List (List UInt8)) (ns:List Int) (k:Int),(iF acc ns k xs).1.length≤acc.length + xs.length
 | [],acc,ns,k=>by simp[iF]
 | x :: xs,acc,ns,k=>by
   rw[iF]
   have:=Hr xs (glue acc x) (if acc≠[]∧isSp x=true then ns else ns++[k]) (IntKind.i64.wrap (k + 1))
   have h:=ME acc x
   simp only[List.length_cons]
   omega
def qB (B:Base) (f:List UInt8→List UInt8) (c:ah) : Prop:=∀ {M:RM} {s:List UInt8} {Q:af},M.base=B→s.length≤100000 →
 (∀ v M' ls,ag [] M M'→Kv f s=.ok ls→bT iX M' v ls (fun b=>M.next≤b)→ls.length≤s.length + 1→Q (.tup [v,N .i64 0,N .i64 0]) M') →
 (∀ M' k e,ag [] M M'→Kv f s=.bad k e→Q (.tup [aR,N .i64 k,N .i64 e]) M')→c [St s] M Q
theorem FM {B:Base} {f:List UInt8→List UInt8} {T TI TL:Nat} {cu cr:ah} (hu:tT T TI cu) (hr:Pb B f cr) : qB B f fun args M Q=>∃ a0,args=[a0]∧pU cu cr TL a0 M Q:=by
 intro M s Q hM hl hS hN
 refine⟨_,rfl, ?_⟩
 unfold pU
 simp only[fu,gB]
 refine hu (by omega) fun v u M1 ho1 ho2 hd k1=>?_
 have s1:=ho1.Du
 have s2:=ho2.Du
 have hlen:=Ad (bq [] s) [] [] 1 rfl
 have hle:=Hr (bq [] s) [] [] 1
 have hrl:=Ah s []
 simp only[List.length_nil,Nat.zero_add] at hle
 unfold Kv MM at hS hN
 generalize (iF [] [] 1 (bq [] s)).1=xs at *
 generalize (iF [] [] 1 (bq [] s)).2=ns at *
 rw[kV,kU,dQ.len s1]
 refine bL (fun m ys M3=>∃ (i:Nat) (w:AV) (acc:List (Ln × Int)),m=xs.length - i∧ys=[w,N .i64 i]∧i≤xs.length∧acc.length≤i∧ag [] M1 M3 ∧
   fJ iX M3 M1.next TL w acc (fun b=>M1.next≤b∧b<M3.next∧b ∉ aD w)∧jX f ((xs.zip ns).drop i) acc=jX f (xs.zip ns) []) _
  ⟨0,aR,[],rfl,rfl,Nat.zero_le _,Nat.le_refl _,ag.refl _ _,.nil,rfl⟩ ?_
 rintro next m ys M3 hnext ⟨i,w,acc,rfl,rfl,hi,hal,hK,ho,hp⟩
 dsimp only[aj]
 rw[nz]
 refine dI (fun hlt=>?_) (fun hge=>?_)
 ·have hlt:i<xs.length:=by simpa using hlt
  have t1:=dQ.keep s1 hK (by simp)
  have t2:=dQ.keep s2 hK (by simp)
  have hz:(xs.zip ns).drop i=(xs[i],ns[i]'(by omega)) :: (xs.zip ns).drop (i + 1):=by
   rw[List.drop_eq_getElem_cons (by simp; omega)]; simp
  rw[hz,jX] at hp
  refine gz (fun zs M'=>∃ (w' : AV) (acc' : List (Ln × Int)),zs=[w']∧acc'.length≤i + 1∧ag [] M1 M'∧fJ iX M' M1.next TL w' acc' (fun b=>M1.next≤b∧b<M'.next∧b ∉ aD w')∧jX f ((xs.zip ns).drop (i + 1)) acc'=jX f (xs.zip ns) []) ?_ ?_
  ·rintro _ M4 ⟨w',acc',rfl,h1,h2,h3,h4⟩
   dsimp only[aj]
   rw[mI,lg (by omega)]
   exact hnext _ _ _ (by omega) ⟨i + 1,w',acc',rfl,rfl,by omega,h1,h2,h3,h4⟩
  ·intro J hJ
   obtain⟨b,o,hb,hbm,hidx,hc⟩:=Sl.K8 (E:=fU) t1 (i:Int) hlt
   have hc:=hc _ rfl
   rw[hidx,cz]
   refine⟨_,hc, ?_⟩
   rw[LU]
   obtain⟨b2,o2,hb2,hbm2,JK,hc2⟩:=Sl.K8 (E:=INT) t2 (i:Int) (show i<ns.length by omega)
   have hc2:=hc2 _ rfl
   generalize hxi:xs[i]=x at *
   generalize hni:ns[i]'(by omega)=k at *
   refine dI (fun he=>?_) (fun hne=>?_)
   ·have he:x=[]:=by simpa using he
    rw[if_pos he] at hp
    exact hJ _ _ ⟨w,acc,rfl,by omega,hK,ho,hp⟩
   ·have hne:¬ x=[]:=by simpa using hne
    rw[if_neg hne] at hp
    rw[dY,zV]
    refine dI (fun hg=>?_) (fun hg=>?_)
    ·have hg:912<x.length:=by simp at hg; omega
     rw[if_pos hg] at hp
     rw[JK,cz]
     exact⟨_,hc2,hN M3 k 2 (k1.trans hK) hp.symm⟩
    ·have hg:¬ 912<x.length:=by simp at hg; omega
     rw[if_neg hg] at hp
     have hM3:M3.base=B:=by rw[hK.base,k1.base,hM]
     refine hr hM3 (by omega) ?_ ?_
     ·intro M4 k4 hrd
      rw[hrd] at hp
      rw[kV,kU,bJ,iC (n:=5) (RM.bg _) rfl rfl rfl,dD,Bool.not_false,gy,JK,cz]
      have kk:ag [] M3 ((M4.push (.row lz false TL 0)).put M4.next (.row lz false TL 0)):=(k4.push _).new _ k4.next
      exact⟨_,(kk.cell hb2 (by simp)).trans hc2,hN _ k 3 ((k1.trans hK).trans kk) hp.symm⟩
     ·intro cs M4 L k4 hrd hrel
      rw[hrd] at hp
      obtain⟨pv,rfl,hpv⟩:=hrel
      simp only at hpv hp
      have QU:([St L.g,St L.n,pv,St L.v,N .i64 0] : List AV).all oneCell=true:=by simp[iP,hpv.one]
      have Ro:([St L.g,St L.n,pv,St L.v,N .i64 k] : List AV).all oneCell=true:=by simp[iP,hpv.one]
      rw[kV,kU,bJ,iC (n:=5) (x:=.agg [St L.g,St L.n,pv,St L.v,N .i64 0]) (l:=lz) (RM.bg _) rfl rfl QU,dD,Bool.not_true,kw,JK,cz]
      have k45:ag [] M4 (((M4.push (.row lz false TL 0)).put M4.next (.row [St L.g,St L.n,pv,St L.v,N .i64 0] false TL 0)).put M4.next (.row [St L.g,St L.n,pv,St L.v,N .i64 k] false TL 0)) :=
       (((ag.refl _ _).push _).new _ (Nat.le_refl _)).new _ (Nat.le_refl _)
      have k4' : ag [] M3 ((M4.push (.row lz false TL 0)).put M4.next (.row [St L.g,St L.n,pv,St L.v,N .i64 0] false TL 0)):=(k4.push _).new _ k4.next
      refine⟨_,(k4'.cell hb2 (by simp)).trans hc2, ?_⟩
      rw[bn,iW [St L.g,St L.n,pv,St L.v,N .i64 k] (bf _) (by simp[AV.cells]) rfl rfl rfl,fV (n:=5) (bf _) rfl,tu (x:=.agg [St L.g,St L.n,pv,St L.v,N .i64 k]) (size:=5) rfl Ro rfl,bJ]
      have n5:(((M4.push (.row lz false TL 0)).put M4.next (.row [St L.g,St L.n,pv,St L.v,N .i64 0] false TL 0)).put M4.next (.row [St L.g,St L.n,pv,St L.v,N .i64 k] false TL 0)).next=M4.next + 1:=rfl
      have n4:=k4.next
      have n3:=hK.next
      have hvl:=ho.blk
      let S' : Nat→Prop:=fun b=>M1.next≤b∧b<M4.next + 1∧b ∉ aD w
      have ho5:=(ho.keep (k4.trans k45) (by simp) (by simp)).mono (S':=S') fun b h=>⟨h.1,by omega,h.2.2⟩
      have hel:=(show iX.rel _ _ (L,k) _ from⟨pv,rfl,(hpv.lt.keep k45 (by simp)).mono (S':=S') fun b h=>⟨by omega,by omega,fun hb=>by have:=(hvl b hb).2; omega⟩⟩)
      refine fJ.app (R:=iX) ho5 hel (show M1.next≤M4.next + 1 by omega) (by decide) (fun b hb h=>h.2.2 hb) (fun b h=>(show b<M4.next + 1 from h.2.1)) (by omega) (by omega) ?_
      intro w' M6 o6 k6 n6 _ hd6
      have n6:M4.next + 1≤M6.next:=n6
      refine hJ _ _ ⟨w',acc++[(L,k)],rfl,by simp; omega, ?_,o6.mono fun b h=>⟨h.1,by have:=h.2.1; omega,fun hb=>hd6 b hb h⟩,hp⟩
      exact(hK.trans (k4.trans k45)).mW k6 fun c hc=>.inl (hvl c hc).1
 ·have hge:i=xs.length:=by simp at hge; omega
  subst hge
  rw[List.drop_of_length_le (by simp; omega)] at hp
  refine hS w M3 acc (k1.trans hK) hp.symm ((ho.mono (fun b h=>h.1)).Nb (fun b hb _=>hb) |>.mono fun b hb=>Nat.le_trans k1.next hb) (by omega)
def OL (c:ah) : Prop:=∀ {M:RM} {cs:List AV} {L:Ln} {k:Int} {S:Nat→Prop} {Q:af},iX.rel M cs (L,k) S→L.ps.length≤1000000000 →
 (∀ cs' M',ag [] M M'→iX.rel M' cs' (L,k) (fun b=>S b∨M.next≤b)→Q (.agg cs') M')→c [.agg cs] M Q
theorem NT {T1 T2 T3:Nat} : OL fun args M Q=>∃ a0,args=[a0]∧uC T1 T2 T3 a0 M Q:=by
 intro M cs L k S Q hrel hpl hQ
 refine⟨_,rfl, ?_⟩
 obtain⟨v,rfl,hv⟩:=hrel
 simp only at hv
 have hv0:=hv
 have hall:([St L.g,St L.n,v,St L.v,N .i64 k] : List AV).all oneCell=true:=by simp[iP,hv.one]
 unfold uC
 rw[lu hall (by simp),bJ,bJ]
 have h1:((M.push (.row [St L.g,St L.n,v,St L.v,N .i64 k] false T1 0)).push (.row lz false T2 0)).heap M.next=some (.row [St L.g,St L.n,v,St L.v,N .i64 k] false T1 0):=iL (RM.bg _) (by simp[RM.push])
 have h2:((M.push (.row [St L.g,St L.n,v,St L.v,N .i64 k] false T1 0)).push (.row lz false T2 0)).heap (M.next + 1)=some (.row lz false T2 0):=RM.bg _
 have kk:ag [] M ((M.push (.row [St L.g,St L.n,v,St L.v,N .i64 k] false T1 0)).push (.row lz false T2 0)):=((ag.refl _ _).push _).push _
 have nn:((M.push (.row [St L.g,St L.n,v,St L.v,N .i64 k] false T1 0)).push (.row lz false T2 0)).next=M.next + 2:=rfl
 rw[dL]
 generalize (M.push (.row [St L.g,St L.n,v,St L.v,N .i64 k] false T1 0)).push (.row lz false T2 0)=M1 at *
 rw[bn,aB h1 rfl,bn,aB h1 rfl,bn,aB h1 rfl,bn,aB h1 rfl,xD]
 refine⟨[St L.g,St L.n,aR,St L.v,N .i64 k],rfl, ?_⟩
 rw[bJ,iC (n:=5) (l:=lz) (RM.bg _) rfl rfl rfl]
 have h1:((M1.push (.row lz false T2 0)).put M1.next (.row [St L.g,St L.n,aR,St L.v,N .i64 k] false T2 0)).heap M.next=some (.row [St L.g,St L.n,v,St L.v,N .i64 k] false T1 0):=fB (iL h1 (by omega)) (by omega)
 have h2:((M1.push (.row lz false T2 0)).put M1.next (.row [St L.g,St L.n,aR,St L.v,N .i64 k] false T2 0)).heap (M.next + 1)=some (.row lz false T2 0):=fB (iL h2 (by omega)) (by omega)
 have h3:((M1.push (.row lz false T2 0)).put M1.next (.row [St L.g,St L.n,aR,St L.v,N .i64 k] false T2 0)).heap (M.next + 2)=some (.row [St L.g,St L.n,aR,St L.v,N .i64 k] false T2 0):=by rw[← nn]; exact bf _
 have kk:ag [] M ((M1.push (.row lz false T2 0)).put M1.next (.row [St L.g,St L.n,aR,St L.v,N .i64 k] false T2 0)):=(kk.push _).new _ (by omega)
 have n3:((M1.push (.row lz false T2 0)).put M1.next (.row [St L.g,St L.n,aR,St L.v,N .i64 k] false T2 0)).next=M.next + 3:=by rw[lv,dL,nn]
 change dN _ _ ((M1.push (.row lz false T2 0)).put M1.next (.row [St L.g,St L.n,aR,St L.v,N .i64 k] false T2 0))
 generalize (M1.push (.row lz false T2 0)).put M1.next (.row [St L.g,St L.n,aR,St L.v,N .i64 k] false T2 0)=M2 at *
 rw[nn]
 refine bL (fun m ys M3=>∃ (i:Nat) (w:AV),m=L.ps.length - i∧ys=[N .i64 i]∧i≤L.ps.length∧ag [] M M3∧M.next + 3≤M3.next∧M3.heap M.next=some (.row [St L.g,St L.n,v,St L.v,N .i64 k] false T1 0) ∧
   M3.heap (M.next + 1)=some (.row lz false T2 0)∧M3.heap (M.next + 2)=some (.row [St L.g,St L.n,w,St L.v,N .i64 k] false T2 0)∧fJ jV M3 (M.next + 3) T3 w (L.ps.take i) (fun b=>S b∧b<M.next)) _
  ⟨0,aR,rfl,rfl,Nat.zero_le _,kk,by omega,h1,h2,h3,.nil⟩ ?_
 rintro next m ys M3 hnext ⟨i,w,rfl,rfl,hi,hK,n3,h1,h2,h3,ho⟩
 have hv3:=hv0.lt.keep hK (by simp)
 dsimp only[aj]
 rw[bn,aB h1 rfl,hv3.len,nz]
 refine dI (fun hlt=>?_) (fun hge=>?_)
 ·have hlt:i<L.ps.length:=by simpa using hlt
  rw[bn,aB h3 rfl,bn,aB h1 rfl]
  obtain⟨b,o,cs,hb,hbm,hidx,hld,hrel⟩:=bT.at hv3 2 (i:Int) hlt
  obtain⟨ds,rfl,pv,rfl,hpv⟩:=hrel
  rw[hidx,eG,cz]
  refine⟨St L.ps[i].1,fZ hld (j:=0) rfl, ?_⟩
  rw[bn,aB h1 rfl,hidx,eG,cz]
  refine⟨pv,fZ hld (j:=1) rfl, ?_⟩
  rw[xD]
  refine⟨[St L.ps[i].1,pv],OD rfl rfl hpv.known hpv.cells, ?_⟩
  rw[tu (x:=.agg [St L.ps[i].1,pv]) (size:=2) rfl (by simp[iP,AV.cells,hpv.one]) rfl,NB]
  have hvl:=ho.blk
  refine fJ.app (R:=jV) (a:=L.ps[i]) ho (AY hpv) n3 (by decide) (fun b hb h=>by have:=hvl b hb; omega) (fun b h=>by omega) (by simp; omega) (by simp; omega) ?_
  intro w' M4 o4 k4 n4 _ _
  have g3:=k4.aS h3 (by omega) (fun h=>by have:=hvl _ h; omega)
  rw[bn,iW [St L.g,St L.n,w',St L.v,N .i64 k] g3 (by simp) o4.cells o4.one rfl,mI,lg (by omega)]
  refine hnext _ _ _ (by omega) ⟨i + 1,w',rfl,rfl,by omega, ?_,by rw[lv]; omega, ?_, ?_,bf _, ?_⟩
  ·exact(hK.mW k4 fun c hc=>.inl (by have:=hvl c hc; omega)).new _ (by omega)
  ·exact fB (k4.aS h1 (by omega) (fun h=>by have:=hvl _ h; omega)) (by omega)
  ·exact fB (k4.aS h2 (by omega) (fun h=>by have:=hvl _ h; omega)) (by omega)
  ·rw[List.take_succ_eq_append_getElem hlt]
   refine o4.keep (bs:=[M.next + 2]) ((ag.refl _ _).put _ (.inr (by simp))) (fun b hb h=>by simp at hb; omega) fun b hb h=>?_
   have:=o4.blk b hb
   simp at h; omega
 ·have hge:i=L.ps.length:=by simp at hge; omega
  subst hge
  rw[List.take_length] at ho
  have hw:=ho.one
  rw[fV (n:=5) h3 rfl,iC (n:=5) (x:=.agg [St L.g,St L.n,w,St L.v,N .i64 k]) h2 rfl rfl (by simp[iP,AV.cells,hw]),fV (n:=5) (bf _) rfl]
  refine hQ _ _ (hK.new _ (by omega)) ⟨w,rfl, ?_⟩
  have hk1:=ho.keep (bs:=[M.next + 1]) ((ag.refl _ M3).put (b:=M.next + 1) (.row (AV.agg [St L.g,St L.n,w,St L.v,N .i64 k]).cells false T2 0) (.inr (by simp))) (fun b hb h=>by simp at hb; omega) (fun b hb h=>by have:=ho.blk b hb; simp at h; omega)
  exact(hk1.mono (S':=fun b=>S b∨M.next≤b) fun b h=>.inl h.1).Nb fun b h1 _=>.inr (by omega)
def JJ (c:ah) : Prop:=∀ {M:RM} {cs ds:List AV} {L L' : Ln} {k k' : Int} {S S' : Nat→Prop} {Q:af},iX.rel M cs (L,k) S→iX.rel M ds (L',k') S'→L.ps.length≤1000000000→(∀ p∈L.ps,p.2.length≤1000000000) →
 (∀ M',ag [] M M'→Q (Bo (decide (L=L'))) M')→c [.agg cs,.agg ds] M Q
theorem take_eq_all {α:Type} {xs ys:List α} (h:xs.length=ys.length) (ht:xs.take xs.length=ys.take xs.length) : xs=ys:=by
 rw[List.take_length,h,List.take_length] at ht; exact ht
theorem xL {α:Type} {xs ys:List α} {i:Nat} (h1:i<xs.length) (h2:i<ys.length) (h:xs.take i=ys.take i) (he:xs[i]=ys[i]) : xs.take (i + 1)=ys.take (i + 1):=by
 rw[List.take_succ_eq_append_getElem h1,List.take_succ_eq_append_getElem h2,h,he]
theorem KE {T:Nat} : JJ fun args M Q=>∃ a0 a1,args=[a0,a1]∧qh T a0 a1 M Q:=by
 intro M cs ds L L' k k' S S' Q hr1 hr2 hpl hpv hQ
 refine⟨_,_,rfl, ?_⟩
 obtain⟨v,rfl,hv⟩:=hr1
 obtain⟨v',rfl,hv'⟩:=hr2
 simp only at hv hv'
 have hall:([St L.g,St L.n,v,St L.v,N .i64 k] : List AV).all oneCell=true:=by simp[iP,hv.one]
 have PX:([St L'.g,St L'.n,v',St L'.v,N .i64 k'] : List AV).all oneCell=true:=by simp[iP,hv'.one]
 unfold qh
 simp only[fu,Ny]
 rw[lu hall (by simp),bJ,lu PX (by simp),bJ]
 have h1:((M.push (.row [St L.g,St L.n,v,St L.v,N .i64 k] false T 0)).push (.row [St L'.g,St L'.n,v',St L'.v,N .i64 k'] false T 0)).heap M.next=some (.row [St L.g,St L.n,v,St L.v,N .i64 k] false T 0):=iL (RM.bg _) (by simp[RM.push])
 have h2:((M.push (.row [St L.g,St L.n,v,St L.v,N .i64 k] false T 0)).push (.row [St L'.g,St L'.n,v',St L'.v,N .i64 k'] false T 0)).heap (M.next + 1)=some (.row [St L'.g,St L'.n,v',St L'.v,N .i64 k'] false T 0):=RM.bg _
 have kk:ag [] M ((M.push (.row [St L.g,St L.n,v,St L.v,N .i64 k] false T 0)).push (.row [St L'.g,St L'.n,v',St L'.v,N .i64 k'] false T 0)):=((ag.refl _ _).push _).push _
 rw[dL]
 generalize (M.push (.row [St L.g,St L.n,v,St L.v,N .i64 k] false T 0)).push (.row [St L'.g,St L'.n,v',St L'.v,N .i64 k'] false T 0)=M1 at *
 have g1:=hv.keep kk (by simp)
 have g2:=hv'.keep kk (by simp)
 have no:L≠L'→Q (Bo false) M1:=fun h=>by have:=hQ M1 kk; rwa [decide_eq_false h] at this
 rw[bn,aB h1 rfl,bn,aB h2 rfl,ll]
 have e2:M1.heap (M.next + 1)=_:=h2
 by_cases hg:L.g=L'.g
 ·have b1:(L.g != L'.g)=false:=by simp[hg]
  rw[b1,iw,bn,aB h1 rfl,bn,aB h2 rfl,ll]
  dsimp only
  rw[kE]
  by_cases hn:L.n=L'.n
  ·have b1:(L.n != L'.n)=false:=by simp[hn]
   rw[b1,iw,bn,aB h1 rfl,bn,aB h2 rfl,ll]
   dsimp only
   rw[kE]
   by_cases hva:L.v=L'.v
   ·have b1:(L.v != L'.v)=false:=by simp[hva]
    rw[b1,iw,bn,aB h1 rfl,g1.len,bn,aB h2 rfl,g2.len,qz]
    dsimp only
    rw[kE]
    by_cases hln:L.ps.length=L'.ps.length
    ·have b1:((L.ps.length:Int) != (L'.ps.length:Int))=false:=by simp[hln]
     rw[b1,kw]
     refine bL (fun m ys M3=>M3=M1∧∃ i:Nat,m=L.ps.length - i∧ys=[N .i64 i]∧i≤L.ps.length∧L.ps.take i=L'.ps.take i) _
      ⟨rfl,0,rfl,rfl,Nat.zero_le _,by simp⟩ ?_
     rintro next m ys M3 hnext ⟨rfl,i,rfl,rfl,hi,ht⟩
     dsimp only[aj]
     rw[bn,aB h1 rfl,g1.len,nz]
     refine dI (fun hlt=>?_) (fun hge=>?_)
     ·have hlt:i<L.ps.length:=by simpa using hlt
      obtain⟨b,o,c1,hb,hbm,hidx,hld,hrel⟩:=bT.at g1 2 (i:Int) hlt
      obtain⟨_,rfl,pv,rfl,hpv1⟩:=hrel
      obtain⟨b',o',c2,hb',hbm',Jh,Ov,hrel'⟩:=bT.at g2 2 (i:Int) (show i<L'.ps.length by omega)
      obtain⟨_,rfl,pv',rfl,hpv2⟩:=hrel'
      have hc0:M3.cell b (o + 0)=some (St L.ps[i].1):=fZ hld (j:=0) rfl
      have hc1:M3.cell b (o + 1)=some pv:=fZ hld (j:=1) rfl
      have hc0' : M3.cell b' (o' + 0)=some (St (L'.ps[i]'(by omega)).1):=fZ Ov (j:=0) rfl
      have hc1' : M3.cell b' (o' + 1)=some pv':=fZ Ov (j:=1) rfl
      have hm:=hpv L.ps[i] (List.getElem_mem hlt)
      have noi:L.ps[i]≠L'.ps[i]'(by omega)→L≠L':=fun h e=>by subst e; exact h rfl
      generalize hp1:L.ps[i]=p at *
      generalize hp2:L'.ps[i]'(by omega)=p' at *
      rw[bn,aB h1 rfl,hidx,eG,cz]
      refine⟨_,hc0, ?_⟩
      rw[bn,aB h2 rfl,Jh,eG,cz]
      refine⟨_,hc0', ?_⟩
      rw[ll]
      by_cases he:p.1=p'.1
      ·have b1:(p.1 != p'.1)=false:=by simp[he]
       rw[b1,KZ,bn,aB h1 rfl,hidx,eG,cz]
       refine⟨_,hc1, ?_⟩
       rw[hpv1.len,bn,aB h2 rfl,Jh,eG,cz]
       refine⟨_,hc1', ?_⟩
       rw[hpv2.len,qz]
       dsimp only
       rw[kE]
       by_cases hl2:p.2.length=p'.2.length
       ·have b1:((p.2.length:Int) != (p'.2.length:Int))=false:=by simp[hl2]
        rw[b1,kw]
        refine bL (fun m ys M4=>M4=M3∧∃ j:Nat,m=p.2.length - j∧ys=[N .i64 j]∧j≤p.2.length∧p.2.take j=p'.2.take j) _
         ⟨rfl,0,rfl,rfl,Nat.zero_le _,by simp⟩ ?_
        rintro Nh m ys M4 vP ⟨rfl,j,rfl,rfl,hj,ht2⟩
        dsimp only[aj]
        rw[bn,aB h1 rfl,hidx,eG,cz]
        refine⟨_,hc1, ?_⟩
        rw[hpv1.len,nz]
        refine dI (fun hlt2=>?_) (fun Gi=>?_)
        ·have hlt2:j<p.2.length:=by simpa using hlt2
         rw[bn,aB h1 rfl,hidx,eG,cz]
         refine⟨_,hc1, ?_⟩
         obtain⟨b3,o3,_,_,PV,hc3⟩:=Sl.K8 (E:=fU) hpv1.sl (j:Int) hlt2
         have hc3:=hc3 _ rfl
         rw[PV,cz]
         refine⟨_,hc3, ?_⟩
         rw[bn,aB h2 rfl,Jh,eG,cz]
         refine⟨_,hc1', ?_⟩
         obtain⟨b4,o4,_,_,Px,hc4⟩:=Sl.K8 (E:=fU) hpv2.sl (j:Int) (show j<p'.2.length by omega)
         have hc4:=hc4 _ rfl
         rw[Px,cz]
         refine⟨_,hc4, ?_⟩
         rw[ll]
         refine dI (fun h=>?_) (fun h=>?_)
         ·refine no (noi fun e=>?_)
          subst e
          simp at h
         ·have h:p.2[j]=p'.2[j]'(by omega):=by simpa using h
          rw[mI,lg (by omega)]
          exact vP _ _ _ (by omega) ⟨rfl,j + 1,rfl,rfl,by omega,xL hlt2 (by omega) ht2 h⟩
        ·have Gi:j=p.2.length:=by simp at Gi; omega
         subst Gi
         have:=take_eq_all hl2 ht2
         rw[mI,lg (by omega)]
         exact hnext _ _ _ (by omega) ⟨rfl,i + 1,rfl,rfl,by omega,xL hlt (by omega) ht (by rw[hp1,hp2]; exact Prod.ext he this)⟩
       ·have b1:((p.2.length:Int) != (p'.2.length:Int))=true:=by simp; omega
        rw[b1,gy]
        exact no (noi fun e=>hl2 (by rw[e]))
      ·have b1:(p.1 != p'.1)=true:=by simp[he]
       rw[b1,Ky]
       dsimp only
       rw[fH,gy]
       exact no (noi fun e=>he (by rw[e]))
     ·have hge:i=L.ps.length:=by simp at hge; omega
      subst hge
      have hps:=take_eq_all hln ht
      have:=hQ M3 kk
      rwa [decide_eq_true (show L=L' by
       obtain⟨a1,a2,a3,a4⟩:=L
       obtain⟨b1,b2,b3,b4⟩:=L'
       simp only at hg hn hva hps
       rw[hg,hn,hva,hps])] at this
    ·have b1:((L.ps.length:Int) != (L'.ps.length:Int))=true:=by simp; omega
     rw[b1,gy]
     exact no fun e=>hln (by rw[e])
   ·have b1:(L.v != L'.v)=true:=by simp[hva]
    rw[b1,dx]
    dsimp only
    rw[fH,gy]
    exact no fun e=>hva (by rw[e])
  ·have b1:(L.n != L'.n)=true:=by simp[hn]
   rw[b1,dx]
   dsimp only
   rw[fH,dx]
   dsimp only
   rw[fH,gy]
   exact no fun e=>hn (by rw[e])
 ·have b1:(L.g != L'.g)=true:=by simp[hg]
  rw[b1,dx]
  dsimp only
  rw[fH,dx]
  dsimp only
  rw[fH,dx]
  dsimp only
  rw[fH,gy]
  exact no fun e=>hg (by rw[e])
theorem FE (f:List UInt8→List UInt8) (N:Nat) : ∀ (k:Nat) (s:List UInt8) (acc ps:List jJ) (r:List UInt8),s.length≤N→(∀ p∈acc,p.2.length≤N)→lm f k s acc=some (ps,r)→ps.length + r.length≤acc.length + s.length∧∀ p∈ps,p.2.length≤N
 | 0,s,acc,ps,r,_,_,h=>by cases h
 | k + 1,s,acc,ps,r,hN,ha,h=>by
   rw[lm] at h
   split at h
   ·rename_i h59
    have hpos:=bU h59
    split at h
    ·rename_i hc
     simp only[Bool.and_eq_true] at hc
     have h61:=bU hc.2
     generalize hk:((s.drop 1).drop (wk (s.drop 1))).length=kk at h
     cases hv:gV kk ((s.drop 1).drop (wk (s.drop 1))) [] with
     | none=>rw[hv] at h; cases h
     | some p =>
       obtain⟨vs,s3⟩:=p
       rw[hv] at h
       have h2:=nR _ _ _ _ _ h61 hv
       simp at h2
       simp only at h
       have:=FE f N k s3 _ ps r (by omega) (fun p hp=>by
        rcases List.mem_append.1 hp with hp | hp
        ·exact ha p hp
        ·simp at hp; subst hp; simp; omega) h
       refine⟨?_,this.2⟩
       have h3:=this.1
       simp at h3
       omega
    ·cases h
   ·cases h
    exact⟨Nat.le_refl _,ha⟩
def Small (N:Nat) (L:Ln) : Prop:=L.ps.length≤N∧∀ p∈L.ps,p.2.length≤N
theorem Gn {f:List UInt8→List UInt8} {s:List UInt8} {L:Ln} {N:Nat} (hN:s.length≤N) (h:oH f s=some L) : Small N L:=by
 unfold oH at h
 split at h
 ·cases hh:yU f s with
  | none=>rw[hh] at h; cases h
  | some x =>
    obtain⟨g,n,r⟩:=x
    rw[hh] at h
    simp only[BM] at h
    have hr:r.length≤N:=by
     unfold yU at hh
     split at hh
     ·split at hh
      ·cases hh; simp; omega
      ·cases hh
     ·cases hh; simp; omega
    unfold oW at h
    cases hp:lm f (r.length + 1) r [] with
    | none=>rw[hp] at h; cases h
    | some y =>
      obtain⟨ps,q⟩:=y
      rw[hp] at h
      simp only at h
      split at h
      ·cases h
       have:=FE f N _ r [] ps q hr (by simp) hp
       refine⟨?_,this.2⟩
       have h3:=this.1
       simp at h3 ⊢; omega
      ·cases h
 ·cases h
theorem pX {f:List UInt8→List UInt8} : ∀ (l:List (List UInt8 × Int)) (acc ls:List (Ln × Int)),(∀ x∈acc,Small 912 x.1)→jX f l acc=.ok ls→∀ x∈ls,Small 912 x.1
 | [],acc,ls,ha,h=>by cases h; exact ha
 | (s,k) :: r,acc,ls,ha,h=>by
   rw[jX] at h
   split at h
   ·exact pX r acc ls ha h
   ·split at h
    ·cases h
    ·cases hr:oH f s with
     | none=>rw[hr] at h; cases h
     | some L =>
       rw[hr] at h
       refine pX r _ ls (fun x hx=>?_) h
       rcases List.mem_append.1 hx with hx | hx
       ·exact ha x hx
       ·simp at hx; subst hx
        exact Gn (by omega) hr
def mr (c:UInt8) : Bool:=(decide (97≤c.toNat) && decide (c.toNat≤122)) || (decide (65≤c.toNat) && decide (c.toNat≤90)) || (decide (48≤c.toNat) && decide (c.toNat≤57)) || decide (c.toNat=45)
def wn (s:List UInt8) : Nat:=(s.takeWhile mr).length
theorem PL (s:List UInt8) : wn s≤s.length:=by
 unfold wn
 induction s with
 | nil=>simp
 | cons c s ih =>
   rw[List.takeWhile_cons]
   split <;> simp <;> omega
def qx (c:UInt8) : Bool:=c != 34 && bG c
def qa (c:UInt8) : Bool:=bG c && c != 34 && c != 44 && c != 59 && c != 58
def uE (s:List UInt8) : Option (List UInt8 × List UInt8) :=
 if aK 34 s then
  (if aK 34 ((s.drop 1).dropWhile qx) then some ((s.drop 1).takeWhile qx,((s.drop 1).dropWhile qx).drop 1) else none)
 else some (s.takeWhile qa,s.dropWhile qa)
def o5:Nat→List UInt8→List (List UInt8)→Option (List (List UInt8) × List UInt8)
 | 0,_,_=>none
 | k + 1,s,acc=>match uE s with
   | none=>none
   | some (v,r)=>if aK 44 r then o5 k (r.drop 1) (acc++[v]) else some (acc++[v],r)
theorem qQ {α:Type} (p:α→Bool) : ∀ s:List α,s.drop (s.takeWhile p).length=s.dropWhile p∧s.take (s.takeWhile p).length=s.takeWhile p
 | []=>by simp
 | c :: s=>by
   rw[List.takeWhile_cons,List.dropWhile_cons]
   split
   ·have:=qQ p s
    simp[this.1,this.2]
   ·simp
def Nr (s:List UInt8) : Option (List (List UInt8) × List UInt8):=o5 (s.length + 1) s []
def bad (n:Nat) : Bool:=decide (n<1) || decide (20<n)
def uH (n:Nat) (s:List UInt8) : List UInt8:=(s.take n).map bX
def Ev (s:List UInt8) : Option (List UInt8 × List UInt8) :=
 if aK 46 (s.drop (wn s)) then(if bad (wn s) then none else some (uH (wn s) s,s.drop (wn s + 1))) else some ([],s)
def nC:Nat→List UInt8→List jJ→Option (List jJ × List UInt8)
 | 0,_,_=>none
 | k + 1,s,acc=>if aK 59 s then
     (if bad (wn (s.drop 1)) then none else if aK 61 ((s.drop 1).drop (wn (s.drop 1))) then
      match Nr ((s.drop 1).drop (wn (s.drop 1) + 1)) with
      | some (vs,r)=>nC k r (acc++[(uH (wn (s.drop 1)) (s.drop 1),vs)])
      | none=>none
     else none)
   else some (acc,s)
def Cj (g s:List UInt8) : Option Ln :=
 if bad (wn s) then none else match nC ((s.drop (wn s)).length + 1) (s.drop (wn s)) [] with
  | none=>none
  | some (ps,r)=>if aK 58 r && (r.drop 1).all bG then some ⟨g,uH (wn s) s,ps,r.drop 1⟩ else none
def Kh (s:List UInt8) : Option Ln :=
 if bZ s then(match Ev s with
  | none=>none
  | some (g,r)=>Cj g r)
 else none
theorem MU {n b0 b1 b2 b3:Nat} (h0:jw n b0 b1 b2 b3≠0) : (2≤jw n b0 b1 b2 b3→128≤b1)∧(3≤jw n b0 b1 b2 b3→128≤b2)∧(4≤jw n b0 b1 b2 b3→128≤b3):=by
 by_cases r1:b0<128
 ·rw[wS r1]; omega
 by_cases r2:b0<194∨245≤b0
 ·exact absurd (Gh (by omega)) h0
 by_cases r3:b0<224
 ·by_cases g:n<2∨b1<128∨191<b1
  ·exact absurd (EZ (by omega) g) h0
  ·rw[LX (by omega) (by omega) (by omega)]; omega
 by_cases r4:b0<240
 ·by_cases g:n<3∨b1<128∨191<b1∨b2<128∨191<b2
  ·exact absurd (Gj (by omega) g) h0
  ·rw[Mv (by omega) (by omega) (by omega) (by omega) rfl]
   split <;> omega
 ·by_cases g:n<4∨b1<128∨191<b1∨b2<128∨191<b2∨b3<128∨191<b3
  ·exact absurd (EP (by omega) g) h0
  ·omega
theorem Oo {s:List UInt8} (h0:rk s≠0) {i:Nat} (h1:1≤i) (hi:i<rk s) : 128≤bt s i:=by
 have hne:s≠[]:=by intro e; subst e; simp[rk] at h0
 have hk:rk s=jw s.length (bt s 0) (bt s 1) (bt s 2) (bt s 3):=by rw[rk,if_neg hne]
 have hl:=(Jz (s:=s)).2
 have:=MU (hk▸h0)
 rw[← hk] at this
 obtain rfl | rfl | rfl:i=1∨i=2∨i=3:=by omega
 ·exact this.1 (by omega)
 ·exact this.2.1 (by omega)
 ·exact this.2.2 (by omega)
theorem F3 {c:UInt8} {s:List UInt8} (h:c.toNat<128) : rk (c :: s)=1:=by
 rw[rk,if_neg (by simp)]
 exact wS (by simpa [bt] using h)
theorem qV {c:UInt8} {s:List UInt8} (h:c.toNat<128) : bZ (c :: s)=bZ s:=by
 rw[mF (by rw[F3 h]; omega),F3 h]; rfl
theorem wR {c:UInt8} (hc:c.toNat<128) : ∀ (n:Nat) (a b:List UInt8),a.length≤n→bZ (a++c :: b)=true→bZ a=true∧bZ b=true
 | n,[],b,_,h=>⟨mQ,by rwa [List.nil_append,qV hc] at h⟩
 | 0,x :: a,b,hl,h=>by simp at hl
 | n + 1,x :: a,b,hl,h=>by
   have hne:(x :: a)++c :: b≠[]:=by simp
   have h0:=Ns hne h
   have hle:rk ((x :: a)++c :: b)≤(x :: a).length:=by
    rcases Nat.lt_or_ge (x :: a).length (rk ((x :: a)++c :: b)) with hlt | hge
    ·have:=Oo h0 (i:=(x :: a).length) (by simp) hlt
     have hb:bt ((x :: a)++c :: b) (x :: a).length=c.toNat:=by simp[bt,List.getD_eq_getElem?_getD]
     omega
    ·exact hge
   have hr:=K5 (s:=(x :: a)++c :: b) (t:=(x :: a).drop (rk ((x :: a)++c :: b))) h0
   rw[List.take_append_of_le_length hle,List.take_append_drop] at hr
   have hpos:1≤rk ((x :: a)++c :: b):=by omega
   rw[mF h0,List.drop_append_of_le_length hle] at h
   have:=wR hc n ((x :: a).drop (rk ((x :: a)++c :: b))) b (by rw[List.length_drop]; simp only[List.length_cons] at hl ⊢; omega) h
   refine⟨?_,this.2⟩
   rw[mF (s:=x :: a) (by rw[hr]; exact h0),hr]
   exact this.1
theorem mU:∀ (a b:List UInt8),(∀ c∈a,c.toNat<128)→bZ (a++b)=bZ b
 | [],b,_=>rfl
 | c :: a,b,h=>by rw[List.cons_append,qV (h c (by simp)),mU a b (fun d hd=>h d (by simp[hd]))]
theorem EF (c:UInt8) : bP.contains (bX c)=mr c:=by
 have key:∀ n:Fin 256,bP.contains (bX (UInt8.ofNat n.val))=mr (UInt8.ofNat n.val):=by decide +kernel
 have:=key ⟨c.toNat,c.toNat_lt⟩
 simpa using this
theorem oq:∀ s:List UInt8,((s.map bX).dropWhile (bP.contains ·)).length + wn s=s.length
 | []=>rfl
 | c :: s=>by
   have ih:=oq s
   unfold wn at *
   rw[List.map_cons,List.dropWhile_cons,List.takeWhile_cons,EF c]
   cases mr c with
   | true=>simp only[if_true,List.length_cons]; omega
   | false=>simp only[Bool.false_eq_true,if_false,List.length_cons,List.length_map,List.length_nil]
theorem uW (s:List UInt8) : wk s=wn s:=by
 have:=oq s
 unfold wk; omega
theorem Il (s:List UInt8) : s.take (wn s)=s.takeWhile mr:=(qQ mr s).2
theorem all_takeWhile {α:Type} (p:α→Bool) : ∀ s:List α,∀ x∈s.takeWhile p,p x=true
 | [],x,hx=>by cases hx
 | c :: s,x,hx=>by
   rw[List.takeWhile_cons] at hx
   split at hx
   ·rcases List.mem_cons.1 hx with rfl | hx
    ·assumption
    ·exact all_takeWhile p s x hx
   ·cases hx
theorem KG {c:UInt8} (h:mr c=true) : c.toNat<128:=by
 simp[mr] at h; omega
theorem sQ {α:Type} {p:α→Bool} : ∀ {s:List α},(∀ x∈s,p x=true)→s.dropWhile p=[]
 | [],_=>rfl
 | c :: s,h=>by rw[List.dropWhile_cons,if_pos (h c (by simp))]; exact sQ fun x hx=>h x (by simp[hx])
theorem MO (s:List UInt8) : Lib.trimS (bE s) bP=[]:=by
 have h:∀ x∈bE s,bP.contains x=true:=fun x hx=>by
  unfold bE at hx
  rw[uW,Il] at hx
  obtain⟨y,hy,rfl⟩:=List.mem_map.1 hx
  rw[EF]; exact all_takeWhile mr s y hy
 unfold Lib.trimS Lib.trimRightS Lib.trimLeftS
 rw[sQ (s:=(bE s).reverse) fun x hx=>h x (by simpa using hx)]
 rfl
abbrev gL:List UInt8→List UInt8:=fun s=>Lib.trimS s bP
theorem zY (s:List UInt8) : fq gL (bE s)=!bad (wn s):=by
 have hl:(bE s).length=wn s:=by
  unfold bE; rw[uW]; have:=PL s; simp; omega
 unfold fq bad
 rw[show gL (bE s)=[] from MO s,hl]
 by_cases h1:1≤wn s <;> by_cases h2:wn s≤20 <;> simp[h1,h2] <;> omega
theorem wY (s:List UInt8) : bE s=uH (wn s) s:=by unfold bE uH; rw[uW]
theorem Ag {s:List UInt8} (h:bZ s=true) : bZ (s.drop (wn s))=true:=by
 have:=mU (s.take (wn s)) (s.drop (wn s)) (fun c hc=>by rw[Il] at hc; exact KG (all_takeWhile mr s c hc))
 rw[List.take_append_drop] at this
 rw[← this]; exact h
theorem zx {x:UInt8} {s:List UInt8} (h:aK x s=true) : s=x :: s.drop 1:=by
 cases s with
 | nil=>cases h
 | cons c s=>simp[aK] at h; subst h; rfl
theorem ni {x:UInt8} {s:List UInt8} (hx:x.toNat<128) (h:aK x s=true) (hf:bZ s=true) : bZ (s.drop 1)=true:=by
 rw[zx h,qV hx] at hf; exact hf
theorem eO {α:Type} {p:α→Bool} : ∀ {a b:List α},(∀ x∈a,p x=true)→(∀ x,b.head?=some x→p x=false)→(a++b).takeWhile p=a∧(a++b).dropWhile p=b
 | [],[],_,_=>⟨rfl,rfl⟩
 | [],y :: b,_,h=>by
   have:=h y rfl
   simp[List.takeWhile_cons,List.dropWhile_cons,this]
 | x :: a,b,h,hb=>by
   have ih:=eO (a:=a) (b:=b) (fun y hy=>h y (by simp[hy])) hb
   simp[List.takeWhile_cons,List.dropWhile_cons,h x (by simp),ih.1,ih.2]
theorem l9 {α:Type} {p:α→Bool} : ∀ {s:List α},(∃ x∈s,p x=false)→∃ a y b,s=a++y :: b∧(∀ x∈a,p x=true)∧p y=false
 | [],⟨x,hx,_⟩=>by cases hx
 | c :: s,⟨x,hx,hp⟩=>by
   cases hc:p c with
   | false=>exact⟨[],c,s,rfl,by simp,hc⟩
   | true =>
     rcases List.mem_cons.1 hx with rfl | hx
     ·rw[hp] at hc; cases hc
     ·obtain⟨a,y,b,rfl,h1,h2⟩:=l9 ⟨x,hx,hp⟩
      exact⟨c :: a,y,b,rfl,fun z hz=>by rcases List.mem_cons.1 hz with rfl | hz; exact hc; exact h1 z hz,h2⟩
theorem xZ (c:UInt8) : okB [] c=bG c:=by simp[okB]
def K7 (r:List UInt8) : Prop:=aK 44 r=false∧aK 59 r=false∧aK 58 r=false
theorem zL {c:UInt8} {r:List UInt8} (h:c≠44∧c≠59∧c≠58) : K7 (c :: r):=by
 refine⟨?_, ?_, ?_⟩ <;> simp[aK,h]
theorem EL (s:List UInt8) : (Lib.indexAny s fG=-1∧∀ x∈s,x ∉ fG)∨∃ a c b,s=a++c :: b∧Lib.indexAny s fG=(a.length:Int)∧c∈fG∧∀ x∈a,x ∉ fG:=by
 induction s with
 | nil=>exact .inl ⟨rfl,by simp⟩
 | cons d s ih =>
   rw[Lib.indexAny]
   by_cases hd:d∈fG
   ·have:fG.contains d=true:=by simpa using hd
    exact .inr ⟨[],d,s,rfl,by rw[if_pos this]; rfl,hd,by simp⟩
   ·have:¬ fG.contains d=true:=by simpa using hd
    rw[if_neg this]
    rcases ih with⟨h1,h2⟩ | ⟨a,c,b,rfl,h1,h2,h3⟩
    ·exact .inl ⟨by rw[h1]; rfl,fun x hx=>by rcases List.mem_cons.1 hx with rfl | hx; exact hd; exact h2 x hx⟩
    ·refine .inr ⟨d :: a,c,b,rfl, ?_,h2,fun x hx=>by rcases List.mem_cons.1 hx with rfl | hx; exact hd; exact h3 x hx⟩
     rw[h1]
     have:((a.length:Int) == -1)=false:=by simp
     rw[this]; simp
theorem KW {c:UInt8} (h:c∈fG) : c.toNat<128:=by
 simp[fG] at h
 rcases h with rfl | rfl | rfl <;> decide
theorem BQ {c:UInt8} (h:c∈fG) : bG c=true∧c≠34∧qa c=false:=by
 simp[fG] at h
 rcases h with rfl | rfl | rfl <;> decide
theorem LH {t:List UInt8} (hf:bZ t=true) :
  ((jd t).2.2=true→uE t=some ((jd t).1,(jd t).2.1)∧bZ (jd t).2.1=true) ∧
  ((jd t).2.2=false→uE t=none∨∃ w r,uE t=some (w,r)∧K7 r):=by
 unfold jd uE
 cases h34:aK 34 t with
 | true =>
   have ht:=zx h34
   have hf1:=ni (x:=34) (by decide) h34 hf
   generalize t.drop 1=t1 at *
   simp only[if_true]
   rcases rZ 34 t1 with⟨h1,_,hn⟩ | ⟨a,b,h1,_,h3,hn⟩
   ·rw[h1]
    refine⟨fun h=>(by cases h),fun _=>.inl ?_⟩
    have:aK 34 (t1.dropWhile qx)=false:=by
     cases hd:t1.dropWhile qx with
     | nil=>rfl
     | cons c r =>
       have hm:c∈t1:=(List.dropWhile_suffix qx).subset (by rw[hd]; simp)
       have:c≠34:=fun e=>hn (e▸hm)
       simpa [aK] using this
    rw[this]; rfl
   ·rw[h1]
    simp only
    rw[h3] at hf1
    have hsp:=wR (c:=34) (by decide) a.length a b (Nat.le_refl _) hf1
    by_cases hp:a.all bG=true
    ·have hq:∀ x∈a,qx x=true:=fun x hx=>by
      have h5:=List.all_eq_true.1 hp x hx
      have h6:x≠34:=fun e=>hn (e▸hx)
      simp[qx,h5,h6]
     have:=eO (p:=qx) (a:=a) (b:=34 :: b) hq (fun x hx=>by simp at hx; subst hx; decide)
     rw[h3,this.1,this.2]
     refine⟨fun _=>⟨by simp[aK],hsp.2⟩,fun h=>?_⟩
     have:eB [] a=true:=by
      unfold eB
      rw[hsp.1,Bool.and_true,List.all_eq_true]
      intro x hx
      rw[xZ]; exact List.all_eq_true.1 hp x hx
     rw[this] at h; cases h
    ·have hp:∃ x∈a,bG x=false:=by simpa using hp
     obtain⟨a1,y,a2,rfl,h5,h6⟩:=l9 hp
     have hq:∀ x∈a1,qx x=true:=fun x hx=>by
      have h8:x≠34:=fun e=>hn (by subst e; simp[hx])
      simp[qx,h5 x hx,h8]
     have hy:y≠34:=fun e=>hn (by subst e; simp)
     have:=eO (p:=qx) (a:=a1) (b:=y :: (a2++34 :: b)) hq (fun x hx=>by simp at hx; subst hx; simp[qx,h6])
     have he:t1=a1++y :: (a2++34 :: b):=by rw[h3]; simp
     rw[he,this.1,this.2]
     refine⟨fun h=>?_,fun _=>.inl (by simp[aK,hy])⟩
     have:eB [] (a1++y :: a2)=false:=by
      unfold eB
      have:(a1++y :: a2).all (okB [])=false:=by rw[List.all_eq_false]; exact⟨y,by simp,by rw[xZ]; simp[h6]⟩
      rw[this]; rfl
     rw[this] at h; cases h
 | false =>
   simp only[Bool.false_eq_true,if_false]
   rcases EL t with⟨h1,h2⟩ | ⟨a,c,b,rfl,h1,h2,h3⟩
   ·rw[h1]
    refine⟨fun h=>(by cases h),fun _=>.inr ⟨_,_,rfl, ?_⟩⟩
    cases hd:t.dropWhile qa with
    | nil=>exact⟨rfl,rfl,rfl⟩
    | cons d r =>
      have hm:d∈t:=(List.dropWhile_suffix qa).subset (by rw[hd]; simp)
      have:=h2 d hm
      simp[fG] at this
      exact zL ⟨this.1,this.2.1,this.2.2⟩
   ·rw[h1,if_neg (by omega),Int.toNat_natCast]
    have ht1:(a++c :: b).take a.length=a:=by simp
    have ht2:(a++c :: b).drop a.length=c :: b:=by simp
    rw[ht1,ht2]
    have hca:=KW h2
    have hsp:=wR hca a.length a b (Nat.le_refl _) hf
    by_cases hp:a.all (okB [34])=true
    ·have hq:∀ x∈a,qa x=true:=fun x hx=>by
      have h5:=List.all_eq_true.1 hp x hx
      have h6:=h3 x hx
      simp[okB] at h5
      simp[fG] at h6
      simp[qa,h5,h6]
     have:=eO (p:=qa) (a:=a) (b:=c :: b) hq (fun x hx=>by simp at hx; subst hx; exact(BQ h2).2.2)
     refine⟨fun _=>⟨by rw[this.1,this.2],by rw[qV hca]; exact hsp.2⟩,fun h=>?_⟩
     have:eB [34] a=true:=by unfold eB; rw[hsp.1,hp]; rfl
     rw[this] at h; cases h
    ·have hp:∃ x∈a,okB [34] x=false:=by simpa using hp
     obtain⟨a1,y,a2,rfl,h5,h6⟩:=l9 hp
     have hyn:=h3 y (by simp)
     have hbad:qa y=false:=by
      simp[okB] at h6
      by_cases hpl:bG y=true
      ·have:=h6 hpl
       subst this; decide
      ·simp[qa,hpl]
     have hq:∀ x∈a1,qa x=true:=fun x hx=>by
      have h7:=h5 x hx
      have h8:=h3 x (by simp[hx])
      simp[okB] at h7
      simp[fG] at h8
      simp[qa,h7,h8]
     have:=eO (p:=qa) (a:=a1) (b:=y :: (a2++c :: b)) hq (fun x hx=>by simp at hx; subst hx; exact hbad)
     have he:(a1++y :: a2)++c :: b=a1++y :: (a2++c :: b):=by simp
     refine⟨fun h=>?_,fun _=>.inr ⟨_,_,rfl, ?_⟩⟩
     ·have:eB [34] (a1++y :: a2)=false:=by
       unfold eB
       have:(a1++y :: a2).all (okB [34])=false:=by rw[List.all_eq_false]; exact⟨y,by simp,by simp[h6]⟩
       rw[this]; rfl
      rw[this] at h; cases h
     ·rw[he,this.2]
      simp[fG] at hyn
      exact zL ⟨hyn.1,hyn.2.1,hyn.2.2⟩
theorem HZ:∀ (n:Nat) (s:List UInt8) (acc:List (List UInt8)) (k k' : Nat),s.length≤n→1≤s.length→s.length≤k→s.length≤k'→bZ (s.drop 1)=true →
  (∀ vs r,gV k s acc=some (vs,r)→o5 k' (s.drop 1) acc=some (vs,r)∧bZ r=true) ∧
  (gV k s acc=none→o5 k' (s.drop 1) acc=none∨∃ vs r,o5 k' (s.drop 1) acc=some (vs,r)∧aK 59 r=false∧aK 58 r=false)
 | 0,s,acc,k,k',h1,h2,_,_,_=>by omega
 | n + 1,s,acc,k,k',h1,h2,h3,h4,hf=>by
   obtain⟨i,rfl⟩ : ∃ i,k=i + 1:=⟨k - 1,by omega⟩
   obtain⟨j,rfl⟩ : ∃ j,k'=j + 1:=⟨k' - 1,by omega⟩
   rw[gV,o5]
   have hv:=LH hf
   have hlen:=p9 (s.drop 1)
   generalize jd (s.drop 1)=x at *
   obtain⟨v,after,ok⟩:=x
   simp only[List.length_drop] at hv hlen ⊢
   cases ok with
   | true =>
     obtain⟨hs,hfa⟩:=hv.1 rfl
     rw[hs]
     simp only[if_true]
     cases h44:aK 44 after with
     | true =>
       simp only[if_true]
       have hp:=bU h44
       exact HZ n after (acc++[v]) i j (by omega) hp (by omega) (by omega) (ni (x:=44) (by decide) h44 hfa)
     | false =>
       simp only[Bool.false_eq_true,if_false]
       refine⟨fun vs r h=>?_,fun h=>by cases h⟩
       cases h
       exact⟨rfl,hfa⟩
   | false =>
     simp only[Bool.false_eq_true,if_false]
     refine⟨fun vs r h=>(by cases h),fun _=>?_⟩
     rcases hv.2 rfl with h | ⟨w,r,h,hm⟩
     ·rw[h]; exact .inl rfl
     ·rw[h]
      simp only[hm.1,Bool.false_eq_true,if_false]
      exact .inr ⟨_,_,rfl,hm.2.1,hm.2.2⟩
theorem H9:∀ (n:Nat) (s:List UInt8) (acc:List jJ) (k k' : Nat),s.length≤n→s.length + 1≤k→s.length + 1≤k'→bZ s=true →
  (∀ ps r,lm gL k s acc=some (ps,r)→nC k' s acc=some (ps,r)∧bZ r=true) ∧
  (lm gL k s acc=none→nC k' s acc=none∨∃ ps r,nC k' s acc=some (ps,r)∧aK 58 r=false)
 | n,s,acc,k,k',h1,h3,h4,hf=>by
   obtain⟨i,rfl⟩ : ∃ i,k=i + 1:=⟨k - 1,by omega⟩
   obtain⟨j,rfl⟩ : ∃ j,k'=j + 1:=⟨k' - 1,by omega⟩
   rw[lm,nC]
   cases h59:aK 59 s with
   | false =>
     simp only[Bool.false_eq_true,if_false]
     refine⟨fun ps r h=>?_,fun h=>by cases h⟩
     cases h; exact⟨rfl,hf⟩
   | true =>
     simp only[if_true]
     have hp:=bU h59
     have hf1:=ni (x:=59) (by decide) h59 hf
     have hul:(s.drop 1).length + 1=s.length:=by simp; omega
     generalize s.drop 1=u at *
     rw[show(u.take (wk u)).map bX=bE u from rfl,zY,wY,uW]
     cases hb:bad (wn u) with
     | true =>
       simp only[Bool.not_true,Bool.false_and,Bool.false_eq_true,if_false,if_true]
       exact⟨fun ps r h=>(by cases h),fun _=>.inl (by simp)⟩
     | false =>
       simp only[Bool.not_false,Bool.true_and,Bool.false_eq_true,if_false]
       have hf2:=Ag hf1
       cases h61:aK 61 (u.drop (wn u)) with
       | false =>
         simp only[Bool.false_eq_true,if_false]
         exact⟨fun ps r h=>(by cases h),fun _=>.inl (by simp)⟩
       | true =>
         simp only[if_true]
         have hp2:=bU h61
         have hf3:=ni (x:=61) (by decide) h61 hf2
         have hq:=HZ (u.drop (wn u)).length (u.drop (wn u)) [] (u.drop (wn u)).length ((u.drop (wn u + 1)).length + 1) (Nat.le_refl _) hp2 (Nat.le_refl _) (by simp at hp2 ⊢; omega) hf3
         rw[List.drop_drop] at hq
         unfold Nr
         have hlen:=nR (u.drop (wn u)).length (u.drop (wn u)) []
         cases hv:gV (u.drop (wn u)).length (u.drop (wn u)) [] with
         | none =>
           simp only
           refine⟨fun ps r h=>(by cases h),fun _=>?_⟩
           rcases hq.2 hv with h | ⟨vs,r,h,h5,h6⟩
           ·rw[h]; exact .inl rfl
           ·rw[h]
            simp only
            right
            have hr1:1≤j:=by omega
            obtain⟨j',rfl⟩ : ∃ j',j=j' + 1:=⟨j - 1,by omega⟩
            rw[nC]
            simp only[h5,Bool.false_eq_true,if_false]
            exact⟨_,_,rfl,h6⟩
         | some p =>
           obtain⟨vs,r⟩:=p
           obtain⟨h5,h6⟩:=hq.1 vs r hv
           rw[h5]
           simp only
           have h7:=hlen vs r hp2 hv
           simp at h7
           cases n with
           | zero=>omega
           | succ n=>exact H9 n r _ i j (by omega) (by omega) (by omega) h6
theorem Ik {g r:List UInt8} (hf:bZ r=true) : BM gL g (bE r) (r.drop (wk r))=Cj g r:=by
 unfold BM Cj
 rw[zY,wY,uW]
 have hf1:=Ag hf
 have hq:=H9 (r.drop (wn r)).length (r.drop (wn r)) [] ((r.drop (wn r)).length + 1) ((r.drop (wn r)).length + 1) (Nat.le_refl _) (Nat.le_refl _) (Nat.le_refl _) hf1
 unfold oW
 cases hp:lm gL ((r.drop (wn r)).length + 1) (r.drop (wn r)) [] with
 | none =>
   simp only
   rcases hq.2 hp with h | ⟨ps,q,h,h2⟩
   ·rw[h]; simp
   ·rw[h]; simp[h2]
 | some x =>
   obtain⟨ps,q⟩:=x
   obtain⟨h1,h2⟩:=hq.1 ps q hp
   rw[h1]
   simp only
   cases hb:bad (wn r) with
   | true=>simp
   | false =>
     simp only[Bool.not_false,Bool.true_and,Bool.false_eq_true,if_false]
     cases h58:aK 58 q with
     | false=>simp
     | true =>
       have hf2:=ni (x:=58) (by decide) h58 h2
       have:eB [] (q.drop 1)=(q.drop 1).all bG:=by
        unfold eB
        rw[hf2,Bool.and_true]
        congr 1
        funext c
        exact xZ c
       rw[this]
theorem NJ (s:List UInt8) : oH gL s=Kh s:=by
 unfold oH Kh
 cases hf:bZ s with
 | false=>simp
 | true =>
   simp only[if_true]
   unfold yU Ev
   rw[uW]
   cases h46:aK 46 (s.drop (wn s)) with
   | false =>
     simp only[Bool.false_eq_true,if_false]
     rw[← uW s]
     exact Ik hf
   | true =>
     simp only[if_true]
     rw[zY]
     cases hb:bad (wn s) with
     | true=>simp
     | false =>
       simp only[Bool.not_false,if_true,Bool.false_eq_true,if_false]
       rw[wY s,List.drop_drop]
       refine Ik ?_
       have:=ni (x:=46) (by decide) h46 (Ag hf)
       rwa [List.drop_drop] at this
def u7 (f:List UInt8→List UInt8) (s:List UInt8) : List (Ln × Int) × Int × Int:=match Kv f s with
 | .ok ls=>(ls,0,0)
 | .bad k e=>([],k,e)
def OM (B:Base) (f:List UInt8→List UInt8) (c:ah) : Prop:=∀ {M:RM} {s:List UInt8} {Q:af},M.base=B→s.length≤100000 →
 (∀ v M',ag [] M M'→bT iX M' v (u7 f s).1 (fun b=>M.next≤b)→(u7 f s).1.length≤s.length + 1→(∀ x∈(u7 f s).1,Small 912 x.1)→Q (.tup [v,N .i64 (u7 f s).2.1,N .i64 (u7 f s).2.2]) M')→c [St s] M Q
theorem qB.one {B:Base} {f:List UInt8→List UInt8} {c:ah} (h:qB B f c) : OM B f c:=by
 intro M s Q hM hl hQ
 refine h hM hl ?_ ?_
 ·intro v M' ls k hls hsl hle
  have e:u7 f s=(ls,0,0):=by unfold u7; rw[hls]
  rw[e] at hQ
  exact hQ v M' k hsl hle (pX _ _ _ (by simp) hls)
 ·intro M' k e kk hb
  have he:u7 f s=([],k,e):=by unfold u7; rw[hb]
  rw[he] at hQ
  exact hQ aR M' kk bT.nil (by simp) (by simp)
end Go.Ab.Vl
namespace Go.Ab
open Go Go.RowKit Go.ChangeShapes
section
variable {H:Type} {enc:TypeId × Value→H} {P:Program} {w:World} {base:Nat} {spare:Nat→Bool} {held:Bool}
end
end Go.Ab
namespace Go.Ab
open Go Go.ChangeShapes
end Go.Ab
namespace Go.Ab
open Go Go.RowKit
section
variable {P:Program} {f:FuncId} {fn:Func} {w w' : World} {M:RM}
end
end Go.Ab
namespace Go.Ab.Sm
open Go Go.Ab
section
variable {i j:Nat} {K:AV→Prop}
theorem add1 (h:i<4611686018427387904) : ai .add (N .i64 (i:Int)) (N .i64 1) K=K (N .i64 ((i + 1:Nat) : Int)):=by
 rw[mI,lg (by omega)]
theorem FX:ai .lss (N .i64 (i:Int)) (N .i64 (j:Int)) K=K (Bo (decide (i<j))):=by rw[nz,show decide ((i:Int)<(j:Int))=decide (i<j) by simp]
theorem JE:ai .gtr (N .i64 (i:Int)) (N .i64 (j:Int)) K=K (Bo (decide (i > j))):=by rw[zV,show decide ((i:Int) > (j:Int))=decide (i > j) by simp]
theorem QM:ai .eql (N .i64 (i:Int)) (N .i64 (j:Int)) K=K (Bo (decide (i=j))):=by
 rw[nk,show((i:Int) == (j:Int))=decide (i=j) by by_cases h:i=j <;> simp[h]; omega]
end
section
variable {M:RM} {c p:Bool} {f:af→Prop} {P:RM→Prop} {G:AV→RM→Prop}
theorem PN (hf:c=true→∀ k:af,k (Bo p) M→f k) (hG:G (Bo (c && p)) M) :
  ae (Bo c) true f (fun k=>k .undef M) (fun t M'=>aP (Bo c) t (Bo false) fun u=>G u M'):=by
 cases c with
 | false=>rw[D6]; dsimp only; rw[kE]; exact hG
 | true=>rw[wH]; exact hf rfl _ (by rw[fH]; exact hG)
theorem Jq (hf:c=false→∀ k:af,k (Bo p) M→f k) (hG:G (Bo (c || p)) M) :
  ae (Bo c) false f (fun k=>k .undef M) (fun t M'=>aP (Bo c) (Bo true) t fun u=>G u M'):=by
 cases c with
 | true=>rw[dx]; dsimp only; rw[fH]; exact hG
 | false=>rw[iw]; exact hf rfl _ (by rw[kE]; exact hG)
theorem PK (h0:P M) (hf:c=true→∀ k:af,(∀ M',P M'→k (Bo p) M')→f k) (hG:∀ M',P M'→G (Bo (c && p)) M') :
  ae (Bo c) true f (fun k=>k .undef M) (fun t M'=>aP (Bo c) t (Bo false) fun u=>G u M'):=by
 cases c with
 | false=>rw[D6]; dsimp only; rw[kE]; exact hG M h0
 | true=>rw[wH]; exact hf rfl _ fun M' h=>by rw[fH]; exact hG M' h
theorem Lt (h0:P M) (hf:c=false→∀ k:af,(∀ M',P M'→k (Bo p) M')→f k) (hG:∀ M',P M'→G (Bo (c || p)) M') :
  ae (Bo c) false f (fun k=>k .undef M) (fun t M'=>aP (Bo c) (Bo true) t fun u=>G u M'):=by
 cases c with
 | true=>rw[dx]; dsimp only; rw[fH]; exact hG M h0
 | false=>rw[iw]; exact hf rfl _ fun M' h=>by rw[kE]; exact hG M' h
end
section
variable {M:RM} {c p:Bool} {f:KR→Prop} {G:AV→RM→Prop}
end
theorem Pk {a:Int} {K:AV→Prop} : ai .neq (N .i64 a) (N .i64 a) K=K (Bo false):=by rw[qz,bne_self_eq_false]
theorem Lc {α:Type} {E:Enc α} {M:RM} {T:Nat} {v:AV} {xs:List α} (h:Ow E M 0 T v xs) (hi:0<xs.length) : ∃ b,v=.slc b 0 xs.length (.op E.size)∧b<M.next∧M.heap b=some (.row (E.row xs) true T 0):=by
 unfold Ow at h
 generalize xs.length=n at *
 generalize E.row xs=cs at *
 cases h with
 | nil=>omega
 | ex0 b o h1 h2 h3=>omega
 | op b n cs h1 h2 h3 h4=>exact⟨b,rfl,h2,h3⟩
theorem Mg {α:Type} {E:Enc α} (hs:E.size=1) {M:RM} {T:Nat} {v:AV} {xs:List α} (h:Ow E M 0 T v xs) {i:Nat} (hi:i<xs.length) : ∃ b,aD v=[b]∧b<M.next ∧
  (∀ (K:AV→Prop),bS v (N .i64 (i:Int)) 1 K=K (.ptr b i))∧(∀ x,E.cells xs[i]=[x]→∀ K:AV→Prop,az M (.ptr b i) K=K x) ∧
  ∀ (a:α) (x:AV),E.cells a=[x]→x.cells=[x]→∃ M',Ow E M' 0 T v (xs.set i a)∧M'=M.put b (.row (E.row (xs.set i a)) true T 0)∧∀ K:RM→Prop,aV M (.ptr b i) x 1 K=K M':=by
 obtain⟨b,rfl,h2,h3⟩:=Lc h (by omega)
 rw[hs]
 have hlen:(E.row xs).length=xs.length:=by rw[E.eH,hs,Nat.mul_one]
 have hget:∀ x,E.cells xs[i]=[x]→(E.row xs)[i]?=some x:=by
  intro x hx
  have:=E.sS hi
  rw[hs,Nat.mul_one,hx] at this
  have h2:=congrArg (fun l:List AV=>l[0]?) this
  simpa using h2
 have hset:∀ (a:α) (x:AV),E.cells a=[x]→(E.row xs).set i x=E.row (xs.set i a):=by
  intro a x hx
  apply List.ext_getElem?
  intro j
  have hl2:(E.row (xs.set i a)).length=xs.length:=by rw[E.eH,hs,Nat.mul_one,List.length_set]
  by_cases hj:j<xs.length
  ·have hj2:j<(xs.set i a).length:=by rw[List.length_set]; exact hj
   have e1:=E.sS (xs:=xs.set i a) hj2
   rw[hs,Nat.mul_one] at e1
   have e2:=E.sS (xs:=xs) hj
   rw[hs,Nat.mul_one] at e2
   have e1:=congrArg (fun l:List AV=>l[0]?) e1
   have e2:=congrArg (fun l:List AV=>l[0]?) e2
   simp only[List.getElem?_take,List.getElem?_drop,Nat.zero_lt_one,if_true,Nat.add_zero] at e1 e2
   rw[e1]
   by_cases hji:j=i
   ·subst hji
    rw[List.getElem?_set_self (by omega)]
    simp[hx]
   ·rw[List.getElem?_set_ne (fun e=>hji e.symm),e2]
    rw[List.getElem_set_ne (fun e=>hji e.symm)]
  ·rw[List.getElem?_eq_none (by rw[List.length_set]; omega),List.getElem?_eq_none (by omega)]
 refine⟨b,rfl,h2,fun K=>?_,fun x hx K=>aB h3 (hget x hx),fun a x hx hc=>?_⟩
 ·rw[AA]
  simp only[Int.toNat_natCast,Nat.mul_one,Nat.zero_add]
  exact propext ⟨fun h=>h.2.2,fun h=>⟨by omega,by omega,h⟩⟩
 ·have h1x:oneCell x=true:=by
   have:=E.one a
   rw[hx] at this
   simpa using this
  refine⟨_, ?_,rfl,fun K=>iW (l':=E.row (xs.set i a)) h3 (by omega) hc h1x (hset a x hx)⟩
  have hl3:(xs.set i a).length=xs.length:=List.length_set
  show Own _ 0 T E.size (.slc b 0 xs.length (.op 1)) _ _
  rw[hs,hl3]
  exact .op b xs.length _ (Nat.zero_le _) h2 (bf _) (by rw[E.eH,hs,hl3])
end Go.Ab.Sm
namespace Go.Ab.Vl
open Go Go.Ab Go.Ab.Sm
def ek (c:UInt8) : UInt8:=if 97≤c.toNat∧c.toNat≤122 then UInt8.ofNat (c.toNat - 32) else c
def Fv (c:ah) : Prop:=∀ {M:RM} {s:List UInt8} {Q:af},s.length≤1000000000→(∀ M',ag [] M M'→Q (St (s.map ek)) M')→c [St s] M Q
section
variable {f:UInt8→UInt8} {s:List UInt8} {i:Nat}
theorem map_set (hi:i<s.length) (x:UInt8) : ((s.take i).map f++s.drop i).set i x=(s.take i).map f++x :: s.drop (i + 1):=by
 have hl:((s.take i).map f).length=i:=by simp; omega
 rw[List.drop_eq_getElem_cons hi,List.set_append_right _ _ (by omega),hl,Nat.sub_self,List.set_cons_zero]
theorem map_take (hi:i<s.length) : (s.take (i + 1)).map f++s.drop (i + 1)=(s.take i).map f++f s[i] :: s.drop (i + 1):=by
 rw[List.take_succ_eq_append_getElem hi,List.map_append,List.append_assoc]
 rfl
theorem NI (hi:i<s.length) (h:i<((s.take i).map f++s.drop i).length) : ((s.take i).map f++s.drop i)[i]=s[i]:=by
 have hl:((s.take i).map f).length=i:=by simp; omega
 rw[List.getElem_append_right (by omega)]
 simp only[hl,Nat.sub_self,List.getElem_drop,Nat.add_zero]
end
theorem NM {c:UInt8} (h:¬ (97≤c.toNat∧c.toNat≤122)) : ek c=c:=if_neg h
theorem OQ {c:UInt8} (h:97≤c.toNat∧c.toNat≤122) : (ek c).toNat=c.toNat - 32:=by
 have:=I9 c
 unfold ek
 rw[if_pos h,Ka,Nat.mod_eq_of_lt (by omega)]
theorem IL {T8:Nat} : Fv fun args M Q=>∃ a0,args=[a0]∧og T8 a0 M Q:=by
 intro M s Q hl hQ
 refine⟨_,rfl, ?_⟩
 unfold og
 simp only[fu,gB]
 rw[xI,bJ,uw]
 have k1:ag [] M (M.push (.row (BY.row s) true T8 0)):=(ag.refl _ _).push _
 have o1:Ow BY (M.push (.row (BY.row s) true T8 0)) 0 T8 (.slc M.next 0 s.length (.op 1)) s:=.op M.next s.length _ (Nat.zero_le _) (by rw[dL]; omega) (RM.bg _) (BY.eH _)
 generalize M.push (.row (BY.row s) true T8 0)=M1 at *
 refine bL (fun m ys M3=>∃ i:Nat,m=s.length - i∧ys=[N .i64 (i:Int)]∧i≤s.length∧Ow BY M3 0 T8 (.slc M.next 0 s.length (.op 1)) ((s.take i).map ek++s.drop i)∧ag [] M M3) s.length
  ⟨0,rfl,rfl,Nat.zero_le _,by simpa using o1,k1⟩ ?_
 rintro next m ys M3 hnext ⟨i,rfl,rfl,hi,o3,k3⟩
 dsimp only[aj]
 rw[FX]
 refine dI (fun hlt=>?_) (fun hge=>?_)
 ·have hlt:i<s.length:=of_decide_eq_true hlt
  have hlen:i<((s.take i).map ek++s.drop i).length:=by simp; omega
  obtain⟨b,hbk,hbl,hix,hld,hst⟩:=Mg (E:=BY) rfl o3 hlen
  rw[NI hlt hlen] at hld
  have hbe:M.next=b:=by simpa [aD] using hbk
  refine gz (fun _ M'=>Ow BY M' 0 T8 (.slc M.next 0 s.length (.op 1)) ((s.take (i + 1)).map ek++s.drop (i + 1))∧ag [] M M') ?_ ?_
  ·rintro xs M4 ⟨o4,k4⟩
   rw[add1 (by omega)]
   exact hnext _ _ _ (by omega) ⟨i + 1,rfl,rfl,by omega,o4,k4⟩
  intro J hJ
  have cb:=I9 s[i]
  have same:¬ (97≤s[i].toNat∧s[i].toNat≤122)→J [] M3:=fun h=>hJ _ _ ⟨by rw[map_take hlt,NM h,← List.drop_eq_getElem_cons hlt]; exact o3,k3⟩
  rw[hix,hld (By s[i]) rfl,By,gJ]
  refine PN (p:=decide ((s[i].toNat:Int)≤122)) (fun _ k hk=>by rw[Av]; exact hk) ?_
  refine dI (fun hc=>?_) (fun hc=>same ?_)
  ·rw[Bool.and_eq_true,decide_eq_true_eq,decide_eq_true_eq] at hc
   have h:97≤s[i].toNat∧s[i].toNat≤122:=by omega
   obtain⟨M4,o4,e4,hs4⟩:=hst (ek s[i]) (By (ek s[i])) rfl rfl
   have wv:N IntKind.u8 (IntKind.u8.wrap (IntKind.u8.wrap ((s[i].toNat:Int) + 65) - 97))=By (ek s[i]):=by
    rw[By,OQ h]
    rw[show IntKind.u8.wrap ((s[i].toNat:Int) + 65)=(s[i].toNat:Int) + 65 from oQ (by omega) (by omega)]
    rw[oQ (by omega) (by omega)]
    congr 1; omega
   rw[mI,FT,hix,wv,hs4]
   refine hJ _ _ ⟨?_, ?_⟩
   ·rw[map_take hlt,← map_set hlt]; exact o4
   ·rw[e4]; exact k3.put _ (.inl (by omega))
  ·rw[Bool.and_eq_false_iff,decide_eq_false_iff_not,decide_eq_false_iff_not] at hc
   omega
 ·have he:i=s.length:=by
   have:¬ i<s.length:=of_decide_eq_false hge
   omega
  subst he
  rw[List.take_length,List.drop_length,List.append_nil] at o3
  rw[Sl.str (Own.Du o3)]
  exact hQ M3 k3
def xM (s:List UInt8) : Bool:=s.any fun c=>decide (c∈fG)
def Ms (B:Base) (c:ah) : Prop:=∀ {M:RM} {s:List UInt8} {Q:af},M.base=B→s.length≤1000000000→(∀ M',ag [] M M'→Q (Bo (xM s)) M')→c [St s,St fG] M Q
theorem L6 {B:Base} {ci:ah} (hi:wG fG B ci) : Ms B fun args M Q=>∃ a0 a1,args=[a0,a1]∧iT ci a0 a1 M Q:=by
 intro M s Q hM hl hQ
 refine⟨_,_,rfl, ?_⟩
 unfold iT
 refine hi hM hl fun M' k=>?_
 have hQ:=hQ M' k
 rw[gJ]
 rcases EL s with⟨e,h⟩ | ⟨a,c,b,e1,e2,h1,h2⟩
 ·have:xM s=false:=by
   unfold xM
   rw[List.any_eq_false]
   intro x hx
   simpa using h x hx
  rw[this] at hQ
  rw[e]; exact hQ
 ·have:xM s=true:=by
   unfold xM
   rw[List.any_eq_true]
   exact⟨c,by rw[e1]; simp,by simpa using h1⟩
  rw[this] at hQ
  rw[e2,show decide ((a.length:Int) ≥ 0)=true from decide_eq_true (by omega)]; exact hQ
structure yX (n0 b:Nat) (M M' : RM) : Prop where
 base:M'.base=M.base
 next:M.next≤M'.next
 heap:∀ c,c<n0→c≠b→M'.heap c=M.heap c
 shut:∀ c l e f,c<M.next→c≠b→M.heap c=some (.row l false e f)→M'.heap c=some (.row l false e f)
theorem lG.buf {TB T8 n0 b:Nat} {M:RM} {xs:List UInt8} {buf:AV} (hB:lG TB T8 n0 M b xs) (ho:Ow BY M n0 T8 buf xs) (he:xs=[]→buf=aR) : ∀ c∈aD buf,∀ l e f,M.heap c≠some (.row l false e f):=by
 intro c hc l e f hh
 by_cases hx:xs=[]
 ·rw[he hx] at hc; simp[aD] at hc
 ·obtain⟨d,rfl,_,h3⟩:=Lc (Own.mono ho (Nat.zero_le _)) (List.length_pos_iff.2 hx)
  simp only[aD,List.mem_singleton] at hc
  subst hc
  rw[h3] at hh
  cases hh
theorem lG.keep {TB T8 n0 b:Nat} {M M' : RM} {xs:List UInt8} (hB:lG TB T8 n0 M b xs) (hk:ag [] M M') : lG TB T8 n0 M' b xs:=by
 obtain⟨addr,buf,hh,ha,ho,he⟩:=hB.row
 have:=hB.hn
 have:=hB.lt
 exact⟨hB.lt,Nat.le_trans hB.hn hk.next,addr,buf,hk.aS hh (by omega) (by simp),ha,Own.keep ho hk (by simp),he⟩
theorem yX.keep {n0 b:Nat} {M0 M M' : RM} (h0:ag [] M0 M) (h:yX n0 b M M') (hn:M0.next≤n0) (hb:M0.next≤b) : ag [] M0 M' :=
 ⟨h.base.trans h0.base,Nat.le_trans h0.next h.next,fun c h1 _=>(h.heap c (by omega) (by omega)).trans (h0.heap c h1 (by simp))⟩
def uz (TB T8:Nat) (c:ah) : Prop:=∀ {n0:Nat} {M:RM} {b:Nat} {xs:List UInt8} {x:UInt8} {Q:af},lG TB T8 n0 M b xs→xs.length + 1≤140737488355328 →
 (∀ M',lG TB T8 n0 M' b (xs++[x])→yX n0 b M M'→Q (.sc .nilIface) M')→c [.ptr b 0,By x] M Q
theorem Be {TB T8:Nat} {c:ah} (hc:xS TB c) : uz TB T8 fun args M Q=>∃ a0 a1,args=[a0,a1]∧fF c T8 a0 a1 M Q:=by
 intro n0 M b xs x Q hB hl hQ
 obtain⟨addr,buf,hh,ha,ho,he⟩:=hB.row
 refine⟨_,_,rfl, ?_⟩
 unfold fF
 refine hc hh ha ho.one fun M1 h1 hnx hbs hot=>?_
 have hbuf:=hB.buf ho he
 have hlt:=hB.lt
 have hn:=hB.hn
 have ho1:Ow BY M1 n0 T8 buf xs:=Own.same ho hnx (fun c hc=>hot c (by have:=ho.blk c hc; omega)) hbs
 simp only[go_sem,RM.cell_of h1]
 rw[tu (x:=By x) (size:=1) rfl rfl rfl]
 simp only[bJ]
 refine Cr (E:=BY) (a:=x) ho1 (by omega) (Nat.le_refl _) (by omega) hl fun v' M2 h2 k2 hnx2 hv=>?_
 have hb2:b ∉ aD buf:=fun hm=>by have:=ho.blk b hm; omega
 have hh2:=k2.aS h1 (by omega) hb2
 simp only[go_sem,RM.iZ hh2]
 rw[Own.cells h2,fC (by simp) (by simp) (by simp[Own.one h2])]
 simp only[go_sem]
 have hne:∀ c∈aD v',c≠b:=fun c hm=>by have:=h2.blk c hm; omega
 refine hQ _ ⟨hlt,by show n0≤M2.next; omega,.ptr b 0,v',RM.jf _ _,.inr rfl,Own.same h2 rfl (fun c hm=>by simp[go_sem,hne c hm]) rfl,by simp⟩ ⟨?_, ?_,fun c h3 h4=>?_,fun c l e f h3 h4 h5=>?_⟩
 ·exact k2.base.trans hbs
 ·show M.next≤M2.next
  omega
 ·simp only[go_sem,if_neg h4]
  rw[k2.heap c (by omega) (fun hm=>by have:=ho.blk c hm; omega),hot c h4]
 ·simp only[go_sem,if_neg h4]
  rw[k2.heap c (by omega) (fun hm=>hbuf c hm l e f h5),hot c h4,h5]
def pz (TB T8:Nat) (c:ah) : Prop:=∀ {n0:Nat} {M:RM} {b:Nat} {xs s:List UInt8} {Q:af},lG TB T8 n0 M b xs→xs.length + s.length≤140737488355328 →
 (∀ M',lG TB T8 n0 M' b (xs++s)→yX n0 b M M'→Q (.tup [N .i64 s.length,.sc .nilIface]) M')→c [.ptr b 0,St s] M Q
theorem yZ {TB T8:Nat} {c:ah} (hc:xS TB c) : pz TB T8 fun args M Q=>∃ a0 a1,args=[a0,a1]∧bR c T8 a0 a1 M Q:=by
 intro n0 M b xs s Q hB hl hQ
 obtain⟨addr,buf,hh,ha,ho,he⟩:=hB.row
 refine⟨_,_,rfl, ?_⟩
 unfold bR
 refine hc hh ha ho.one fun M1 h1 hnx hbs hot=>?_
 have hbuf:=hB.buf ho he
 have hlt:=hB.lt
 have hn:=hB.hn
 have ho1:Ow BY M1 n0 T8 buf xs:=Own.same ho hnx (fun c hc=>hot c (by have:=ho.blk c hc; omega)) hbs
 simp only[go_sem,RM.cell_of h1]
 have hnew:lQ M1 1 [N .u8 0] false (St s)=some (s.length,BY.row s):=by
  simp only[lQ,xV,if_true]
 by_cases hne0:xs++s=[]
 ·obtain⟨rfl,rfl⟩:=List.append_eq_nil_iff.1 hne0
  have hb0:=he rfl
  subst hb0
  refine⟨0,[],hnew,by omega,by omega,aR,M1,by simp[pQ], ?_⟩
  simp only[go_sem,RM.iZ h1]
  rw[fC (by simp) (by simp) (by simp[oneCell])]
  simp only[go_sem]
  refine hQ _ ⟨hlt,by show n0≤M1.next; omega,.ptr b 0,aR,by simp[go_sem],.inr rfl,.nil,fun _=>rfl⟩ ⟨hbs,by show M.next≤M1.next; omega,fun c h3 h4=>?_,fun c l e f h3 h4 h5=>?_⟩
  ·simp only[go_sem,if_neg h4]
   exact hot c h4
  ·simp only[go_sem,if_neg h4]
   rw[hot c h4,h5]
 refine yN ho1 (by omega) (Nat.le_refl _) hnew (by rw[BY.eH]; rfl) (BY.yA s) (by omega) (by omega) fun v' M2 h2 k2 hnx2 hv=>?_
 rw[← BY.oL] at h2
 have h2:Ow BY M2 n0 T8 v' (xs++s):=by
  show Own M2 n0 T8 1 v' (BY.row (xs++s)) (xs++s).length
  rw[List.length_append]; exact h2
 have hb2:b ∉ aD buf:=fun hm=>by have:=ho.blk b hm; omega
 have hh2:=k2.aS h1 (by omega) hb2
 simp only[go_sem,RM.iZ hh2]
 rw[Own.cells h2,fC (by simp) (by simp) (by simp[Own.one h2])]
 simp only[go_sem]
 have hne:∀ c∈aD v',c≠b:=fun c hm=>by have:=h2.blk c hm; omega
 refine hQ _ ⟨hlt,by show n0≤M2.next; omega,.ptr b 0,v',RM.jf _ _,.inr rfl,Own.same h2 rfl (fun c hm=>by simp[go_sem,hne c hm]) rfl,fun e=>absurd e hne0⟩ ⟨?_, ?_,fun c h3 h4=>?_,fun c l e f h3 h4 h5=>?_⟩
 ·exact k2.base.trans hbs
 ·show M.next≤M2.next
  omega
 ·simp only[go_sem,if_neg h4]
  rw[k2.heap c (by omega) (fun hm=>by have:=ho.blk c hm; omega),hot c h4]
 ·simp only[go_sem,if_neg h4]
  rw[k2.heap c (by omega) (fun hm=>hbuf c hm l e f h5),hot c h4,h5]
def lS (v:List UInt8) : Bool:=!eB [34] v
def jK (f:List UInt8→List UInt8) (p:jJ) : Bool:=!(!fq f p.1 || decide (p.2.length=0) || p.2.any lS)
def jL (f:List UInt8→List UInt8) (L:Ln) : Bool:=!((L.g != []) && !fq f L.g || !fq f L.n || !eB [] L.v) && L.ps.all (jK f)
structure LB (N:Nat) (L:Ln) : Prop where
 g:L.g.length≤N
 n:L.n.length≤N
 v:L.v.length≤N
 ps:L.ps.length≤N
 pn:∀ p∈L.ps,p.1.length≤N
 pl:∀ p∈L.ps,p.2.length≤N
 pv:∀ p∈L.ps,∀ v∈p.2,v.length≤N
theorem Hy {M:RM} {v:AV} {ps:List jJ} {S:Nat→Prop} (h:bT jV M v ps S) {i:Nat} (hi:i<ps.length) : ∃ pv,bT fU.kL M pv ps[i].2 S∧∀ K:AV→Prop,(bS v (N .i64 (i:Int)) 2 fun p=>dK M p 2 K)=K (.agg [St ps[i].1,pv]):=by
 obtain⟨b,o,cs,hb,hbm,hidx,hld,hrel⟩:=bT.at h 2 (i:Int) hi
 obtain⟨ds,rfl,pv,rfl,hpv⟩:=hrel
 refine⟨pv,hpv,fun K=>?_⟩
 rw[hidx,xA,hld]
 exact propext ⟨fun⟨_,e,hk⟩=>by cases e; exact hk,fun hk=>⟨_,rfl,hk⟩⟩
theorem FN {M:RM} {v:AV} {xs:List (List UInt8)} (h:Sl fU M v xs) {i:Nat} (hi:i<xs.length) {K:AV→Prop} : (bS v (N .i64 (i:Int)) 1 fun p=>az M p K)=K (St xs[i]):=by
 obtain⟨b,o,_,_,hidx,hc⟩:=Sl.K8 (E:=fU) h (i:Int) hi
 rw[hidx,cz,hc _ rfl]
 simp
section
variable {B:Base}
def L9 (B:Base) (c:ah) : Prop:=∀ {M:RM} {s:List UInt8} {Q:af},M.base=B→s.length≤1000000000→(∀ M',ag [] M M'→Q (Bo (lS s)) M')→c [St s] M Q
theorem JU {cv:ah} (hv:j3 B cv) : L9 B fun args M Q=>∃ a0,args=[a0]∧mK cv a0 M Q:=by
 intro M s Q hM hl hQ
 refine⟨_,rfl, ?_⟩
 unfold mK
 refine hv hM hl fun M' k=>?_
 rw[dD]
 exact hQ M' k
def Dn (B:Base) (n:Nat) (c:ah) : Prop:=∀ {M:RM} {v:AV} {xs:List (List UInt8)} {Q:af},M.base=B→Sl fU M v xs→xs.length≤1000000000→(∀ x∈xs,x.length≤1000000000)→(∀ M',ag [] M M'→Q (Bo (xs.any lS)) M')→c [v,.fn (.func n) [] []] M Q
def Cz (B:Base) (n:Nat) (c:ah) : Prop:=∀ {M:RM} {v:AV} {xs:List (List UInt8)} {Q:af},M.base=B→Sl fU M v xs→xs.length≤1000000000→(∀ x∈xs,x.length≤1000000000)→(∀ M' (k:Int),ag [] M M'→decide (k ≥ 0)=xs.any lS→Q (N .i64 k) M')→c [v,.fn (.func n) [] []] M Q
theorem Ei {n:Nat} {cv:FuncId→ah} (hv:L9 B (cv n)) : Cz B n fun args M Q=>∃ a0 a1,args=[a0,a1]∧jP cv a0 a1 M Q:=by
 intro M v xs Q hM hs hl hxl hQ
 refine⟨_,_,rfl, ?_⟩
 unfold jP
 rw[dQ.len hs]
 refine bL (fun m ys M'=>∃ i:Nat,m=xs.length - i∧ys=[N .i64 (i:Int)]∧i≤xs.length∧ag [] M M'∧(xs.drop i).any lS=xs.any lS) xs.length ⟨0,rfl,rfl,Nat.zero_le _,ag.refl _ _,rfl⟩ ?_
 rintro next m ys M1 hnext ⟨i,rfl,rfl,hi,k1,hh⟩
 dsimp only[aj]
 rw[FX]
 refine dI (fun hlt=>?_) (fun hge=>?_)
 ·have hlt:i<xs.length:=of_decide_eq_true hlt
  rw[FN (dQ.keep hs k1 (by simp)) hlt,MJ]
  rw[List.drop_eq_getElem_cons hlt,List.any_cons] at hh
  refine hv (k1.base.trans hM) (hxl _ (List.getElem_mem hlt)) fun M2 k2=>?_
  refine dI (fun hb=>?_) (fun hb=>?_)
  ·rw[hb,Bool.true_or] at hh
   exact hQ M2 _ (k1.trans k2) (by rw[← hh]; exact decide_eq_true (by omega))
  ·rw[hb,Bool.false_or] at hh
   rw[add1 (by omega)]
   exact hnext _ _ _ (by omega) ⟨i + 1,rfl,rfl,by omega,k1.trans k2,hh⟩
 ·have he:i=xs.length:=by
   have:¬ i<xs.length:=of_decide_eq_false hge
   omega
  subst he
  rw[List.drop_length] at hh
  exact hQ M1 _ k1 (by rw[← hh]; rfl)
theorem AX {n:Nat} {ci:ah} (hi:Cz B n ci) : Dn B n fun args M Q=>∃ a0 a1,args=[a0,a1]∧iM ci a0 a1 M Q:=by
 intro M v xs Q hM hs hl hxl hQ
 refine⟨_,_,rfl, ?_⟩
 unfold iM
 refine hi hM hs hl hxl fun M' k k' he=>?_
 rw[gJ,he]
 exact hQ M' k'
def Gc (B:Base) (f:List UInt8→List UInt8) (c:ah) : Prop:=∀ {M:RM} {cs:List AV} {L:Ln} {k:Int} {S:Nat→Prop} {Q:af},M.base=B→iX.rel M cs (L,k) S→LB 1000000000 L→(∀ M',ag [] M M'→Q (Bo (jL f L)) M')→c [.agg cs] M Q
theorem JZ {f:List UInt8→List UInt8} {TL TP n:Nat} {cn cv cc:ah} (hn:nN B f cn) (hv:j3 B cv) (hc:Dn B n cc) : Gc B f fun args M Q=>∃ a0,args=[a0]∧qF TL cn cv TP cc n a0 M Q:=by
 intro M cs L k S Q hM hrel hb hQ
 obtain⟨v,rfl,hps⟩:=hrel
 simp only at hps
 refine⟨_,rfl, ?_⟩
 unfold qF
 simp only[fu]
 have hall:([St L.g,St L.n,v,St L.v,N .i64 k] : List AV).all oneCell=true:=by simp[iP,hps.one]
 rw[lu hall (by simp),bJ]
 have k1:ag [] M (M.push (.row [St L.g,St L.n,v,St L.v,N .i64 k] false TL 0)):=(ag.refl _ _).push _
 have h1:(M.push (.row [St L.g,St L.n,v,St L.v,N .i64 k] false TL 0)).heap M.next=some (.row [St L.g,St L.n,v,St L.v,N .i64 k] false TL 0):=RM.bg _
 have n1:(M.push (.row [St L.g,St L.n,v,St L.v,N .i64 k] false TL 0)).next=M.next + 1:=dL _
 generalize M.push (.row [St L.g,St L.n,v,St L.v,N .i64 k] false TL 0)=M1 at *
 have hk:∀ {M' : RM},ag [] M1 M'→M'.base=B∧M'.heap M.next=some (.row [St L.g,St L.n,v,St L.v,N .i64 k] false TL 0):=fun k'=>⟨(k'.base.trans k1.base).trans hM,k'.aS h1 (by omega) (by simp)⟩
 rw[bn,aB h1 rfl,ll]
 refine PK (p:=!fq f L.g) (P:=fun M'=>ag [] M1 M') (ag.refl _ _) (fun _ kk hkk=>?_) (fun M2 k2=>?_)
 ·rw[bn,aB h1 rfl]
  refine hn (k1.base.trans hM) hb.g fun M' k'=>?_
  rw[dD]
  exact hkk _ k'
 refine Lt (p:=!fq f L.n) (P:=fun M'=>ag [] M1 M') k2 (fun _ kk hkk=>?_) (fun M3 k3=>?_)
 ·rw[bn,aB (hk k2).2 rfl]
  refine hn (hk k2).1 hb.n fun M' k'=>?_
  rw[dD]
  exact hkk _ (k2.trans k')
 refine Lt (p:=!eB [] L.v) (P:=fun M'=>ag [] M1 M') k3 (fun _ kk hkk=>?_) (fun M4 k4=>?_)
 ·rw[bn,aB (hk k3).2 rfl]
  refine hv (hk k3).1 hb.v fun M' k'=>?_
  rw[dD]
  exact hkk _ (k3.trans k')
 unfold jL at hQ
 refine dI (fun hcnd=>?_) (fun hcnd=>?_)
 ·rw[hcnd,Bool.not_true,Bool.false_and] at hQ
  exact hQ _ (k1.trans k4)
 rw[hcnd,Bool.not_false,Bool.true_and] at hQ
 have LF:bT jV M4 v L.ps S:=(hps.keep k1 (by simp)).keep k4 (by simp)
 rw[bn,aB (hk k4).2 rfl,LF.len]
 refine bL (fun m ys M'=>∃ i:Nat,m=L.ps.length - i∧ys=[N .i64 (i:Int)]∧i≤L.ps.length∧ag [] M1 M'∧(L.ps.drop i).all (jK f)=L.ps.all (jK f)) L.ps.length ⟨0,rfl,rfl,Nat.zero_le _,k4,rfl⟩ ?_
 rintro next m ys M5 hnext ⟨i,rfl,rfl,hi,k5,hh⟩
 dsimp only[aj]
 rw[FX]
 have hpl:=hb.ps
 refine dI (fun hlt=>?_) (fun hge=>?_)
 ·have hlt:i<L.ps.length:=of_decide_eq_true hlt
  have Mf:bT jV M5 v L.ps S:=(hps.keep k1 (by simp)).keep k5 (by simp)
  obtain⟨pv,hpv,hall⟩:=Hy Mf hlt
  have hmem:=List.getElem_mem hlt
  have b1:=hb.pn _ hmem
  have b2:=hb.pl _ hmem
  have b3:=hb.pv _ hmem
  rw[List.drop_eq_getElem_cons hlt,List.all_cons] at hh
  generalize L.ps[i]=p at *
  rw[hall,bJ,iC (n:=2) (RM.bg _) rfl rfl (by simp[iP,AV.cells,hpv.one])]
  have k6:ag [] M5 ((M5.push (.row [St [],aR] false TP 0)).put M5.next (.row (AV.agg [St p.1,pv]).cells false TP 0)):=((ag.refl _ _).push _).put _ (.inl (Nat.le_refl _))
  have h6:((M5.push (.row [St [],aR] false TP 0)).put M5.next (.row (AV.agg [St p.1,pv]).cells false TP 0)).heap M5.next=some (.row [St p.1,pv] false TP 0):=bf _
  have n6:((M5.push (.row [St [],aR] false TP 0)).put M5.next (.row (AV.agg [St p.1,pv]).cells false TP 0)).next=M5.next + 1:=rfl
  generalize (M5.push (.row [St [],aR] false TP 0)).put M5.next (.row (AV.agg [St p.1,pv]).cells false TP 0)=M6 at *
  have k56:=k5.trans k6
  have Rp:bT fU.kL M6 pv p.2 S:=hpv.keep k6 (by simp)
  rw[bn,aB h6 rfl]
  refine hn (hk k56).1 b1 fun M7 k7=>?_
  rw[dD]
  have h7:=k7.aS h6 (by omega) (by simp)
  have Oz:=Rp.keep k7 (by simp)
  have k57:=k56.trans k7
  refine Jq (p:=decide (p.2.length=0)) (fun _ kk hkk=>?_) ?_
  ·rw[bn,aB h7 rfl,Oz.len,show(N .i64 (0:Int))=N .i64 ((0:Nat) : Int) from rfl,QM]
   exact hkk
  refine Lt (p:=p.2.any lS) (P:=fun M'=>ag [] M1 M') k57 (fun _ kk hkk=>?_) (fun M8 k8=>?_)
  ·rw[bn,aB h7 rfl]
   refine hc (hk k57).1 Oz.sl b2 b3 fun M' k'=>?_
   exact hkk _ (k57.trans k')
  refine dI (fun hc=>?_) (fun hc=>?_)
  ·have:jK f p=false:=by unfold jK; rw[hc]; rfl
   rw[this,Bool.false_and] at hh
   rw[← hh] at hQ
   exact hQ _ (k1.trans k8)
  ·have:jK f p=true:=by unfold jK; rw[hc]; rfl
   rw[this,Bool.true_and] at hh
   rw[add1 (by omega)]
   exact hnext _ _ _ (by omega) ⟨i + 1,rfl,rfl,by omega,k8,hh⟩
 ·have he:i=L.ps.length:=by
   have:¬ i<L.ps.length:=of_decide_eq_false hge
   omega
  subst he
  rw[List.drop_length] at hh
  rw[← hh] at hQ
  exact hQ _ (k1.trans k5)
end
def qv (v:List UInt8) : List UInt8:=if xM v then[34]++v++[34] else v
def tailV (vs:List (List UInt8)) : List UInt8:=vs.flatMap fun v=>44 :: qv v
def fw:List (List UInt8)→List UInt8
 | []=>[]
 | v :: vs=>qv v++tailV vs
def dw (p:jJ) : List UInt8:=[59]++p.1.map ek++[61]++fw p.2
def mo (L:Ln) : List UInt8:=if L.g=[] then[] else L.g++[46]
def oM (L:Ln) : List UInt8:=L.n.map ek++L.ps.flatMap dw
def aY (L:Ln) : List UInt8:=mo L++oM L++[58]++L.v
def uJ (j:Nat) (vs:List (List UInt8)) : List UInt8:=if j=0 then fw vs else tailV (vs.drop j)
theorem JI {vs:List (List UInt8)} {j:Nat} (hj:j<vs.length) : uJ j vs=(if 0<j then[44] else[])++(qv vs[j]++uJ (j + 1) vs):=by
 unfold uJ
 rw[if_neg (by omega:¬ j + 1=0)]
 by_cases h:j=0
 ·subst h
  rw[if_pos rfl,if_neg (by omega)]
  cases vs with
  | nil=>simp at hj
  | cons v vs=>simp[fw]
 ·rw[if_neg h,if_pos (by omega),List.drop_eq_getElem_cons hj]
  unfold tailV
  rw[List.flatMap_cons]
  rfl
theorem Kt (vs:List (List UInt8)) : uJ vs.length vs=[]:=by
 unfold uJ
 cases vs with
 | nil=>rfl
 | cons v vs=>rw[if_neg (by simp),List.drop_length]; rfl
theorem KP {α:Type} {a b c:List α} (h:a++b=c) : a.length + b.length=c.length:=by rw[← h,List.length_append]
theorem bT.old {α:Type} {R:jY α} {M A C:RM} {v:AV} {xs:List α} {S:Nat→Prop} (h:bT R A v xs S) (hS:∀ b,S b→b<M.next) (kA:ag [] M A) (kC:ag [] M C) (n:A.next≤C.next) : bT R C v xs S:=by
 have hk:ag ((List.range A.next).filter fun c=>decide (M.next≤c)) A C:=⟨kC.base.trans kA.base.symm,n,fun c h1 h2=>by
  have h3:c<M.next:=by
   rcases Nat.lt_or_ge c M.next with h | h
   ·exact h
   ·exact absurd (List.mem_filter.2 ⟨List.mem_range.2 h1,decide_eq_true h⟩) h2
  rw[kC.heap c h3 (by simp),kA.heap c h3 (by simp)]⟩
 refine h.keep hk fun b hb hs=>?_
 have h1:=hS b hs
 have h2:=of_decide_eq_true (List.mem_filter.1 hb).2
 omega
structure sJ (TB T8 TL:Nat) (M:RM) (cells:List AV) (M' : RM) (xs:List UInt8) : Prop where
 bld:lG TB T8 (M.next + 2) M' (M.next + 1) xs
 keep:ag [] M M'
 row:M'.heap M.next=some (.row cells false TL 0)
 nx:M.next + 2≤M'.next
section
variable {TB T8 TL:Nat} {M M' M2:RM} {cells:List AV} {xs ys:List UInt8}
theorem sJ.more (h:sJ TB T8 TL M cells M' xs) (k:ag [] M' M2) : sJ TB T8 TL M cells M2 xs :=
 ⟨h.bld.keep k,h.keep.trans k,k.aS h.row (by have:=h.nx; omega) (by simp),Nat.le_trans h.nx k.next⟩
theorem sJ.write (h:sJ TB T8 TL M cells M' xs) (hb:lG TB T8 (M.next + 2) M2 (M.next + 1) ys) (k:yX (M.next + 2) (M.next + 1) M' M2) : sJ TB T8 TL M cells M2 ys :=
 ⟨hb,yX.keep h.keep k (by omega) (by omega),k.shut _ _ _ _ (by have:=h.nx; omega) (by omega) h.row,Nat.le_trans h.nx k.next⟩
end
section
variable {B:Base}
def Iy (B:Base) (c:ah) : Prop:=∀ {M:RM} {cs:List AV} {L:Ln} {k:Int} {S:Nat→Prop} {Q:af},M.base=B→iX.rel M cs (L,k) S→LB 1000000000 L→(aY L).length≤140737488355328→(∀ M',ag [] M M'→Q (St (aY L)) M')→c [.agg cs] M Q
theorem Kc {TL TB TP T8:Nat} {cw cg cb ca cs:ah} (hw:pz TB T8 cw) (hg:Fv cg) (hb:uz TB T8 cb) (ha:Ms B ca) (hs:yH TB T8 cs) : Iy B fun args M Q=>∃ a0,args=[a0]∧qA TL TB cw cg TP cb ca cs a0 M Q:=by
 intro M cs L k S Q hM hrel hB hlen hQ
 obtain⟨v,rfl,hps⟩:=hrel
 simp only at hps
 refine⟨_,rfl, ?_⟩
 unfold qA
 simp only[gB]
 have hall:([St L.g,St L.n,v,St L.v,N .i64 k] : List AV).all oneCell=true:=by simp[iP,hps.one]
 rw[lu hall (by simp),bJ,bJ]
 have st0:sJ TB T8 TL M [St L.g,St L.n,v,St L.v,N .i64 k] ((M.push (.row [St L.g,St L.n,v,St L.v,N .i64 k] false TL 0)).push (.row [.sc (.pointer none),aR] false TB 0)) [] :=
  ⟨lG.new (RM.bg _) (by omega) (by rw[dL,dL]; omega),((ag.refl _ _).push _).push _,iL (RM.bg _) (by rw[dL]; omega),by rw[dL,dL]; omega⟩
 rw[dL]
 generalize (M.push (.row [St L.g,St L.n,v,St L.v,N .i64 k] false TL 0)).push (.row [.sc (.pointer none),aR] false TB 0)=M1 at *
 have hbase:∀ {M' : RM},ag [] M M'→M'.base=B:=fun h=>h.base.trans hM
 have hW:(aY L).length=(mo L).length + ((L.n.map ek).length + (L.ps.flatMap dw).length) + 1 + L.v.length:=by
  unfold aY oM; simp only[List.length_append,List.length_cons,List.length_nil]
 refine gz (fun _ M'=>sJ TB T8 TL M [St L.g,St L.n,v,St L.v,N .i64 k] M' (mo L)) ?_ ?_
 rotate_left
 ·intro J hJ
  rw[bn,aB st0.row rfl,ll]
  refine dI (fun hc=>?_) (fun hc=>?_)
  ·have hne:L.g≠[]:=by simpa using hc
   have hgl:=hB.g
   have hgj:mo L=L.g++[46]:=if_neg hne
   rw[bn,aB st0.row rfl,gN]
   refine⟨by simp; omega, ?_⟩
   refine hw st0.bld (by simp; omega) fun M2 b2 k2=>?_
   refine hJ _ _ ?_
   rw[hgj]
   exact st0.write b2 k2
  ·have he:L.g=[]:=by simpa using hc
   refine hJ _ _ ?_
   have hgj:mo L=[]:=if_pos he
   rw[hgj]
   exact st0
 clear st0
 clear M1
 rintro _ M2 st2
 rw[bn,aB st2.row rfl]
 refine hg hB.n fun M3 k3=>?_
 have st3:=st2.more k3
 refine hw st3.bld (by omega) fun M4 b4 k4=>?_
 have st4:=st3.write b4 k4
 clear st2 st3 b4 k4 k3
 have LF:bT jV M4 v L.ps S:=hps.keep st4.keep (by simp)
 rw[bn,aB st4.row rfl,LF.len]
 generalize hWd:mo L++oM L=W
 have hWl:W.length=(mo L).length + ((L.n.map ek).length + (L.ps.flatMap dw).length):=by
  rw[← hWd]; unfold oM; simp only[List.length_append]
 have hpsl:=hB.ps
 refine bL (fun m ys M5=>∃ (i:Nat) (xs:List UInt8),m=L.ps.length - i∧ys=[N .i64 (i:Int)]∧i≤L.ps.length∧sJ TB T8 TL M [St L.g,St L.n,v,St L.v,N .i64 k] M5 xs∧xs++(L.ps.drop i).flatMap dw=W) L.ps.length
  ⟨0,_,rfl,rfl,Nat.zero_le _,st4,by rw[← hWd]; unfold oM; rw[List.drop_zero,List.append_assoc]⟩ ?_
 rintro next m ys M5 hnext ⟨i,xs,rfl,rfl,hi,st5,hx⟩
 dsimp only[aj]
 rw[FX]
 refine dI (fun hlt=>?_) (fun hge=>?_)
 ·have hlt:i<L.ps.length:=of_decide_eq_true hlt
  have Mf:bT jV M5 v L.ps (fun b=>S b∧b<M.next):=hps.lt.keep st5.keep (by simp)
  obtain⟨pv,hpv,hall⟩:=Hy Mf hlt
  have hmem:=List.getElem_mem hlt
  have b1:=hB.pn _ hmem
  have b2:=hB.pl _ hmem
  have b3:=hB.pv _ hmem
  rw[List.drop_eq_getElem_cons hlt,List.flatMap_cons] at hx
  generalize L.ps[i]=p at *
  rw[hall,bJ,iC (n:=2) (RM.bg _) rfl rfl (by simp[iP,AV.cells,hpv.one])]
  have k6:ag [] M5 ((M5.push (.row [St [],aR] false TP 0)).put M5.next (.row (AV.agg [St p.1,pv]).cells false TP 0)):=((ag.refl _ _).push _).put _ (.inl (Nat.le_refl _))
  have h6:((M5.push (.row [St [],aR] false TP 0)).put M5.next (.row (AV.agg [St p.1,pv]).cells false TP 0)).heap M5.next=some (.row [St p.1,pv] false TP 0):=bf _
  have n6:((M5.push (.row [St [],aR] false TP 0)).put M5.next (.row (AV.agg [St p.1,pv]).cells false TP 0)).next=M5.next + 1:=rfl
  generalize (M5.push (.row [St [],aR] false TP 0)).put M5.next (.row (AV.agg [St p.1,pv]).cells false TP 0)=M6 at *
  have st6:=st5.more k6
  have nx5:=st5.nx
  have hpj:dw p=[59]++p.1.map ek++[61]++fw p.2:=rfl
  have hxl:=KP hx
  rw[hpj] at hxl
  simp only[List.length_append,List.length_cons,List.length_nil] at hxl
  rw[bn,aB h6 rfl]
  refine hg b1 fun M7 k7=>?_
  have st7:=st6.more k7
  have h7:=k7.aS h6 (by omega) (by simp)
  have n7:=k7.next
  rw[gN]
  refine⟨by simp; omega, ?_⟩
  rw[gN]
  refine⟨by simp; omega, ?_⟩
  refine hw st7.bld (by simp only[List.length_append,List.length_cons,List.length_nil]; omega) fun M8 b8 k8=>?_
  have st8:=st7.write b8 k8
  have h8:=k8.shut _ _ _ _ (by omega) (by omega) h7
  have OZ:bT fU.kL M8 pv p.2 (fun b=>S b∧b<M.next):=bT.old hpv (fun b h=>h.2) st5.keep st8.keep (by have:=k6.next; have:=k8.next; omega)
  rw[bn,aB h8 rfl,OZ.len]
  generalize hrest:(L.ps.drop (i + 1)).flatMap dw=rest at *
  refine bL (fun m ys M9=>∃ (j:Nat) (zs:List UInt8),m=p.2.length - j∧ys=[N .i64 (j:Int)]∧j≤p.2.length∧sJ TB T8 TL M [St L.g,St L.n,v,St L.v,N .i64 k] M9 zs∧M8.next≤M9.next∧zs++(uJ j p.2++rest)=W) p.2.length
   ⟨0,_,rfl,rfl,Nat.zero_le _,st8,Nat.le_refl _, ?_⟩ ?_
  ·rw[← hx,hpj]
   simp only[List.append_assoc,uJ,if_true]
  rintro Nh m ys M9 vP ⟨j,zs,rfl,rfl,hj,st9,n9,hz⟩
  dsimp only[aj]
  rw[FX]
  refine dI (fun hlt2=>?_) (fun Gi=>?_)
  ·have hlt2:j<p.2.length:=of_decide_eq_true hlt2
   have Rj:bT fU.kL M9 pv p.2 (fun b=>S b∧b<M.next):=bT.old OZ (fun b h=>h.2) st8.keep st9.keep n9
   rw[JI hlt2] at hz
   have b4:=b3 _ (List.getElem_mem hlt2)
   have hzl:=KP hz
   simp only[List.length_append] at hzl
   refine gz (fun _ M'=>sJ TB T8 TL M [St L.g,St L.n,v,St L.v,N .i64 k] M' (zs++((if 0<j then[44] else[])++qv p.2[j]))∧M9.next≤M'.next) ?_ ?_
   ·rintro _ Ma ⟨sta,na⟩
    rw[add1 (by omega)]
    refine vP _ _ _ (by omega) ⟨j + 1,_,rfl,rfl,by omega,sta,by omega, ?_⟩
    rw[← hz]
    simp only[List.append_assoc]
   intro J hJ
   rw[FN Rj.sl hlt2]
   generalize p.2[j]=x at *
   refine gz (fun _ M'=>sJ TB T8 TL M [St L.g,St L.n,v,St L.v,N .i64 k] M' (zs++(if 0<j then[44] else[]))∧M9.next≤M'.next) ?_ ?_
   ·rintro _ Ma ⟨sta,na⟩
    refine gz (fun ys M'=>ys=[St (qv x)]∧sJ TB T8 TL M [St L.g,St L.n,v,St L.v,N .i64 k] M' (zs++(if 0<j then[44] else[]))∧M9.next≤M'.next) ?_ ?_
    ·rintro _ Mb ⟨rfl,stb,nb⟩
     dsimp only[aj]
     refine hw stb.bld (by rw[List.length_append]; omega) fun Mc bc kc=>?_
     refine hJ _ _ ⟨?_,Nat.le_trans nb kc.next⟩
     rw[← List.append_assoc]
     exact stb.write bc kc
    intro J2 hJ2
    refine ha (hbase sta.keep) b4 fun Mb kb=>?_
    have stb:=sta.more kb
    have nb:=Nat.le_trans na kb.next
    refine dI (fun hh=>?_) (fun hh=>?_)
    ·rw[gN]
     refine⟨by simp; omega, ?_⟩
     rw[gN]
     refine⟨by simp; omega, ?_⟩
     exact hJ2 _ _ ⟨by rw[qv,if_pos hh],stb,nb⟩
    ·exact hJ2 _ _ ⟨by rw[qv,if_neg (by rw[hh]; simp)],stb,nb⟩
   intro J2 hJ2
   rw[show(N .i64 (0:Int))=N .i64 ((0:Nat) : Int) from rfl,JE]
   refine dI (fun hh=>?_) (fun hh=>?_)
   ·have hh:0<j:=of_decide_eq_true hh
    rw[if_pos hh] at hzl hJ2
    simp only[List.length_cons,List.length_nil] at hzl
    show cb [.ptr (M.next + 1) 0,By 44] M9 _
    refine hb st9.bld (by omega) fun Mb bb kb=>?_
    refine hJ2 _ _ ⟨?_,kb.next⟩
    exact st9.write bb kb
   ·have hh:¬ 0<j:=of_decide_eq_false hh
    refine hJ2 _ _ ⟨?_,Nat.le_refl _⟩
    rw[if_neg hh,List.append_nil]; exact st9
  ·have he:j=p.2.length:=by
    have:¬ j<p.2.length:=of_decide_eq_false Gi
    omega
   subst he
   rw[Kt,List.nil_append] at hz
   rw[add1 (by omega)]
   exact hnext _ _ _ (by omega) ⟨i + 1,zs,rfl,rfl,by omega,st9,by rw[hrest]; exact hz⟩
 ·have he:i=L.ps.length:=by
   have:¬ i<L.ps.length:=of_decide_eq_false hge
   omega
  subst he
  rw[List.drop_length,List.flatMap_nil,List.append_nil] at hx
  subst hx
  rw[bn,aB st5.row rfl]
  refine hs st5.bld (by omega) fun M6 k6=>?_
  have h6:M6.heap M.next=some (.row [St L.g,St L.n,v,St L.v,N .i64 k] false TL 0):=by rw[k6.heap _ (by omega) (by simp)]; exact st5.row
  rw[aB h6 rfl]
  refine⟨rfl, ?_⟩
  rw[gN]
  refine⟨by simp; omega, ?_⟩
  rw[gN]
  refine⟨by simp; omega, ?_⟩
  have kk:ag [] M M6:=⟨k6.base.trans st5.keep.base,Nat.le_trans st5.keep.next k6.next,fun c h1 _=>by rw[k6.heap c (by omega) (by simp)]; exact st5.keep.heap c h1 (by simp)⟩
  have:=hQ M6 kk
  unfold aY at this
  rw[hWd] at this
  exact this
end
def wP (f:List UInt8→List UInt8) (L:Ln) : List UInt8 × Int:=if jL f L then(if 912<(aY L).length then([],2) else(fo 0 (aY L)++[13,10],0)) else([],1)
section
variable {B:Base}
def Gf (B:Base) (F:Ln→List UInt8 × Int) (c:ah) : Prop:=∀ {M:RM} {cs:List AV} {L:Ln} {k:Int} {S:Nat→Prop} {Q:af},M.base=B→iX.rel M cs (L,k) S→LB 1000000000 L→(aY L).length≤140737488355328→(∀ M',ag [] M M'→Q (.tup [St (F L).1,N .i64 (F L).2]) M')→c [.agg cs] M Q
theorem MZ (s:List UInt8) : (fo 0 s).length≤4 * s.length + 4:=by
 have:=BX s.length (u:=0) (s:=s) (Nat.le_refl _)
 omega
theorem Jw {f:List UInt8→List UInt8} {TL:Nat} {cg cl cf:ah} (hg:Gc B f cg) (hl:Iy B cl) (hf:J4 B cf) : Gf B (wP f) fun args M Q=>∃ a0,args=[a0]∧ol TL cg cl cf a0 M Q:=by
 intro M cs L k S Q hM hrel hB hlen hQ
 refine⟨_,rfl, ?_⟩
 unfold ol
 have hsz:cs.length=5:=iX.len hrel
 rw[lu (iX.one hrel) (by omega),bJ]
 have k1:ag [] M (M.push (.row cs false TL 0)):=(ag.refl _ _).push _
 have h1:(M.push (.row cs false TL 0)).heap M.next=some (.row cs false TL 0):=RM.bg _
 have n1:(M.push (.row cs false TL 0)).next=M.next + 1:=dL _
 generalize M.push (.row cs false TL 0)=M1 at *
 unfold wP at hQ
 rw[fV (n:=5) h1 hsz]
 refine hg (k1.base.trans hM) (iX.keep hrel k1 (by simp)) hB fun M2 k2=>?_
 have k12:=k1.trans k2
 have h2:=k2.aS h1 (by omega) (by simp)
 rw[dD]
 refine dI (fun hc=>?_) (fun hc=>?_)
 ·have hc:jL f L=false:=by simpa using hc
  rw[if_neg (by rw[hc]; simp)] at hQ
  exact hQ M2 k12
 have hc:jL f L=true:=by simpa using hc
 rw[if_pos hc] at hQ
 rw[fV (n:=5) h2 hsz]
 refine hl (k12.base.trans hM) (iX.keep hrel k12 (by simp)) hB hlen fun M3 k3=>?_
 have k13:=k12.trans k3
 rw[dY,show(N .i64 (912:Int))=N .i64 ((912:Nat) : Int) from rfl,JE]
 refine dI (fun hc=>?_) (fun hc=>?_)
 ·rw[if_pos (of_decide_eq_true hc)] at hQ
  exact hQ M3 k13
 have hc:=of_decide_eq_false hc
 rw[if_neg (by omega)] at hQ
 refine hf (k13.base.trans hM) (by omega) fun M4 k4=>?_
 rw[gN]
 have:=MZ (aY L)
 exact⟨by simp; omega,hQ M4 (k13.trans k4)⟩
end
end Go.Ab.Vl
namespace Go.Ab.Vl
open Go Go.Ab
theorem gZ {α:Type} {p:α→Bool} : ∀ {s:List α},s.dropWhile p=[]→∀ x∈s,p x=true
 | [],_,x,hx=>by cases hx
 | c :: s,h,x,hx=>by
   rw[List.dropWhile_cons] at h
   split at h
   ·rename_i hc
    rcases List.mem_cons.1 hx with rfl | hx
    ·exact hc
    ·exact gZ h x hx
   ·cases h
theorem mG {α:Type} {p:α→Bool} : ∀ {s t:List α} {y:α},s.dropWhile p=y :: t→p y=false
 | [],_,_,h=>by cases h
 | c :: s,t,y,h=>by
   rw[List.dropWhile_cons] at h
   split at h
   ·exact mG h
   ·rename_i hc
    cases h; simpa using hc
theorem L8 {s:List UInt8} (h:gL s=[]) : ∀ c∈s,bP.contains c=true:=by
 unfold gL Lib.trimS at h
 by_cases hr:s.reverse.dropWhile (bP.contains ·)=[]
 ·exact fun c hc=>gZ hr c (by simpa using hc)
 ·exfalso
  obtain⟨y,t,e⟩ : ∃ y t,s.reverse.dropWhile (bP.contains ·)=y :: t:=by
   cases hd:s.reverse.dropWhile (bP.contains ·) with
   | nil=>exact absurd hd hr
   | cons y t=>exact⟨y,t,rfl⟩
  have hy:bP.contains y=false:=mG e
  have h1:Lib.trimLeftS (Lib.trimRightS s bP) bP=[]∨Lib.trimRightS (Lib.trimLeftS s bP) bP=[]:=by
   first | exact .inl h | exact .inr h
  rcases h1 with h1 | h1
  ·have:=gZ h1 y (by unfold Lib.trimRightS; rw[e]; simp)
   rw[hy] at this; cases this
  ·unfold Lib.trimRightS at h1
   have h1:=List.reverse_eq_nil_iff.1 h1
   have h2:=gZ h1
   unfold Lib.trimLeftS at h2
   by_cases hl:s.dropWhile (bP.contains ·)=[]
   ·have:=gZ hl y
    have hm:y∈s:=by
     have:y∈s.reverse.dropWhile (bP.contains ·):=by rw[e]; simp
     simpa using (List.dropWhile_sublist _).subset this
    rw[gZ hl y hm] at hy; cases hy
   ·cases hd:s.dropWhile (bP.contains ·) with
    | nil=>exact hl hd
    | cons z u =>
      have h3:=h2 z (by rw[hd]; simp)
      rw[mG hd] at h3; cases h3
theorem il {s:List UInt8} (h:fq gL s=true) : 1≤s.length∧s.length≤20∧∀ c∈s,bP.contains c=true:=by
 unfold fq at h
 simp only[Bool.and_eq_true,decide_eq_true_eq,beq_iff_eq] at h
 exact⟨h.1.1,h.1.2,L8 h.2⟩
theorem gD (c:UInt8) (h:bP.contains c=true) : mr c=true∧mr (ek c)=true∧bX c=c∧bX (ek c)=c∧c.toNat<128∧(ek c).toNat<128∧bG (ek c)=true∧bG c=true:=by
 have key:∀ n:Fin 256,bP.contains (UInt8.ofNat n.val)=true→mr (UInt8.ofNat n.val)=true∧mr (ek (UInt8.ofNat n.val))=true∧bX (UInt8.ofNat n.val)=UInt8.ofNat n.val∧bX (ek (UInt8.ofNat n.val))=UInt8.ofNat n.val∧(UInt8.ofNat n.val).toNat<128∧(ek (UInt8.ofNat n.val)).toNat<128∧bG (ek (UInt8.ofNat n.val))=true∧bG (UInt8.ofNat n.val)=true:=by decide +kernel
 have:=key ⟨c.toNat,c.toNat_lt⟩
 simp only[UInt8.ofNat_toNat] at this
 exact this h
theorem E5 {a b:List UInt8} (ha:∀ x∈a,mr x=true) (hb:∀ x,b.head?=some x→mr x=false) : wn (a++b)=a.length:=by
 unfold wn; rw[(eO ha hb).1]
theorem Kq {n:List UInt8} (h:∀ c∈n,bP.contains c=true) : ∀ x∈n.map ek,mr x=true:=by
 intro x hx
 obtain⟨c,hc,rfl⟩:=List.mem_map.1 hx
 exact(gD c (h c hc)).2.1
theorem Ke {n:List UInt8} (h:∀ c∈n,bP.contains c=true) : (n.map ek).map bX=n:=by
 rw[List.map_map]
 conv=>rhs; rw[← List.map_id n]
 exact List.map_congr_left fun c hc=>(gD c (h c hc)).2.2.2.1
theorem MG {n:List UInt8} (h:∀ c∈n,bP.contains c=true) : n.map bX=n:=by
 conv=>rhs; rw[← List.map_id n]
 exact List.map_congr_left fun c hc=>(gD c (h c hc)).2.2.1
theorem CY {s:List UInt8} (h1:1≤s.length) (h2:s.length≤20) : bad s.length=false:=by
 unfold bad
 rw[decide_eq_false (by omega),decide_eq_false (by omega)]; rfl
theorem Aj {v:List UInt8} (h:lS v=false) : (∀ c∈v,bG c=true∧c≠34)∧bZ v=true:=by
 unfold lS eB at h
 simp only[Bool.not_eq_false',Bool.and_eq_true,List.all_eq_true] at h
 refine⟨fun c hc=>?_,h.2⟩
 have:=h.1 c hc
 unfold okB at this
 simp only[Bool.and_eq_true,Bool.not_eq_true',decide_eq_false_iff_not,List.mem_singleton] at this
 exact this
theorem LD {c:UInt8} (h:c∈fG) : c=44∨c=59∨c=58:=by simpa [fG] using h
theorem Ib {v R:List UInt8} (hv:lS v=false) {c:UInt8} {t:List UInt8} (hR:R=c :: t) (hc:c∈fG) : uE (qv v++R)=some (v,R):=by
 obtain⟨hp,_⟩:=Aj hv
 unfold uE qv
 cases hm:xM v with
 | true =>
   have e:[34]++v++[34]++R=34 :: (v++(34 :: R)):=by simp
   rw[if_pos rfl,e]
   have h1:=eO (p:=qx) (a:=v) (b:=34 :: R) (fun x hx=>by
    obtain⟨h1,h2⟩:=hp x hx
    unfold qx; rw[h1,Bool.and_true,bne_iff_ne]; exact h2) (fun x hx=>by
    simp only[List.head?_cons,Option.some.injEq] at hx
    subst hx; rfl)
   rw[if_pos (by rfl)]
   simp only[List.drop_succ_cons,List.drop_zero]
   rw[h1.1,h1.2,if_pos (by rfl)]
   rfl
 | false =>
   have e:(if false=true then[34]++v++[34] else v)=v:=if_neg (by simp)
   rw[e]
   have hnm:∀ x∈v,x ∉ fG:=by
    unfold xM at hm
    rw[List.any_eq_false] at hm
    exact fun x hx=>by simpa using hm x hx
   have h1:=eO (p:=qa) (a:=v) (b:=R) (fun x hx=>by
    obtain⟨h1,h2⟩:=hp x hx
    have h3:=hnm x hx
    simp only[fG,List.mem_cons,List.not_mem_nil,or_false,not_or] at h3
    unfold qa
    rw[h1]
    simp[h2,h3]) (fun x hx=>by
    rw[hR] at hx
    simp only[List.head?_cons,Option.some.injEq] at hx
    subst hx
    exact(BQ hc).2.2)
   have h34:aK 34 (v++R)=false:=by
    cases v with
    | nil =>
      rw[hR]
      rcases LD hc with rfl | rfl | rfl <;> rfl
    | cons x v =>
      have:=(hp x (by simp)).2
      simp[aK,this]
   rw[h34,if_neg (by simp),h1.1,h1.2]
theorem Ci:∀ (vs:List (List UInt8)) (v:List UInt8) (acc:List (List UInt8)) (k:Nat) {R:List UInt8} {c:UInt8} {t:List UInt8},lS v=false→(∀ w∈vs,lS w=false)→R=c :: t→(c=59∨c=58) →
  (qv v++(tailV vs++R)).length + 1≤k→o5 k (qv v++(tailV vs++R)) acc=some (acc++(v :: vs),R)
 | [],v,acc,k,R,c,t,hv,hvs,hR,hc,hk=>by
   obtain⟨i,rfl⟩ : ∃ i,k=i + 1:=⟨k - 1,by omega⟩
   have hcm:c∈fG:=by rcases hc with rfl | rfl <;> simp[fG]
   have e:tailV []++R=R:=rfl
   rw[e,o5,Ib hv hR hcm]
   have h44:aK 44 R=false:=by rw[hR]; rcases hc with rfl | rfl <;> rfl
   simp only[h44,Bool.false_eq_true,if_false]
 | w :: vs,v,acc,k,R,c,t,hv,hvs,hR,hc,hk=>by
   obtain⟨i,rfl⟩ : ∃ i,k=i + 1:=⟨k - 1,by omega⟩
   have e:tailV (w :: vs)++R=44 :: (qv w++(tailV vs++R)):=by simp[tailV]
   rw[e] at hk ⊢
   rw[o5,Ib hv rfl (by simp[fG])]
   simp only[show aK 44 (44 :: (qv w++(tailV vs++R)))=true from rfl,if_true,List.drop_succ_cons,List.drop_zero]
   rw[Ci vs w (acc++[v]) i (hvs w (by simp)) (fun x hx=>hvs x (by simp[hx])) hR hc (by simp only[List.length_append,List.length_cons] at hk ⊢; omega)]
   simp
theorem LK {vs:List (List UInt8)} (hne:vs≠[]) (hvs:∀ w∈vs,lS w=false) {R:List UInt8} {c:UInt8} {t:List UInt8} (hR:R=c :: t) (hc:c=59∨c=58) : Nr (fw vs++R)=some (vs,R):=by
 cases vs with
 | nil=>exact absurd rfl hne
 | cons v vs =>
   unfold Nr
   have e:fw (v :: vs)++R=qv v++(tailV vs++R):=by simp[fw]
   rw[e,Ci vs v [] _ (hvs v (by simp)) (fun x hx=>hvs x (by simp[hx])) hR hc (Nat.le_refl _)]
   rfl
theorem vZ {p:jJ} (h:jK gL p=true) : fq gL p.1=true∧p.2≠[]∧∀ v∈p.2,lS v=false:=by
 unfold jK at h
 simp only[Bool.not_eq_true',Bool.or_eq_false_iff,decide_eq_false_iff_not,Bool.not_eq_false'] at h
 refine⟨h.1.1,fun e=>h.1.2 (by rw[e]; rfl),fun v hv=>?_⟩
 have:=h.2
 rw[List.any_eq_false] at this
 simpa using this v hv
theorem DL {ps:List jJ} {Y:List UInt8} (hY:∃ t,Y=58 :: t) : ∃ c t,ps.flatMap dw++Y=c :: t∧(c=59∨c=58):=by
 cases ps with
 | nil=>obtain⟨t,rfl⟩:=hY; exact⟨58,t,rfl,.inr rfl⟩
 | cons p ps=>exact⟨59,p.1.map ek++61 :: (fw p.2++(ps.flatMap dw++Y)),by simp[dw],.inl rfl⟩
theorem BH:∀ (ps:List jJ) (acc:List jJ) (k:Nat) {Y:List UInt8},(∀ p∈ps,jK gL p=true)→(∃ t,Y=58 :: t)→(ps.flatMap dw++Y).length + 1≤k→nC k (ps.flatMap dw++Y) acc=some (acc++ps,Y)
 | [],acc,k,Y,hp,hY,hk=>by
   obtain⟨i,rfl⟩ : ∃ i,k=i + 1:=⟨k - 1,by omega⟩
   obtain⟨t,rfl⟩:=hY
   rw[List.flatMap_nil,List.nil_append,nC]
   rw[if_neg (by show ¬ (aK 59 (58 :: t))=true; simp[aK])]
   simp
 | p :: ps,acc,k,Y,hp,hY,hk=>by
   obtain⟨i,rfl⟩ : ∃ i,k=i + 1:=⟨k - 1,by omega⟩
   obtain⟨hn,hne,hvs⟩:=vZ (hp p (by simp))
   obtain⟨g1,g2,g3⟩:=il hn
   obtain⟨c,t,hR,hc⟩:=DL (ps:=ps) hY
   have e:(p :: ps).flatMap dw++Y=59 :: (p.1.map ek++(61 :: (fw p.2++(ps.flatMap dw++Y)))):=by simp[dw]
   rw[e] at hk ⊢
   generalize hRe:ps.flatMap dw++Y=R at *
   have hw:wn (p.1.map ek++(61 :: (fw p.2++R)))=p.1.length:=by
    rw[E5 (Kq g3) (fun x hx=>by simp only[List.head?_cons,Option.some.injEq] at hx; subst hx; rfl),List.length_map]
   have hd:(p.1.map ek++(61 :: (fw p.2++R))).drop p.1.length=61 :: (fw p.2++R):=by
    rw[List.drop_left' (by simp)]
   have hd2:(p.1.map ek++(61 :: (fw p.2++R))).drop (p.1.length + 1)=fw p.2++R:=by
    rw[← List.drop_drop,hd]; rfl
   have hl:uH p.1.length (p.1.map ek++(61 :: (fw p.2++R)))=p.1:=by
    unfold uH
    rw[List.take_left' (by simp),Ke g3]
   rw[nC,if_pos (by rfl)]
   simp only[List.drop_succ_cons,List.drop_zero]
   rw[hw,CY g1 g2,if_neg (by simp),hd,if_pos (by rfl),hd2,LK hne hvs hR hc,hl]
   simp only
   rw[← hRe,BH ps _ i (fun q hq=>hp q (by simp[hq])) hY (by rw[hRe]; simp only[List.length_append,List.length_cons] at hk ⊢; omega)]
   simp
theorem vQ {L:Ln} (h:jL gL L=true) : (L.g=[]∨fq gL L.g=true)∧fq gL L.n=true∧(∀ c∈L.v,bG c=true)∧bZ L.v=true∧∀ p∈L.ps,jK gL p=true:=by
 unfold jL at h
 simp only[Bool.and_eq_true,Bool.not_eq_true',Bool.or_eq_false_iff,Bool.and_eq_false_iff,Bool.not_eq_false',bne_eq_false_iff_eq,List.all_eq_true] at h
 obtain⟨⟨⟨h1,h2⟩,h3⟩,h4⟩:=h
 unfold eB at h3
 simp only[Bool.and_eq_true,List.all_eq_true] at h3
 exact⟨h1,h2,fun c hc=>by have:=h3.1 c hc; rw[xZ] at this; exact this,h3.2,h4⟩
theorem dB {a:List UInt8} (h:∀ c∈a,c.toNat<128) : bZ a=true:=by
 have:=mU a [] h
 rw[List.append_nil,mQ] at this; exact this
theorem fT {a b:List UInt8} (ha:bZ a=true) (hb:bZ b=true) : bZ (a++b)=true:=Bw a.length (Nat.le_refl _) ha hb
theorem Km {v:List UInt8} (h:bZ v=true) : bZ (qv v)=true:=by
 unfold qv
 split
 ·exact fT (fT (dB (by decide)) h) (dB (by decide))
 ·exact h
theorem Dx:∀ {vs:List (List UInt8)},(∀ v∈vs,bZ v=true)→bZ (tailV vs)=true
 | [],_=>mQ
 | v :: vs,h=>by
   have e:tailV (v :: vs)=[44]++(qv v++tailV vs):=by simp[tailV]
   rw[e]
   exact fT (dB (by decide)) (fT (Km (h v (by simp))) (Dx fun w hw=>h w (by simp[hw])))
theorem Ku {vs:List (List UInt8)} (h:∀ v∈vs,bZ v=true) : bZ (fw vs)=true:=by
 cases vs with
 | nil=>exact mQ
 | cons v vs=>exact fT (Km (h v (by simp))) (Dx fun w hw=>h w (by simp[hw]))
theorem E8 {n:List UInt8} (h:∀ c∈n,bP.contains c=true) : ∀ x∈n.map ek,x.toNat<128:=by
 intro x hx
 obtain⟨c,hc,rfl⟩:=List.mem_map.1 hx
 exact(gD c (h c hc)).2.2.2.2.2.1
theorem LM {p:jJ} (h:jK gL p=true) : bZ (dw p)=true:=by
 obtain⟨hn,_,hvs⟩:=vZ h
 obtain⟨_,_,g3⟩:=il hn
 unfold dw
 exact fT (fT (fT (dB (by decide)) (dB (E8 g3))) (dB (by decide))) (Ku fun v hv=>(Aj (hvs v hv)).2)
theorem ED:∀ {ps:List jJ},(∀ p∈ps,jK gL p=true)→bZ (ps.flatMap dw)=true
 | [],_=>mQ
 | p :: ps,h=>by
   rw[List.flatMap_cons]
   exact fT (LM (h p (by simp))) (ED fun q hq=>h q (by simp[hq]))
theorem Mo {L:Ln} (h:jL gL L=true) : bZ (aY L)=true:=by
 obtain⟨h1,h2,h3,h4,h5⟩:=vQ h
 obtain⟨_,_,g3⟩:=il h2
 unfold aY oM
 refine fT (fT (fT ?_ (fT (dB (E8 g3)) (ED h5))) (dB (by decide))) h4
 unfold mo
 split
 ·exact mQ
 ·rename_i hne
  have hg:=h1.resolve_left hne
  exact fT (dB fun c hc=>(gD c ((il hg).2.2 c hc)).2.2.2.2.1) (dB (by decide))
theorem Mw {L:Ln} (h:jL gL L=true) : Kh (aY L)=some L:=by
 have hf:=Mo h
 obtain⟨h1,h2,h3,h4,h5⟩:=vQ h
 obtain⟨n1,n2,n3⟩:=il h2
 unfold Kh
 rw[hf,if_pos rfl]
 have hall:L.v.all bG=true:=by rw[List.all_eq_true]; exact h3
 obtain⟨c,t,hR,hc⟩:=DL (ps:=L.ps) (Y:=58 :: L.v) ⟨_,rfl⟩
 have hX:∀ x,(L.ps.flatMap dw++(58 :: L.v)).head?=some x→mr x=false:=by
  intro x hx
  rw[hR] at hx
  simp only[List.head?_cons,Option.some.injEq] at hx
  subst hx
  rcases hc with rfl | rfl <;> rfl
 have hwn:wn (L.n.map ek++(L.ps.flatMap dw++(58 :: L.v)))=L.n.length:=by rw[E5 (Kq n3) hX,List.length_map]
 have hdr:(L.n.map ek++(L.ps.flatMap dw++(58 :: L.v))).drop L.n.length=L.ps.flatMap dw++(58 :: L.v):=List.drop_left' (by simp)
 have tail:∀ g,Cj g (L.n.map ek++(L.ps.flatMap dw++(58 :: L.v)))=some ⟨g,L.n,L.ps,L.v⟩:=by
  intro g
  unfold Cj
  rw[hwn,CY n1 n2,if_neg (by simp),hdr,BH L.ps [] _ h5 ⟨_,rfl⟩ (Nat.le_refl _)]
  simp only[List.nil_append]
  rw[show aK 58 (58 :: L.v)=true from rfl,show(58 :: L.v).drop 1=L.v from rfl,hall,Bool.and_true,if_pos rfl]
  unfold uH
  rw[List.take_left' (by simp),Ke n3]
 have he:aY L=mo L++(L.n.map ek++(L.ps.flatMap dw++(58 :: L.v))):=by unfold aY oM; simp
 rw[he]
 by_cases hg:L.g=[]
 ·have hgj:mo L=[]:=if_pos hg
  rw[hgj,List.nil_append]
  unfold Ev
  have h46:aK 46 (L.ps.flatMap dw++(58 :: L.v))=false:=by rw[hR]; rcases hc with rfl | rfl <;> rfl
  rw[hwn,hdr,h46,if_neg (by simp)]
  simp only
  rw[tail,← hg]
 ·have hgn:=h1.resolve_left hg
  obtain⟨g1,g2,g3⟩:=il hgn
  have hgj:mo L=L.g++[46]:=if_neg hg
  rw[hgj,List.append_assoc,List.singleton_append]
  have hwg:wn (L.g++(46 :: (L.n.map ek++(L.ps.flatMap dw++(58 :: L.v)))))=L.g.length:=E5 (fun x hx=>(gD x (g3 x hx)).1) (fun x hx=>by simp only[List.head?_cons,Option.some.injEq] at hx; subst hx; rfl)
  have hd:(L.g++(46 :: (L.n.map ek++(L.ps.flatMap dw++(58 :: L.v))))).drop L.g.length=46 :: (L.n.map ek++(L.ps.flatMap dw++(58 :: L.v))):=List.drop_left' rfl
  have hd2:(L.g++(46 :: (L.n.map ek++(L.ps.flatMap dw++(58 :: L.v))))).drop (L.g.length + 1)=L.n.map ek++(L.ps.flatMap dw++(58 :: L.v)):=by rw[← List.drop_drop,hd]; rfl
  unfold Ev
  rw[hwg,hd,if_pos (by rfl),CY g1 g2,if_neg (by simp),hd2]
  simp only
  rw[tail]
  unfold uH
  rw[List.take_left' rfl,MG g3]
theorem nU {c:UInt8} (h:bG c=true) : c.toNat≠10∧c.toNat≠13:=by
 unfold bG at h
 simp only[Bool.or_eq_true,Bool.and_eq_true,decide_eq_true_eq] at h
 omega
theorem FH {v:List UInt8} (h:∀ c∈v,bG c=true) : ∀ c∈qv v,bG c=true:=by
 unfold qv
 split
 ·intro c hc
  simp only[List.mem_append,List.mem_singleton] at hc
  rcases hc with(rfl | hc) | rfl
  ·rfl
  ·exact h c hc
  ·rfl
 ·exact h
theorem zt:∀ {vs:List (List UInt8)},(∀ v∈vs,∀ c∈v,bG c=true)→∀ c∈tailV vs,bG c=true
 | [],_,c,hc=>by cases hc
 | v :: vs,h,c,hc=>by
   have e:tailV (v :: vs)=[44]++(qv v++tailV vs):=by simp[tailV]
   rw[e] at hc
   simp only[List.mem_append,List.mem_singleton] at hc
   rcases hc with rfl | hc | hc
   ·rfl
   ·exact FH (h v (by simp)) c hc
   ·exact zt (fun w hw=>h w (by simp[hw])) c hc
theorem Jv {p:jJ} (h:jK gL p=true) : ∀ c∈dw p,bG c=true:=by
 obtain⟨hn,_,hvs⟩:=vZ h
 obtain⟨_,_,g3⟩:=il hn
 have hv:∀ v∈p.2,∀ c∈v,bG c=true:=fun v hv c hc=>((Aj (hvs v hv)).1 c hc).1
 intro c hc
 unfold dw at hc
 simp only[List.mem_append,List.mem_singleton,List.mem_map] at hc
 rcases hc with((rfl | ⟨d,hd,rfl⟩) | rfl) | hc
 ·rfl
 ·exact(gD d (g3 d hd)).2.2.2.2.2.2.1
 ·rfl
 ·cases hp:p.2 with
  | nil=>rw[hp] at hc; cases hc
  | cons v vs =>
    rw[hp] at hc hv
    simp only[fw,List.mem_append] at hc
    rcases hc with hc | hc
    ·exact FH (hv v (by simp)) c hc
    ·exact zt (fun w hw=>hv w (by simp[hw])) c hc
theorem BG {L:Ln} (h:jL gL L=true) : ∀ c∈aY L,bG c=true:=by
 obtain⟨h1,h2,h3,h4,h5⟩:=vQ h
 obtain⟨_,_,g3⟩:=il h2
 intro c hc
 unfold aY oM at hc
 simp only[List.mem_append,List.mem_singleton,List.mem_flatMap,List.mem_map] at hc
 rcases hc with((hc | ⟨d,hd,rfl⟩ | ⟨p,hp,hc⟩) | rfl) | hc
 ·unfold mo at hc
  split at hc
  ·cases hc
  ·rename_i hne
   simp only[List.mem_append,List.mem_singleton] at hc
   rcases hc with hc | rfl
   ·exact(gD c ((il (h1.resolve_left hne)).2.2 c hc)).2.2.2.2.2.2.2
   ·rfl
 ·exact(gD d (g3 d hd)).2.2.2.2.2.2.1
 ·exact Jv (h5 p hp) c hc
 ·rfl
 ·exact h3 c hc
theorem NA (L:Ln) : aY L≠[]:=by unfold aY; simp
theorem OJ {t s:List UInt8} {L:Ln} (hg:(bq [] t).foldl glue []=[s]) (hne:s≠[]) (hl:s.length≤912) (hr:Kh s=some L) : ∃ k,u7 gL t=([(L,k)],0,0):=by
 have h1:=zR (bq [] t) [] [] 1
 have h2:=Ad (bq [] t) [] [] 1 rfl
 rw[hg] at h1
 rw[h1] at h2
 obtain⟨k,hk⟩ : ∃ k,(iF [] [] 1 (bq [] t)).2=[k]:=by
  cases hh:(iF [] [] 1 (bq [] t)).2 with
  | nil=>rw[hh] at h2; simp at h2
  | cons k ks =>
    rw[hh] at h2
    simp only[List.length_cons,List.length_nil] at h2
    have:ks=[]:=List.eq_nil_of_length_eq_zero (by omega)
    exact⟨k,by rw[this]⟩
 refine⟨k, ?_⟩
 unfold u7 Kv MM
 rw[h1,hk]
 simp only[List.zip_cons_cons,List.zip_nil_right]
 rw[jX,if_neg hne,if_neg (by omega),NJ,hr]
 rfl
theorem KI {L:Ln} (h:jL gL L=true) : lV (aY L):=fun c hc=>(nU (BG h c hc)).1
theorem JY {L:Ln} (h:jL gL L=true) : (bq [] (fo 0 (aY L)++[13,10])).foldl glue []=[aY L]:=EG _ (Nat.le_refl _) (KI h)
theorem MF {x:List UInt8} (h:∀ c∈x,c.toNat≠13) : strip x=x:=by
 unfold strip
 split
 ·rename_i e
  have:(13:UInt8)∈x:=List.mem_of_mem_drop (by rw[e]; simp)
  exact absurd rfl (h 13 this)
 ·rfl
theorem Lf {x:List UInt8} (h:∀ c∈x,c.toNat≠10) (h2:∀ c∈x,c.toNat≠13) (t:List UInt8) : bq [] (x++10 :: t)=x :: bq [] t:=by
 rw[CW h,List.nil_append]
 simp only[bq]
 rw[if_pos (by decide),MF h2]
theorem Ol {s:List UInt8} (h:∀ c∈s,bG c=true) {n:Nat} (h1:1≤n) (h2:n<s.length) (tab:Bool) :
  (bq [] (s.take n++(if tab then[10,9] else[13,10,32])++s.drop n++[10])).foldl glue []=[s]:=by
 have ha:∀ c∈s.take n,c.toNat≠10:=fun c hc=>(nU (h c (List.mem_of_mem_take hc))).1
 have ha2:∀ c∈s.take n,c.toNat≠13:=fun c hc=>(nU (h c (List.mem_of_mem_take hc))).2
 have hb:∀ c∈s.drop n,c.toNat≠10:=fun c hc=>(nU (h c (List.mem_of_mem_drop hc))).1
 have hb2:∀ c∈s.drop n,c.toNat≠13:=fun c hc=>(nU (h c (List.mem_of_mem_drop hc))).2
 have key:∀ x:UInt8,x.toNat≠10→x.toNat≠13→(x.toNat=32∨x.toNat=9)→(s.take n :: bq [] (x :: s.drop n++[10])).foldl glue []=[s]:=by
  intro x hx1 hx2 hx3
  have e:=Lf (x:=x :: s.drop n) (fun c hc=>by
   rcases List.mem_cons.1 hc with rfl | hc
   ·exact hx1
   ·exact hb c hc) (fun c hc=>by
   rcases List.mem_cons.1 hc with rfl | hc
   ·exact hx2
   ·exact hb2 c hc) []
  rw[e]
  have hsp:isSp (x :: s.drop n)=true:=by
   show(decide (x.toNat=32) || decide (x.toNat=9))=true
   rcases hx3 with h | h <;> simp[h]
  have hn:bq [] []=[]:=rfl
  rw[hn]
  simp only[List.foldl_cons,List.foldl_nil]
  rw[show glue [] (s.take n)=[s.take n] by simp[glue]]
  unfold glue
  rw[if_pos ⟨by simp,hsp⟩]
  simp
 cases tab with
 | true =>
   have e:=Lf ha ha2 (9 :: s.drop n++[10])
   have e2:s.take n++(if true=true then[10,9] else[13,10,32])++s.drop n++[10]=s.take n++10 :: (9 :: s.drop n++[10]):=by simp
   rw[e2,e]
   exact key 9 (by decide) (by decide) (.inr rfl)
 | false =>
   have e:=wO ha [] (32 :: s.drop n++[10])
   rw[List.nil_append] at e
   have e2:s.take n++(if false=true then[10,9] else[13,10,32])++s.drop n++[10]=s.take n++13 :: 10 :: (32 :: s.drop n++[10]):=by simp
   rw[e2,e]
   exact key 32 (by decide) (by decide) (.inl rfl)
theorem Ox {L:Ln} (h:jL gL L=true) (hl:(aY L).length≤912) {n:Nat} (h1:1≤n) (h2:n<(aY L).length) (tab:Bool) :
  ∃ k,u7 gL ((aY L).take n++(if tab then[10,9] else[13,10,32])++(aY L).drop n++[10])=([(L,k)],0,0) :=
 OJ (Ol (BG h) h1 h2 tab) (NA L) hl (Mw h)
theorem K4 (v:List UInt8) : (qv v).length≤v.length + 2:=by
 unfold qv; split
 ·simp
 ·omega
theorem DN {B:Nat} : ∀ {vs:List (List UInt8)},(∀ v∈vs,v.length≤B)→(tailV vs).length≤vs.length * (B + 3)
 | [],_=>by simp[tailV]
 | v :: vs,h=>by
   have e:tailV (v :: vs)=[44]++(qv v++tailV vs):=by simp[tailV]
   have h1:=DN (B:=B) (vs:=vs) fun w hw=>h w (by simp[hw])
   have h2:=K4 v
   have h3:=h v (by simp)
   rw[e,List.length_cons,Nat.succ_mul]
   simp only[List.length_append,List.length_cons,List.length_nil]
   omega
theorem KL {B:Nat} {vs:List (List UInt8)} (h:∀ v∈vs,v.length≤B) : (fw vs).length≤vs.length * (B + 3):=by
 cases vs with
 | nil=>simp[fw]
 | cons v vs =>
   have h1:=DN (B:=B) (vs:=vs) fun w hw=>h w (by simp[hw])
   have h2:=K4 v
   have h3:=h v (by simp)
   rw[List.length_cons,Nat.succ_mul]
   simp only[fw,List.length_append]
   omega
theorem Ff {B K:Nat} : ∀ {ps:List jJ},(∀ p∈ps,p.1.length≤B)→(∀ p∈ps,p.2.length≤K)→(∀ p∈ps,∀ v∈p.2,v.length≤B)→(ps.flatMap dw).length≤ps.length * (B + 2 + K * (B + 3))
 | [],_,_,_=>by simp
 | p :: ps,h1,h2,h3=>by
   have ih:=Ff (B:=B) (K:=K) (ps:=ps) (fun q hq=>h1 q (by simp[hq])) (fun q hq=>h2 q (by simp[hq])) (fun q hq=>h3 q (by simp[hq]))
   have a1:=h1 p (by simp)
   have a2:=KL (h3 p (by simp))
   have a3:=Nat.mul_le_mul_right (B + 3) (h2 p (by simp))
   have e:(dw p).length=1 + p.1.length + 1 + (fw p.2).length:=by
    unfold dw; simp only[List.length_append,List.length_cons,List.length_nil,List.length_map]
   rw[List.flatMap_cons,List.length_append,List.length_cons,Nat.succ_mul,e]
   omega
theorem Mq {B K N:Nat} {L:Ln} (h:LB B L) (hk:∀ p∈L.ps,p.2.length≤K) (hn:L.ps.length≤N) : (aY L).length≤(B + 1) + (B + N * (B + 2 + K * (B + 3))) + 1 + L.v.length:=by
 have h1:=Ff h.pn hk h.pv
 have h2:=Nat.mul_le_mul_right (B + 2 + K * (B + 3)) hn
 have h3:=h.g
 have h4:=h.n
 have h5:(mo L).length≤B + 1:=by
  unfold mo; split
  ·simp
  ·simp; omega
 unfold aY oM
 simp only[List.length_append,List.length_cons,List.length_nil,List.length_map]
 omega
end Go.Ab.Vl
