/- Part 4 of the ground of the proofs of this seat (texts R15 to R28). By an AI agent. -/
import Derived.Test.YtpdpipgmdhkomaaBlk3
import Derived.Carry
import Derived.JoinedCond
import Derived.SizedLaws
import GoSem.Extern.Atomic
import GoSem.Extern.MapsClone
import Derived.Laws.AppendOwn
import Derived.Sort.AssemblyPlain
import Derived.RangeFuncRecord
import Derived.RangeFuncSeq
import Derived.OrdersIn
import Derived.LoopNIn
set_option linter.unusedVariables false
set_option linter.unusedSimpArgs false
namespace Go.Ab
open Go Go.RowKit
structure Enc (α:Type) where
 size:Nat
 cells:α→List AV
 len:∀ a,(cells a).length=size
 one:∀ a,(cells a).all oneCell=true
section
variable {α:Type} (E:Enc α)
def Enc.row (xs:List α) : List AV:=xs.flatMap E.cells
theorem Enc.gu (x:α) (xs:List α) : E.row (x :: xs)=E.cells x++E.row xs:=rfl
theorem Enc.FO (xs ys:List α) : E.row (xs++ys)=E.row xs++E.row ys:=by simp[Enc.row]
theorem Enc.row_one (x:α) : E.row [x]=E.cells x:=by simp[Enc.row]
theorem Enc.gP:∀ (xs:List α),(E.row xs).length=xs.length * E.size
 | []=>by simp[Enc.row]
 | x :: xs=>by rw[Enc.gu,List.length_append,E.len,Enc.gP xs,List.length_cons,Nat.succ_mul,Nat.add_comm]
theorem Enc.bX:∀ (xs:List α),(E.row xs).all oneCell=true
 | []=>by simp[Enc.row]
 | x :: xs=>by rw[Enc.gu,List.all_append,E.one,Enc.bX xs]; rfl
theorem Enc.sD:∀ (xs:List α) (i:Nat),(E.row xs).drop (i * E.size)=E.row (xs.drop i)
 | [],i=>by simp[Enc.row]
 | x :: xs,0=>by simp
 | x :: xs,i + 1=>by
   rw[Enc.gu,Nat.succ_mul,Nat.add_comm,← List.drop_drop,List.drop_left' (E.len x),Enc.sD xs i]
   rfl
theorem Enc.sN:∀ (xs:List α) (i:Nat),(E.row xs).take (i * E.size)=E.row (xs.take i)
 | [],i=>by simp[Enc.row]
 | x :: xs,0=>by simp[Enc.row]
 | x :: xs,i + 1=>by
   rw[Enc.gu,Nat.succ_mul,Nat.add_comm,List.take_append,List.take_of_length_le (by rw[E.len]; omega),E.len,Nat.add_sub_cancel_left,Enc.sN xs i]
   rfl
theorem Enc.MR {xs:List α} {i:Nat} (hi:i<xs.length) : ((E.row xs).drop (i * E.size)).take E.size=E.cells xs[i]:=by
 rw[Enc.sD,List.drop_eq_getElem_cons hi,Enc.gu]
 rw[List.take_append_of_le_length (by rw[E.len]; exact Nat.le_refl _),List.take_of_length_le (by rw[E.len]; exact Nat.le_refl _)]
abbrev Sl (M:RM) (v:AV) (xs:List α) : Prop:=aO M E.size v (E.row xs) xs.length
abbrev Ow (M:RM) (base el:Nat) (v:AV) (xs:List α) : Prop:=Own M base el E.size v (E.row xs) xs.length
variable {E} {M M' : RM} {v:AV} {xs:List α}
theorem Sl.elem (h:Sl E M v xs) {i:Nat} (hi:i<xs.length) : ∃ b o,b<M.next∧b∈ak v∧(∀ (kd:IntKind) (K:AV→Prop),bf v (N kd (i:Int)) E.size K=K (.ptr b o))∧M.loads b o E.size=some (E.cells xs[i]):=by
 obtain⟨b,o,cap,rfl,hb,hl⟩:=h.pos (by omega)
 have hsum:i * E.size + E.size≤xs.length * E.size:=by rw[← Nat.succ_mul]; exact Nat.mul_le_mul_right _ hi
 refine⟨b,o + i * E.size,hb,by simp[ak],fun kd K=>?_, ?_⟩
 ·rw[sJ]
  simp only[Int.toNat_natCast]
  exact propext ⟨fun h=>h.2.2,fun h=>⟨by omega,by omega,h⟩⟩
 ·rw[nk hl (i * E.size) E.size hsum,E.MR hi]
theorem Sl.at (h:Sl E M v xs) {i:Nat} (sz:Nat) (j:Int) (hi:i<xs.length) (hsz:E.size=sz:=by rfl) (hj:j=(i:Int):=by rfl) : ∃ b o,b<M.next∧b∈ak v∧(∀ (kd:IntKind) (K:AV→Prop),bf v (N kd j) sz K=K (.ptr b o))∧M.loads b o sz=some (E.cells xs[i]):=by
 subst hsz hj; exact h.elem hi
theorem IL {b o k:Nat} {cs:List AV} (h:M.loads b o k=some cs) {j:Nat} {x:AV} (hj:cs[j]?=some x) : M.cell b (o + j)=some x:=by
 have hlt:j<k:=by rw[← Im h]; exact(List.getElem?_eq_some_iff.1 hj).1
 rw[P6 h j hlt,hj]
theorem wR {b o k:Nat} {cs:List AV} (h:M.loads b o k=some cs) {x:AV} (hj:cs[0]?=some x) : M.cell b o=some x:=IL h hj
theorem pE {base T bytes:Nat} {zs:List AV} {u:AV} {ys:List α} {K:ah} (ho:Ow E M base T v xs) (hb:base≤M.next) (hs:1≤E.size) (hu:Sl E M u ys)
  (hn:(xs.length + ys.length) * bytes≤140737488355328) (hn2:xs.length + ys.length≤140737488355328)
  (hK:∀ v' M',Ow E M' base T v' (xs++ys)→aa (ak v) M M'→M.next≤M'.next→(v'=v∨∀ b∈ak v',M.next≤b)→K v' M') :
  appW T E.size bytes zs false v u M K:=by
 refine Cw ho hb hs (aO.qy hu _) (E.gP ys) (E.bX ys) hn hn2 ?_
 intro v' M' h1 h2 h3 h4
 refine hK v' M' ?_ h2 h3 h4
 rw[← E.FO] at h1
 simpa [Ow] using h1
theorem Sl.new {T c:Nat} {p:Bool} (ys:List α) : Sl E (M.push (.row (E.row ys) p T 0)) (.slc M.next 0 ys.length (.ex c)) ys :=
 .slc _ _ _ _ _ (by simp[RM.push]) (by rw[RM.iW (RM.bN _) (by rw[E.gP]; omega),List.drop_zero,← E.gP,List.take_length])
theorem iN {base T bytes:Nat} {zs:List AV} {a:α} {K:ah} (ho:Ow E M base T v xs) (hb:base≤M.next) (hs:1≤E.size)
  (hn:(xs.length + 1) * bytes≤140737488355328) (hn2:xs.length + 1≤140737488355328)
  (hK:∀ v' M',Ow E M' base T v' (xs++[a])→aa (ak v) M M'→M.next≤M'.next→(v'=v∨∀ b∈ak v',M.next≤b)→K v' M') :
  appW T E.size bytes zs false v (.slc M.next 0 1 (.ex 1)) (M.push (.row (E.cells a) false T 0)) K:=by
 have hk:aa [] M (M.push (.row (E.cells a) false T 0)):=(aa.refl _ _).push _
 refine pE (ys:=[a]) (Own.keep ho hk (by simp)) (Nat.le_trans hb hk.next) hs (by rw[← E.row_one]; exact Sl.new [a]) hn hn2 ?_
 intro v' M' h1 h2 h3 h4
 exact hK v' M' h1 ((hk.mono (by simp)).trans h2) (Nat.le_trans hk.next h3) (h4.imp id fun h b hb=>Nat.le_trans hk.next (h b hb))
@[go_sem] theorem OH {T:Nat} {zs:List AV} {K:RB→(Nat→AV)→Prop} : bW T 0 zs [] K=K (.row [] false T 0) (fun b=>.slc b 0 0 (.ex 0)):=by
 apply propext; unfold bW
 constructor
 ·rintro⟨l,h,hk⟩; cases h; exact hk
 ·intro hk; exact⟨_,rfl,hk⟩
theorem kF {T size:Nat} {zs:List AV} {x:AV} {K:RB→(Nat→AV)→Prop} (h:x.cells.length=size) (h1:x.cells.all oneCell=true) (hz:zs.length=size) :
  bW T 1 zs [(0,size,x)] K=K (.row x.cells false T 0) (fun b=>.slc b 0 1 (.ex 1)):=by
 have:jM (fB zs 1) [(0,size,x)]=some x.cells:=by
  simp only[jM,fB,List.append_nil,h1,h,Nat.zero_add,hz,Nat.le_refl,and_self,if_true,List.take_zero,List.nil_append]
  rw[List.drop_of_length_le (by omega),List.append_nil]
 apply propext; unfold bW
 constructor
 ·rintro⟨l,h,hk⟩; rw[this] at h; cases h; exact hk
 ·intro hk; exact⟨_,this,hk⟩
theorem Ow.lit (E:Enc α) {T:Nat} (M:RM) : Ow E (M.push (.row [] false T 0)) M.next T (.slc M.next 0 0 (.ex 0)) []:=Own.lit M (Nat.le_refl _)
theorem oP {i:Nat} (h:i<9223372036854775807) : IntKind.wrap .i64 ((i:Int) + 1)=((i + 1:Nat) : Int):=by
 rw[aM (by omega) (by omega)]; rfl
end
@[go_sem] theorem FE:bV [] [] []=some true:=rfl
@[go_sem] theorem WT (ks:List Nat) (k:IntKind) (a b:Int) (xs ys:List AV) : bV (1 :: ks) (N k a :: xs) (N k b :: ys)=if a=b then bV ks xs ys else some false:=by
 simp only[bV,nH,if_true]
 by_cases h:a=b
 ·simp[h]
 ·have:(a == b)=false:=by simp[h]
  simp[this,h]
@[go_sem] theorem FY (ks:List Nat) (a b:List UInt8) (xs ys:List AV) : bV (2 :: ks) (St a :: xs) (St b :: ys)=if a=b then bV ks xs ys else some false:=by
 simp only[bV,nH]
 by_cases h:a=b
 ·simp[h]
 ·have:(a == b)=false:=by simp[h]
  simp[this,h]
@[go_sem] theorem Wx (ks:List Nat) (a b:Bool) (xs ys:List AV) : bV (3 :: ks) (Bo a :: xs) (Bo b :: ys)=if a=b then bV ks xs ys else some false:=by
 simp only[bV,nH]
 by_cases h:a=b
 ·simp[h]
 ·have:(a == b)=false:=by simp[h]
  simp[this,h]
theorem rD (x:AV) (w:Bool) (f g:ah→Prop) (F G:AV→RM→ah→Prop) (k:ah) :
  az x w f g (fun v M=>az x w (F v M) (G v M) k)=az x w (fun k'=>f fun v M=>F v M k') (fun k'=>g fun v M=>G v M k') k:=by
 unfold az iV
 split
 ·split <;> simp_all
 ·rfl
 ·rfl
theorem O5 (x:AV) (w:Bool) (f g:KR→Prop) (F G:AV→RM→Option Nat→KR→Prop) (k:KR) :
  aY x w f g (fun v M b=>aY x w (F v M b) (G v M b) k)=aY x w (fun k'=>f fun v M b=>F v M b k') (fun k'=>g fun v M b=>G v M b k') k:=by
 unfold aY iV
 split
 ·split <;> simp_all
 ·rfl
 ·rfl
theorem JW (x:AV) (w:Bool) (f g:KR→Prop) (F G:AV→RM→Option Nat→ah→Prop) (k:ah) :
  aY x w f g (fun v M b=>az x w (F v M b) (G v M b) k)=az x w (fun k'=>f fun v M b=>F v M b k') (fun k'=>g fun v M b=>G v M b k') k:=by
 unfold aY az iV
 split
 ·split <;> simp_all
 ·rfl
 ·rfl
theorem KO (x:AV) (w:Bool) (f g:ah→Prop) (F G:AV→RM→KR→Prop) (k:KR) :
  az x w f g (fun v M=>aY x w (F v M) (G v M) k)=aY x w (fun k'=>f fun v M=>F v M k') (fun k'=>g fun v M=>G v M k') k:=by
 unfold aY az iV
 split
 ·split <;> simp_all
 ·rfl
 ·rfl
theorem aT {body:(List AV→RM→Prop)→List AV→RM→Prop} {xs:List AV} {M:RM} (I:Nat→List AV→RM→Prop) (n:Nat) (h0:I n xs M)
  (hb:∀ (next:List AV→RM→Prop) m ys M',(∀ m' zs M'',m'<m→I m' zs M''→next zs M'')→I m ys M'→body next ys M') : bE body xs M :=
 ⟨I,n,h0,fun m ys M' hI=>hb _ m ys M' (fun m' zs M'' hlt h=>⟨m',hlt,h⟩) hI⟩
abbrev By (b:UInt8) : AV:=N .u8 (b.toNat:Int)
def BY:Enc UInt8:=⟨1,fun b=>[By b],fun _=>rfl,fun _=>rfl⟩
theorem mr (s:List UInt8) : BY.row s=s.map By:=by
 induction s with
 | nil=>rfl
 | cons b s ih=>rw[Enc.gu,ih]; rfl
def eB:Enc (List UInt8):=⟨1,fun s=>[St s],fun _=>rfl,fun _=>rfl⟩
theorem Ul (s:List (List UInt8)) : eB.row s=s.map (fun s=>St s):=by
 induction s with
 | nil=>rfl
 | cons b s ih=>rw[Enc.gu,ih]; rfl
def dR:Enc Nat:=⟨1,fun n=>[N .u64 (n:Int)],fun _=>rfl,fun _=>rfl⟩
theorem mW (s:List Nat) : dR.row s=s.map (fun(s:Nat)=>N .u64 (s:Int)):=by
 induction s with
 | nil=>rfl
 | cons b s ih=>rw[Enc.gu,ih]; rfl
theorem EG:∀ (s:List UInt8),bO byteOf (s.map By)=some s
 | []=>rfl
 | b :: s=>by
   simp only[List.map_cons,bO,byteOf,EG s]
   simp
section
variable {α:Type} {E:Enc α} {M M' : RM} {v:AV} {xs:List α}
theorem Sl.str {s:List UInt8} (h:Sl BY M v s) {K:AV→Prop} : iD M v K=K (St s) :=
 Lj (aO.wZ h (by rw[mr]; exact EG s))
theorem Sl.PG (h:Sl E M v xs) {i:Nat} (j:Int) (hi:i<xs.length) (hsz:E.size=1:=by rfl) (hj:j=(i:Int):=by rfl) :
  ∃ b o,b<M.next∧b∈ak v∧(∀ (kd:IntKind) (K:AV→Prop),bf v (N kd j) 1 K=K (.ptr b o))∧∀ x,E.cells xs[i]=[x]→M.cell b o=some x:=by
 obtain⟨b,o,h1,h2,h3,h4⟩:=Sl.at h 1 j hi hsz hj
 exact⟨b,o,h1,h2,h3,fun x hx=>wR h4 (by rw[hx]; rfl)⟩
structure Rw (E:Enc α) (M:RM) (b:Nat) (opn:Bool) (el:Nat) (xs:List α) : Prop where
 heap:M.heap b=some (.row (E.row xs) opn el 0)
 lt:b<M.next
theorem Rw.sl {b el:Nat} {p:Bool} {cap:Cap} (h:Rw E M b p el xs) : Sl E M (.slc b 0 xs.length cap) xs:=by
 refine .slc _ _ _ _ _ h.lt ?_
 rw[RM.iW h.heap (by rw[E.gP]; omega),List.drop_zero,← E.gP,List.take_length]
theorem Rw.keep {b el:Nat} {p:Bool} {bs:List Nat} (h:Rw E M b p el xs) (hk:aa bs M M') (hb:b ∉ bs) : Rw E M' b p el xs :=
 ⟨hk.ay h.heap h.lt hb,Nat.lt_of_lt_of_le h.lt hk.next⟩
theorem Rw.new {el:Nat} {p:Bool} (M:RM) (xs:List α) : Rw E (M.push (.row (E.row xs) p el 0)) M.next p el xs :=
 ⟨RM.bN _,by simp[RM.push]⟩
theorem Rw.load {b el:Nat} {p:Bool} (h:Rw E M b p el xs) {i:Nat} (hi:i<xs.length) : M.loads b (i * E.size) E.size=some (E.cells xs[i]):=by
 have hsum:i * E.size + E.size≤xs.length * E.size:=by rw[← Nat.succ_mul]; exact Nat.mul_le_mul_right _ hi
 rw[RM.iW h.heap (by rw[E.gP]; exact hsum),E.MR hi]
theorem Enc.UL (E:Enc α) {xs:List α} {i:Nat} (hi:i<xs.length) (x:α) : E.row (xs.set i x)=(E.row xs).take (i * E.size)++E.cells x++(E.row xs).drop (i * E.size + E.size):=by
 rw[E.sN,← Nat.succ_mul,E.sD,List.set_eq_take_append_cons_drop,if_pos hi,E.FO,E.gu,List.append_assoc]
theorem Rw.store {b el:Nat} {p:Bool} (h:Rw E M b p el xs) {i:Nat} (hi:i<xs.length) (x:α) :
  M.stores b (i * E.size) (E.cells x)=some (M.put b (.row (E.row (xs.set i x)) p el 0))∧Rw E (M.put b (.row (E.row (xs.set i x)) p el 0)) b p el (xs.set i x):=by
 have hsum:i * E.size + E.size≤xs.length * E.size:=by rw[← Nat.succ_mul]; exact Nat.mul_le_mul_right _ hi
 refine⟨?_,RM.yG _ _,h.lt⟩
 rw[RM.Gb h.heap (by rw[E.len,E.gP]; exact hsum) (Nat.zero_le _) (E.one x),E.UL hi,E.len]
theorem Rw.ag {b el:Nat} {p:Bool} (h:Rw E M b p el xs) {i:Nat} (hi:i<xs.length) (hsz:E.size=1:=by rfl) {x:AV} (hx:E.cells xs[i]=[x]:=by rfl) : M.cell b i=some x:=by
 have:=h.load hi
 rw[hsz,Nat.mul_one] at this
 exact wR this (by rw[hx]; rfl)
theorem Rw.PW {b el:Nat} {p:Bool} (h:Rw E M b p el xs) {i:Nat} (hi:i<xs.length) (x:α) (hsz:E.size=1:=by rfl) {u:AV} (hx:E.cells x=[u]:=by rfl) :
  M.stores b i [u]=some (M.put b (.row (E.row (xs.set i x)) p el 0))∧Rw E (M.put b (.row (E.row (xs.set i x)) p el 0)) b p el (xs.set i x):=by
 have:=h.store hi x
 rw[hsz,Nat.mul_one,hx] at this
 exact this
end
@[go_sem] theorem XD (el:Nat) (s:List UInt8) (K:RB→(Nat→AV)→Prop) : JV el (St s) K=K (.row (BY.row s) true el 0) (fun b=>.slc b 0 s.length (.op 1)):=by
 rw[mr]
 apply propext; unfold JV
 constructor
 ·rintro⟨s',h,hk⟩; cases h; exact hk
 ·intro hk; exact⟨s,rfl,hk⟩
def Ym (b:UInt8) : UInt8:=if 65≤b.toNat∧b.toNat≤90 then b + 32 else b
def low (s:List UInt8) : List UInt8:=s.map Ym
theorem Fe (b:UInt8) : b.toNat<256:=b.toNat_lt
structure nM (n:Nat) (bs:List Nat) (M M' : RM) : Prop where
 base:M'.base=M.base
 next:M.next≤M'.next
 heap:∀ c,c<n→c ∉ bs→M'.heap c=M.heap c
theorem nM.refl (n:Nat) (bs:List Nat) (M:RM) : nM n bs M M:=⟨rfl,Nat.le_refl _,fun _ _ _=>rfl⟩
theorem nM.trans {n:Nat} {bs:List Nat} {M M1 M2:RM} (h:nM n bs M M1) (k:nM n bs M1 M2) : nM n bs M M2 :=
 ⟨k.base.trans h.base,Nat.le_trans h.next k.next,fun c h1 h2=>(k.heap c h1 h2).trans (h.heap c h1 h2)⟩
theorem aa.to {bs cs:List Nat} {n:Nat} {M M' : RM} (h:aa bs M M') (hn:n≤M.next) (hb:∀ b∈bs,n≤b∨b∈cs) : nM n cs M M' :=
 ⟨h.base,h.next,fun c h1 h2=>h.heap c (Nat.lt_of_lt_of_le h1 hn) (fun hm=>by rcases hb c hm with h3 | h3; omega; exact h2 h3)⟩
theorem nM.ay {n:Nat} {bs:List Nat} {M M' : RM} (h:nM n bs M M') {b:Nat} {x:RB} (hh:M.heap b=some x) (hlt:b<n) (hb:b ∉ bs) : M'.heap b=some x:=by rw[h.heap b hlt hb,hh]
theorem Own.same {M M' : RM} {n el size n0:Nat} {v:AV} {cs:List AV} (h:Own M n0 el size v cs n) (hn:M'.next=M.next) (hb:∀ c∈ak v,M'.heap c=M.heap c) (hbase:M'.base=M.base) : Own M' n0 el size v cs n:=by
 cases h with
 | nil=>exact .nil
 | ex0 b o h1 h2 h3=>exact .ex0 b o h1 (by omega) (by simpa [RM.DC,hb b (by simp[ak]),RM.lo,hbase] using h3)
 | op b n cs h1 h2 h3 h4=>exact .op b n cs h1 (by omega) (by rw[hb b (by simp[ak]),h3]) h4
theorem Own.one {M:RM} {n el size n0:Nat} {v:AV} {cs:List AV} (h:Own M n0 el size v cs n) : oneCell v=true:=by
 cases h <;> rfl
def F6 (B:Base) (c:au) : Prop:=∀ {M:RM} {Q:ah},M.base=B→Q (Bo true) M→c [] M Q
theorem Own.cells {M:RM} {n el size n0:Nat} {v:AV} {cs:List AV} (h:Own M n0 el size v cs n) : v.cells=[v]:=by
 cases h <;> rfl
section
variable {P:Program} {ρ:Ren} {M:RM} {w w' : World}
theorem aS.below {base:Base} {A:AW} (h:aS P base ρ A w) (hb:Below w.heap.size w w') (hn:base.n≤w.heap.size) : aS P base ρ A w' where
 dom b i hbi:=⟨(h.dom b i hbi).1,Nat.lt_of_lt_of_le (h.dom b i hbi).2 hb.size⟩
 blk b i x hbi hx:=let ⟨o,ho,hr⟩:=h.blk b i x hbi hx; ⟨o,by rw[hb.block _ (h.dom b i hbi).2]; exact ho,hr⟩
 sep:=h.sep
 top:=h.top
 lo:=h.lo
 inv:=base.low w w' (fun c hc=>hb.block c (Nat.lt_of_lt_of_le hc hn)) h.inv
theorem Step.of_below {base n:Nat} (hb:Below w.heap.size w w') (hn:base≤w.heap.size) : Step base n ρ w ρ w' where
 os:=hb.os
 tape:=hb.tape
 output:=hb.output
 size:=hb.size
 frame c hc _:=hb.block c hc
 ext _ _:=rfl
 fresh b i h:=.inl ⟨b,i,h,rfl⟩
 low c hc:=hb.block c (Nat.lt_of_lt_of_le hc hn)
theorem After.below (h:bg P ρ M w) (hb:Below w.heap.size w w') : After P M ρ w M ρ w':=by
 obtain⟨A,hA⟩:=h
 refine gV hA (Step.of_below hb hA.size) (hA.rel.below hb hA.size) rfl hA.next (Nat.le_refl _) fun b x hx=>?_
 rcases hA.blk b x hx with h | ⟨c,rfl,_⟩
 ·exact .inl h
 ·exact .inr ⟨c,rfl,hx⟩
end
structure nQ (α:Type) where
 size:Nat
 rel:RM→List AV→α→(Nat→Prop)→Prop
 len:∀ {M cs a S},rel M cs a S→cs.length=size
 one:∀ {M cs a S},rel M cs a S→cs.all oneCell=true
 mono:∀ {M cs a S S'},rel M cs a S→(∀ b,S b→S' b)→rel M cs a S'
 lt:∀ {M cs a S},rel M cs a S→rel M cs a (fun b=>S b∧b<M.next)
 keep:∀ {M M' cs a S bs},rel M cs a S→aa bs M M'→(∀ b∈bs,¬ S b)→rel M' cs a S
def Enc.CS {α:Type} (E:Enc α) : nQ α where
 size:=E.size
 rel _ cs a _:=cs=E.cells a
 len h:=by subst h; exact E.len _
 one h:=by subst h; exact E.one _
 mono h _:=h
 lt h:=h
 keep h _ _:=h
inductive dN {α:Type} (R:nQ α) (M:RM) (S:Nat→Prop) : List AV→List α→Prop
 | nil:dN R M S [] []
 | cons {cs ds:List AV} {a:α} {xs:List α} : R.rel M cs a S→dN R M S ds xs→dN R M S (cs++ds) (a :: xs)
section
variable {α:Type} {R:nQ α} {M M' : RM} {S S' : Nat→Prop} {cs ds:List AV} {xs ys:List α} {a:α}
theorem dN.len (h:dN R M S cs xs) : cs.length=xs.length * R.size:=by
 induction h with
 | nil=>simp
 | cons h1 _ ih=>rw[List.length_append,R.len h1,ih,List.length_cons,Nat.succ_mul,Nat.add_comm]
theorem dN.one (h:dN R M S cs xs) : cs.all oneCell=true:=by
 induction h with
 | nil=>rfl
 | cons h1 _ ih=>rw[List.all_append,R.one h1,ih]; rfl
theorem dN.mono (h:dN R M S cs xs) (hs:∀ b,S b→S' b) : dN R M S' cs xs:=by
 induction h with
 | nil=>exact .nil
 | cons h1 _ ih=>exact .cons (R.mono h1 hs) ih
theorem dN.lt (h:dN R M S cs xs) : dN R M (fun b=>S b∧b<M.next) cs xs:=by
 induction h with
 | nil=>exact .nil
 | cons h1 _ ih=>exact .cons (R.lt h1) ih
theorem dN.keep {bs:List Nat} (h:dN R M S cs xs) (hk:aa bs M M') (hb:∀ b∈bs,¬ S b) : dN R M' S cs xs:=by
 induction h with
 | nil=>exact .nil
 | cons h1 _ ih=>exact .cons (R.keep h1 hk hb) ih
theorem dN.append (h:dN R M S cs xs) (k:dN R M S ds ys) : dN R M S (cs++ds) (xs++ys):=by
 induction h with
 | nil=>exact k
 | cons h1 _ ih=>rw[List.append_assoc]; exact .cons h1 ih
theorem dN.single (h:R.rel M cs a S) : dN R M S cs [a]:=by
 have:=dN.cons h .nil
 simpa using this
theorem dN.get (h:dN R M S cs xs) : ∀ {i:Nat} (hi:i<xs.length),R.rel M ((cs.drop (i * R.size)).take R.size) xs[i] S:=by
 induction h with
 | nil=>intro i hi; simp at hi
 | cons h1 h2 ih =>
   rename_i c1 d1 a1 x1
   intro i hi
   cases i with
   | zero =>
     rw[Nat.zero_mul,List.drop_zero,List.take_append_of_le_length (by rw[R.len h1]; exact Nat.le_refl _),List.take_of_length_le (by rw[R.len h1]; exact Nat.le_refl _)]
     exact h1
   | succ i =>
     rw[Nat.succ_mul,Nat.add_comm,← List.drop_drop,List.drop_left' (R.len h1)]
     exact ih (by simpa using hi)
theorem dN.take (h:dN R M S cs xs) : ∀ (k:Nat),dN R M S (cs.take (k * R.size)) (xs.take k):=by
 induction h with
 | nil=>intro k; simp; exact .nil
 | cons h1 h2 ih =>
   intro k
   cases k with
   | zero=>simp; exact .nil
   | succ k =>
     rw[Nat.succ_mul,Nat.add_comm,List.take_append,List.take_of_length_le (by rw[R.len h1]; omega),R.len h1,Nat.add_sub_cancel_left]
     exact .cons h1 (ih k)
theorem dN.drop (h:dN R M S cs xs) : ∀ (k:Nat),dN R M S (cs.drop (k * R.size)) (xs.drop k):=by
 induction h with
 | nil=>intro k; simp; exact .nil
 | cons h1 h2 ih =>
   intro k
   cases k with
   | zero=>simp; exact .cons h1 h2
   | succ k =>
     rw[Nat.succ_mul,Nat.add_comm,← List.drop_drop,List.drop_left' (R.len h1)]
     exact ih k
theorem dN.cells {E:Enc α} : ∀ {cs:List AV} {xs:List α},dN E.CS M S cs xs→cs=E.row xs
 | _,_,.nil=>rfl
 | _,_,.cons h1 h2=>by rw[Enc.gu,dN.cells h2]; rw[show _=_ from h1]
def jJ (R:nQ α) (M:RM) (v:AV) (xs:List α) (S:Nat→Prop) : Prop :=
 ∃ cs,aO M R.size v cs xs.length∧(∀ b∈ak v,S b)∧dN R M S cs xs
theorem aO.lt {size n:Nat} {v:AV} (h:aO M size v cs n) : ∀ b∈ak v,b<M.next:=by
 cases h with
 | nil=>intro b hb; simp[ak] at hb
 | emp=>intro b hb; simp[ak] at hb
 | slc b o n cap cs hb _=>intro c hc; simp[ak] at hc; omega
theorem aO.one {size n:Nat} {v:AV} (h:aO M size v cs n) : oneCell v=true:=by
 cases h <;> rfl
theorem aO.cells {size n:Nat} {v:AV} (h:aO M size v cs n) : v.cells=[v]:=by
 cases h <;> rfl
variable {v:AV}
theorem jJ.mono (h:jJ R M v xs S) (hs:∀ b,S b→S' b) : jJ R M v xs S':=let ⟨cs,h1,h2,h3⟩:=h; ⟨cs,h1,fun b hb=>hs b (h2 b hb),h3.mono hs⟩
theorem jJ.lt (h:jJ R M v xs S) : jJ R M v xs (fun b=>S b∧b<M.next):=let ⟨cs,h1,h2,h3⟩:=h; ⟨cs,h1,fun b hb=>⟨h2 b hb,h1.lt b hb⟩,h3.lt⟩
theorem jJ.keep {bs:List Nat} (h:jJ R M v xs S) (hk:aa bs M M') (hb:∀ b∈bs,¬ S b) : jJ R M' v xs S :=
 let ⟨cs,h1,h2,h3⟩:=h; ⟨cs,h1.keep hk (fun b hv hbs=>hb b hbs (h2 b hv)),h2,h3.keep hk hb⟩
theorem jJ.len (h:jJ R M v xs S) {K:AV→Prop} : bI v K=K (N .i64 xs.length):=let ⟨cs,h1,_,_⟩:=h; h1.len
theorem jJ.one (h:jJ R M v xs S) : oneCell v=true:=let ⟨cs,h1,_,_⟩:=h; h1.one
theorem jJ.cells (h:jJ R M v xs S) : v.cells=[v]:=let ⟨cs,h1,_,_⟩:=h; h1.cells
theorem jJ.nil:jJ R M bK [] S:=⟨[],.nil,by simp[ak],.nil⟩
theorem jJ.sl {E:Enc α} (h:jJ E.CS M v xs S) : Sl E M v xs:=by
 obtain⟨cs,h1,h2,h3⟩:=h
 rw[h3.cells] at h1
 exact h1
theorem jJ.at (h:jJ R M v xs S) {i:Nat} (sz:Nat) (j:Int) (hi:i<xs.length) (hsz:R.size=sz:=by rfl) (hj:j=(i:Int):=by rfl) :
  ∃ b o cs,b<M.next∧b∈ak v∧(∀ (kd:IntKind) (K:AV→Prop),bf v (N kd j) sz K=K (.ptr b o))∧M.loads b o sz=some cs∧R.rel M cs xs[i] S:=by
 subst hsz hj
 obtain⟨cs,h1,h2,h3⟩:=h
 obtain⟨b,o,cap,rfl,hb,hl⟩:=h1.pos (by omega)
 have hsum:i * R.size + R.size≤xs.length * R.size:=by rw[← Nat.succ_mul]; exact Nat.mul_le_mul_right _ hi
 refine⟨b,o + i * R.size,(cs.drop (i * R.size)).take R.size,hb,by simp[ak],fun kd K=>?_, ?_,h3.get hi⟩
 ·rw[sJ]
  simp only[Int.toNat_natCast]
  exact propext ⟨fun h=>h.2.2,fun h=>⟨by omega,by omega,h⟩⟩
 ·rw[nk hl (i * R.size) R.size hsum]
def nQ.slice (R:nQ α) : nQ (List α) where
 size:=1
 rel M cs xs S:=∃ v,cs=[v]∧jJ R M v xs S
 len h:=by obtain⟨v,rfl,_⟩:=h; rfl
 one h:=by obtain⟨v,rfl,h⟩:=h; simp[h.one]
 mono h hs:=by obtain⟨v,rfl,h⟩:=h; exact⟨v,rfl,h.mono hs⟩
 lt h:=by obtain⟨v,rfl,h⟩:=h; exact⟨v,rfl,h.lt⟩
 keep h hk hb:=by obtain⟨v,rfl,h⟩:=h; exact⟨v,rfl,h.keep hk hb⟩
def jq (R:nQ α) (M:RM) (base el:Nat) (v:AV) (xs:List α) (S:Nat→Prop) : Prop :=
 ∃ cs,Own M base el R.size v cs xs.length∧dN R M S cs xs
theorem jq.nil {base el:Nat} : jq R M base el bK [] S:=⟨[],.nil,.nil⟩
theorem jq.mono {base el:Nat} (h:jq R M base el v xs S) (hs:∀ b,S b→S' b) : jq R M base el v xs S':=let ⟨cs,h1,h2⟩:=h; ⟨cs,h1,h2.mono hs⟩
theorem jq.lt {base el:Nat} (h:jq R M base el v xs S) : jq R M base el v xs (fun b=>S b∧b<M.next):=let ⟨cs,h1,h2⟩:=h; ⟨cs,h1,h2.lt⟩
theorem jq.keep {base el:Nat} {bs:List Nat} (h:jq R M base el v xs S) (hk:aa bs M M') (hb:∀ b∈bs,¬ S b) (hv:∀ b∈ak v,b ∉ bs) : jq R M' base el v xs S :=
 let ⟨cs,h1,h2⟩:=h; ⟨cs,h1.keep hk hv,h2.keep hk hb⟩
theorem jq.len {base el:Nat} (h:jq R M base el v xs S) {K:AV→Prop} : bI v K=K (N .i64 xs.length):=let ⟨cs,h1,_⟩:=h; h1.lN.len
theorem jq.blk {base el:Nat} (h:jq R M base el v xs S) : ∀ b∈ak v,base≤b∧b<M.next:=let ⟨cs,h1,_⟩:=h; h1.blk
theorem jq.ZY {base el:Nat} (h:jq R M base el v xs S) (hs:∀ b,base≤b→b<M.next→S b) : jJ R M v xs S :=
 let ⟨cs,h1,h2⟩:=h; ⟨cs,h1.lN,fun b hb=>hs b (h1.blk b hb).1 (h1.blk b hb).2,h2⟩
theorem jq.cells {base el:Nat} (h:jq R M base el v xs S) : v.cells=[v]:=let ⟨cs,h1,_⟩:=h; h1.cells
theorem jq.one {base el:Nat} (h:jq R M base el v xs S) : oneCell v=true:=let ⟨cs,h1,_⟩:=h; h1.one
theorem jq.app {base T bytes:Nat} {zs:List AV} {K:ah} (ho:jq R M base T v xs S) (ha:R.rel M cs a S) (hb:base≤M.next) (hs:1≤R.size)
  (hd:∀ b∈ak v,¬ S b) (hS:∀ b,S b→b<M.next)
  (hn:(xs.length + 1) * bytes≤140737488355328) (hn2:xs.length + 1≤140737488355328)
  (hK:∀ v' M',jq R M' base T v' (xs++[a]) S→aa (ak v) M M'→M.next≤M'.next→(v'=v∨∀ b∈ak v',M.next≤b)→(∀ b∈ak v',¬ S b)→K v' M') :
  appW T R.size bytes zs false v (.slc M.next 0 1 (.ex 1)) (M.push (.row cs false T 0)) K:=by
 obtain⟨ds,h1,h2⟩:=ho
 have hk:aa [] M (M.push (.row cs false T 0)):=(aa.refl _ _).push _
 have hl:=R.len ha
 have hnl:qy (M.push (.row cs false T 0)) R.size zs false (.slc M.next 0 1 (.ex 1))=some (1,cs):=by
  simp only[qy,Nat.one_mul]
  rw[RM.iW (RM.bN _) (by omega),List.drop_zero,← hl,List.take_length]
 refine Cw (h1.keep hk (by simp)) (Nat.le_trans hb hk.next) hs hnl (by rw[hl,Nat.one_mul]) (R.one ha) hn hn2 ?_
 intro v' M' q1 q2 q3 q4
 have kk:aa (ak v) M M':=(hk.mono (by simp)).trans q2
 refine hK v' M' ⟨_,by simpa using q1, ?_⟩ kk (Nat.le_trans hk.next q3) (q4.imp id fun h b hb=>Nat.le_trans hk.next (h b hb)) ?_
 ·exact(h2.keep kk hd).append (dN.single (R.keep ha kk hd))
 ·rcases q4 with rfl | q4
  ·exact hd
  ·intro b hb hSb
   have:=q4 b hb
   have:=hS b hSb
   simp only[RM.push] at *
   omega
end
section
variable {M M' : RM} {b i n e f:Nat} {l:List AV} {p:Bool} {x:AV}
theorem aG {K:AV→Prop} (h:M.heap b=some (.row l p e f)) (hx:l[i]?=some x) : ag M (.ptr b i) K=K x:=by
 rw[iX,RM.cell_of h,hx]; simp
theorem dM {K:AV→Prop} (h:M.heap b=some (.row l p e f)) (hn:l.length=n) : dx M (.ptr b 0) n K=K (.agg l):=by
 rw[Bu,RM.Ki h]
 have:sU (some l) 0 n=some l:=by simp[sU,← hn]
 rw[this]; simp
theorem Al {K:RM→Prop} (h:M.heap b=some (.row l p e 0)) (hi:i<l.length) (hc:x.cells=[x]) (h1:oneCell x=true) : aR M (.ptr b i) x 1 K=K (M.put b (.row (l.set i x) p e 0)):=by
 rw[Gd,hc,RM.Iq h,Bt (by simp only[List.length_cons,List.length_nil]; omega) (Nat.zero_le _) (by simp[h1])]
 have:l.take i++[x]++l.drop (i + 1)=l.set i x:=by
  rw[List.set_eq_take_append_cons_drop,if_pos hi]; simp
 simp[this]
theorem fP {K:RM→Prop} (l' : List AV) (h:M.heap b=some (.row l p e 0)) (hi:i<l.length) (hc:x.cells=[x]) (h1:oneCell x=true) (hl:l.set i x=l') : aR M (.ptr b i) x 1 K=K (M.put b (.row l' p e 0)):=by
 rw[Al h hi hc h1,hl]
theorem vS {K:AV→Prop} : eF (.ptr b 0) n K=K (.ptr b n):=by rw[iE,Nat.zero_add]
theorem NE {K:RM→Prop} (h:M.heap b=some (.row l p e 0)) (hn:x.cells.length=n) (hl:l.length=n) (h1:x.cells.all oneCell=true) : aR M (.ptr b 0) x n K=K (M.put b (.row x.cells p e 0)):=by
 rw[Gd,RM.Iq h,IU (by rw[hn,hl]) h1]
 simp[hn]
theorem uN {c:Nat} {y z:RB} (h:M.heap b=some y) (hb:b≠c) : (M.put c z).heap b=some y:=by
 simp only[RM.put]; rw[if_neg hb]; exact h
theorem aF (y:RB) : (M.put b y).heap b=some y:=RM.yG _ _
theorem rO {y z:RB} (h:M.heap b=some y) (hb:b<M.next) : (M.push z).heap b=some y:=by
 simp only[RM.push]; rw[if_neg (by omega)]; exact h
theorem dB (y:RB) : (M.push y).next=M.next + 1:=rfl
theorem zB (c:Nat) (y:RB) : (M.put c y).next=M.next:=rfl
theorem aa.new {bs:List Nat} (h:aa bs M M') {b:Nat} (y:RB) (hb:M.next≤b) : aa bs M (M'.put b y):=h.put y (.inl hb)
end
variable {M:RM}
theorem dm {a:AV} {l:List AV} {K:AV→Prop} : bA (.tup (a :: l)) 0 K=K a:=by rw[yR]; simp
theorem dQ {a b:AV} {l:List AV} {K:AV→Prop} : bA (.tup (a :: b :: l)) 1 K=K b:=by rw[yR]; simp
theorem lH {a b c:AV} {l:List AV} {K:AV→Prop} : bA (.tup (a :: b :: c :: l)) 2 K=K c:=by rw[yR]; simp
theorem NP {a b c d:AV} {l:List AV} {K:AV→Prop} : bA (.tup (a :: b :: c :: d :: l)) 3 K=K d:=by rw[yR]; simp
theorem jv {p q:Prop} : aC (Bo true) p q=p:=by simp[Kb]
theorem iI {p q:Prop} : aC (Bo false) p q=q:=by simp[Kb]
theorem aZ {b:Bool} {p q:Prop} (h1:b=true→p) (h2:b=false→q) : aC (Bo b) p q:=⟨h1,h2⟩
theorem dY {f g:ah→Prop} {k:ah} : az (Bo true) true f g k=f k:=rfl
theorem cZ {f g:ah→Prop} {k:ah} : az (Bo false) false f g k=f k:=rfl
theorem ik {f g:ah→Prop} {k:ah} : az (Bo true) false f g k=g k:=rfl
theorem nz {f g:ah→Prop} {k:ah} : az (Bo false) true f g k=g k:=rfl
theorem dC {f g:KR→Prop} {k:KR} : aY (Bo true) true f g k=f k:=rfl
theorem JU {w:Bool} {f g:ah→Prop} {k:ah} : az .undef w f g k=g k:=rfl
theorem dK {a b:AV} {K:AV→Prop} : bn (Bo true) a b K=K a:=by rw[JY]; rfl
theorem gZ {a b:AV} {K:AV→Prop} : bn (Bo false) a b K=K b:=by rw[JY]; rfl
theorem aO.known {size:Nat} {v:AV} {cs:List AV} {n:Nat} (h:aO M size v cs n) : known v=true:=by
 cases h <;> rfl
theorem jJ.known {α:Type} {R:nQ α} {v:AV} {xs:List α} {S:Nat→Prop} (h:jJ R M v xs S) : known v=true:=let ⟨_,h1,_,_⟩:=h; h1.known
theorem kK {t:TypeId} {cs:List AV} {K:RB→(Nat→AV)→Prop} (h1:cs.all oneCell=true) (h2:1≤cs.length) : kZ t (.agg cs) K=K (.row cs false t 0) (fun b=>.ptr b 0):=by
 unfold kZ
 exact propext ⟨fun h=>h.2.2,fun h=>⟨h1,h2,h⟩⟩
def nQ.pre {α β:Type} (E:Enc α) (R:nQ β) : nQ (α × β) where
 size:=E.size + R.size
 rel M cs a S:=∃ ds,cs=E.cells a.1++ds∧R.rel M ds a.2 S
 len h:=by obtain⟨ds,rfl,h⟩:=h; rw[List.length_append,E.len,R.len h]
 one h:=by obtain⟨ds,rfl,h⟩:=h; rw[List.all_append,E.one,R.one h]; rfl
 mono h hs:=by obtain⟨ds,rfl,h⟩:=h; exact⟨ds,rfl,R.mono h hs⟩
 lt h:=by obtain⟨ds,rfl,h⟩:=h; exact⟨ds,rfl,R.lt h⟩
 keep h hk hb:=by obtain⟨ds,rfl,h⟩:=h; exact⟨ds,rfl,R.keep h hk hb⟩
def nQ.post {α β:Type} (R:nQ α) (E:Enc β) : nQ (α × β) where
 size:=R.size + E.size
 rel M cs a S:=∃ ds,cs=ds++E.cells a.2∧R.rel M ds a.1 S
 len h:=by obtain⟨ds,rfl,h⟩:=h; rw[List.length_append,E.len,R.len h]
 one h:=by obtain⟨ds,rfl,h⟩:=h; rw[List.all_append,E.one,R.one h]; rfl
 mono h hs:=by obtain⟨ds,rfl,h⟩:=h; exact⟨ds,rfl,R.mono h hs⟩
 lt h:=by obtain⟨ds,rfl,h⟩:=h; exact⟨ds,rfl,R.lt h⟩
 keep h hk hb:=by obtain⟨ds,rfl,h⟩:=h; exact⟨ds,rfl,R.keep h hk hb⟩
def nQ.map {α β:Type} (R:nQ α) (g:β→α) : nQ β where
 size:=R.size
 rel M cs a S:=R.rel M cs (g a) S
 len h:=R.len h
 one h:=R.one h
 mono h hs:=R.mono h hs
 lt h:=R.lt h
 keep h hk hb:=R.keep h hk hb
end Go.Ab
namespace Go.Ab
open Go Go.RowKit Go.ChangeShapes
section
variable {H:Type} {enc:TypeId × Value→H} {P:Program} {w:World} {base:Nat} {spare:Nat→Bool} {held:Bool}
end
end Go.Ab
set_option maxRecDepth 10000
namespace Go.Ab
open Go Go.ChangeShapes
end Go.Ab
namespace Go.Ab
open Go Go.RowKit
section
variable {P:Program} {f:FuncId} {fn:Func} {w w' : World} {M:RM}
end
end Go.Ab
namespace Go.Ab.Sm
open Go Go.Ab
section
variable {i j:Nat} {K:AV→Prop}
theorem addN (h:i + j<4611686018427387904) : af .add (N .i64 (i:Int)) (N .i64 (j:Int)) K=K (N .i64 ((i + j:Nat) : Int)):=by
 rw[bq,aM (by omega) (by omega),Int.natCast_add]
theorem add1 (h:i<4611686018427387904) : af .add (N .i64 (i:Int)) (N .i64 1) K=K (N .i64 ((i + 1:Nat) : Int)):=by
 rw[bq,oP (by omega)]
theorem NM (h:j≤i) (hb:i<4611686018427387904) : af .sub (N .i64 (i:Int)) (N .i64 (j:Int)) K=K (N .i64 ((i - j:Nat) : Int)):=by
 rw[fM,aM (by omega) (by omega),show(i:Int) - (j:Int)=((i - j:Nat) : Int) by omega]
theorem lU:af .lss (N .i64 (i:Int)) (N .i64 (j:Int)) K=K (Bo (decide (i<j))):=by rw[kV,show decide ((i:Int)<(j:Int))=decide (i<j) by simp]
theorem Y0:af .leq (N .i64 (i:Int)) (N .i64 (j:Int)) K=K (Bo (decide (i≤j))):=by rw[DI,show decide ((i:Int)≤(j:Int))=decide (i≤j) by simp]
theorem Ye:af .eql (N .i64 (i:Int)) (N .i64 (j:Int)) K=K (Bo (decide (i=j))):=by
 rw[bM,show((i:Int) == (j:Int))=decide (i=j) by by_cases h:i=j <;> simp[h]; omega]
end
section
variable {M:RM} {c p:Bool} {f:ah→Prop} {P:RM→Prop} {G:AV→RM→Prop}
theorem TJ (hf:c=true→∀ k:ah,k (Bo p) M→f k) (hG:G (Bo (c && p)) M) :
  az (Bo c) true f (fun k=>k .undef M) (fun t M'=>bn (Bo c) t (Bo false) fun u=>G u M'):=by
 cases c with
 | false=>rw[nz]; dsimp only; rw[gZ]; exact hG
 | true=>rw[dY]; exact hf rfl _ (by rw[dK]; exact hG)
theorem Y8 (hf:c=false→∀ k:ah,k (Bo p) M→f k) (hG:G (Bo (c || p)) M) :
  az (Bo c) false f (fun k=>k .undef M) (fun t M'=>bn (Bo c) (Bo true) t fun u=>G u M'):=by
 cases c with
 | true=>rw[ik]; dsimp only; rw[dK]; exact hG
 | false=>rw[cZ]; exact hf rfl _ (by rw[gZ]; exact hG)
end
section
variable {M:RM} {c p:Bool} {f:KR→Prop} {G:AV→RM→Prop}
end
end Go.Ab.Sm
namespace Go.Ab
open Go Go.RowKit
inductive jr (B:Nat) (P:Program) (M:RM) : TypeId→List AV→Prop
 | bool (t:TypeId) (b:Bool) : P.underlying t=some .bool→jr B P M t [Bo b]
 | int (t:TypeId) (k:IntKind) (n:Int) : P.underlying t=some (.int k)→k.min≤n→n≤k.max→jr B P M t [N k n]
 | str (t:TypeId) (s:List UInt8) : P.underlying t=some .string→s.length≤B→jr B P M t [St s]
 | YD (t e:TypeId) : P.underlying t=some (.slice e)→jr B P M t [bK]
 | emp (t e:TypeId) (b:Nat) : P.underlying t=some (.slice e)→jr B P M t [.emp b]
 | slc (t e:TypeId) (b o n c:Nat) (cs:List AV) : P.underlying t=some (.slice e)→b<M.next→n≤c→n≤B→M.loads b o (n * P.cellsOf e)=some cs →
   (∀ i,i<n→jr B P M e ((cs.drop (i * P.cellsOf e)).take (P.cellsOf e)))→jr B P M t [.slc b o n (.ex c)]
 | struct (t:TypeId) (fs:Array Field) (cs:List AV) : P.underlying t=some (.struct fs)→cs.length=P.cellsOf t →
   (∀ (i:Nat) (f:Field),fs[i]?=some f→jr B P M f.type ((cs.drop f.offset).take (P.cellsOf f.type)))→jr B P M t cs
 | array (t e:TypeId) (n:Nat) (cs:List AV) : P.underlying t=some (.array n e)→cs.length=P.cellsOf t →
   (∀ i,i<n→jr B P M e ((cs.drop (i * P.cellsOf e)).take (P.cellsOf e)))→jr B P M t cs
 | other (t:TypeId) (cs:List AV) : Pp (P.underlying t)=true→jr B P M t cs
 | zero (t e:TypeId) (cs:List AV) : P.underlying t=some (.slice e)→P.cellsOf e=0→jr B P M t cs
section
variable {H:Type} {enc:TypeId × Value→H} {P:Program} {base:Base} {w:World}
variable {bulk:DataW H→Nat} {B:Nat}
structure aaa (bulk:DataW H→Nat) : Prop where
 str:∀ bs:List UInt8,bs.length≤bulk (.lit (.string bs))
 len:∀ es sp:List (DataW H),es.length≤bulk (.slice es sp)
 elem:∀ (es sp:List (DataW H)) d,d∈es→bulk d≤bulk (.slice es sp)
 spare:∀ (es sp:List (DataW H)) d,d∈sp→bulk d≤bulk (.slice es sp)
 agg:∀ (ps:List (DataW H)) d,d∈ps→bulk d≤bulk (.agg ps)
end
section
variable {P:Program} {M:RM} {t:TypeId} {cs:List AV} {B:Nat}
def Rx:AV→Prop
 | .slc _ _ n (.ex c)=>n≤c
 | .slc _ _ _ (.op e)=>e=1
 | _=>True
end
def Kg (B:Nat) (P:Program) (M:RM) (t:TypeId) (v:AV) : Prop :=
 match Kj P t with
 | true=>∃ cs,v=.agg cs∧jr B P M t cs
 | false=>jr B P M t [v]
theorem Kg.one {B:Nat} {P:Program} {M:RM} {t:TypeId} {v:AV} (h:Kg B P M t v) (ha:Kj P t=false) : jr B P M t [v]:=by
 unfold Kg at h; rw[ha] at h; exact h
section
variable {H:Type} {enc:TypeId × Value→H} {P:Program} {base:Base} {w:World} {bulk:DataW H→Nat} {B:Nat}
end
section
variable {P:Program} {ρ:Ren} {M:RM} {w w' : World}
theorem P8 {base:Base} {A:AW} (hw0:aS P base ρ A w) (hbl:Below w.heap.size w w') (hbase:base≤w.heap.size) {x:cB} {ob:Obj} {i:dU} (hge:w.heap.size≤i.cb) (hob:w'.heap[i.cb]?=some ob)
  (hrel:fw P (ρ.add A.next i) i x ob) : aS P base (ρ.add A.next i) (A.push x) w'∧Step base A.next ρ w (ρ.add A.next i) w':=by
 have hb:ρ A.next=none:=hw0.fresh (Nat.le_refl _)
 have hw:=pW hw0 x
 have hx:(A.push x).heap.get A.next=some x:=by simp[AW.push,Tree.aL]
 have hlt:A.next<(A.push x).next:=by simp[AW.push]
 have hle:=Ren.ma (i:=i) hb
 have hadd:∀ c j,ρ.add A.next i c=some j→(c=A.next∧j=i)∨(c≠A.next∧ρ c=some j):=by
  intro c j h
  unfold Ren.add at h
  split at h
  ·cases h; exact .inl ⟨‹_›,rfl⟩
  ·exact .inr ⟨‹_›,h⟩
 have hcb:i.cb<w'.heap.size:=(Array.getElem?_eq_some_iff.1 hob).1
 refine⟨⟨?_, ?_, ?_,hw.top, ?_,base.low w _ (fun c hc=>hbl.block c (by omega)) hw.inv⟩,⟨hbl.os,hbl.tape,hbl.output,hbl.size, ?_, ?_, ?_,fun c hc=>hbl.block c (by omega)⟩⟩
 ·intro c j h
  rcases hadd c j h with⟨rfl,rfl⟩ | ⟨_,h⟩
  ·exact⟨hlt,hcb⟩
  ·have:=hw.dom c j h; have:=hbl.size; omega
 ·intro c j y h hy
  rcases hadd c j h with⟨rfl,rfl⟩ | ⟨_,h⟩
  ·rw[hx] at hy; cases hy
   exact⟨ob,hob,hrel⟩
  ·obtain⟨o,ho,hr⟩:=hw.blk c j y h hy
   exact⟨o,by rw[hbl.block j.cb (hw.dom c j h).2]; exact ho,hr.mono hle⟩
 ·intro b1 b2 i1 i2 x1 x2 h1 h2 g1 g2 he
  rcases hadd _ _ h1 with⟨e1,f1⟩ | ⟨_,k1⟩ <;> rcases hadd _ _ h2 with⟨e2,f2⟩ | ⟨_,k2⟩
  ·rw[e1,e2]
  ·have:=(hw.dom _ _ k2).2; subst f1; omega
  ·have:=(hw.dom _ _ k1).2; subst f2; omega
  ·exact hw.sep _ _ _ _ _ _ k1 k2 g1 g2 he
 ·intro c j y h hy
  rcases hadd c j h with⟨rfl,rfl⟩ | ⟨_,h⟩
  ·omega
  ·exact hw.lo c j y h hy
 ·intro c hc _; exact hbl.block c hc
 ·intro c hc; unfold Ren.add; rw[if_neg (by omega)]
 ·intro c j h
  rcases hadd c j h with⟨rfl,rfl⟩ | ⟨_,h⟩
  ·exact .inr hge
  ·exact .inl ⟨c,j,h,rfl⟩
theorem fD.Vp {f:FuncId} {args:List AV} {T n:Nat} {cs:List AV} {Q:ah} (hP:GN P f) (hsz:aN P T=some 1) (h1:cs.all oneCell=true) (hlen:cs.length=n)
  (h:∀ (ρ:Ren) (w:World) (us:List Value),aH ρ args us→bg P ρ M w→Calls P f ⟨us⟩ w fun e w'=>∃ v xs,e=.returned v∧w'.ownsRow w.heap.size T 1 v n xs∧(∀ ρ',aH ρ' cs xs)∧Below w.heap.size w w')
  (hQ:∀ v M',Own M' M.next T 1 v cs n→aa [] M M'→Q v M') : fD P f args M Q:=by
 refine⟨hP,fun ρ w us hargs hw=>(h ρ w us hargs hw).mono fun e w' hR=>?_⟩
 obtain⟨v,xs,rfl,⟨hxl,hrow⟩,hrel,hbl⟩:=hR
 rcases hrow with⟨rfl,h0⟩ | ⟨g,cap,cur,rfl,hge,hg,r1,r2,r3,r4⟩
 ·have:cs=[]:=List.length_eq_zero_iff.1 (by omega)
  subst this
  have hn:n=0:=h0
  subst hn
  exact⟨_,bK,M,ρ,rfl,After.below hw hbl,.sc _ rfl,hQ _ _ .nil (aa.refl _ _)⟩
 ·obtain⟨A,hA⟩:=hw
  obtain⟨tr,htr⟩:=iU cs .leaf 0 h1
  obtain⟨_,hget⟩:=dO _ _ _ htr
  obtain⟨_,hcell⟩:=u6 htr
  have hblk:fw P (ρ.add A.next ⟨g,0,cap,1⟩) ⟨g,0,cap,1⟩ (.row n tr [] true T 0) (.cells cur T (0,0)):=by
   refine⟨cur,(0,0),rfl,⟨by show 0 + n≤_; omega,fun k x hx=>?_,fun k _ _=>by simp,fun h=>(by cases h),fun _=>⟨Nat.one_pos,by show cur.size=0 + cap * 1; omega,hsz⟩,rfl⟩⟩
   obtain⟨hk1,hk2⟩:=gm hx
   rw[hget,if_pos (by omega),Nat.sub_zero] at hk2
   obtain⟨v,hv,hvr⟩:=(hrel (ρ.add A.next ⟨g,0,cap,1⟩)).get hk2
   refine⟨v, ?_,hvr⟩
   show cur[0 + k]?=some v
   rw[Nat.zero_add,← Array.getElem?_toList]
   rw[← r4,Nat.mul_one,List.getElem?_take_of_lt (by omega)] at hv
   exact hv
  obtain⟨q1,q2⟩:=P8 hA.rel hbl (Nat.le_trans (show M.base.n≤M.lo from Nat.le_refl _) hA.size) (i:=⟨g,0,cap,1⟩) hge hg hblk
  obtain⟨k1,k2,k3⟩:=RM.wQ hA (x:=.row cs true T 0) (y:=.row n tr [] true T 0) ⟨hlen,rfl,rfl,rfl,fun k v hk=>by rw[← hlen]; exact hcell k v hk⟩
  have hnx:=hA.next
  refine⟨_,.slc M.next 0 n (.op 1),M.push (.row cs true T 0),_,rfl,gV hA q2 q1 k1 k2 (by simp[AW.push]) k3, ?_,hQ _ _ (.op M.next n cs (Nat.le_refl _) (by simp[RM.push]) (RM.bN _) (by omega)) ((aa.refl _ _).push _)⟩
  have:=ae.gU (ρ:=ρ.add A.next ⟨g,0,cap,1⟩) M.next 0 n ⟨g,0,cap,1⟩ (by rw[← hnx]; simp[Ren.add]) (by show 0 + n≤cap; omega)
  simpa using this
end
end Go.Ab
namespace Go.Ab.Sha
open Go Go.Ab
abbrev Str:=List UInt8
structure Bs (M:RM) (v:AV) (b:Str) : Prop where
 sl:Sl BY M v b
 cap:Rx v
theorem Bs.keep {M M' : RM} {v:AV} {b:Str} {bs:List Nat} (h:Bs M v b) (k:aa bs M M') (hb:∀ x∈ak v,x ∉ bs) : Bs M' v b:=⟨aO.keep h.sl k hb,h.cap⟩
theorem Bs.len {M:RM} {v:AV} {b:Str} (h:Bs M v b) {K:AV→Prop} : bI v K=K (N .i64 (b.length:Int)):=aO.len h.sl
theorem Bs.str {M:RM} {v:AV} {b:Str} (h:Bs M v b) {K:AV→Prop} : iD M v K=K (St b):=Sl.str h.sl
theorem Ub {M:RM} {base T n:Nat} {v:AV} {cs:List AV} (h:Own M base T 1 v cs n) : Rx v:=by
 cases h with
 | nil=>trivial
 | ex0 b o _ _ _=>exact Nat.le_refl _
 | op b n cs _ _ _ _=>rfl
theorem Bs.own {M:RM} {base T:Nat} {v:AV} {b:Str} (h:Ow BY M base T v b) : Bs M v b:=⟨Own.lN h,Ub h⟩
theorem yM {M:RM} {b o n:Nat} {x:Str} (h:M.loads b o (n * 1)=some (BY.row x)) {l u:Nat} (h1:l≤u) (h2:u≤n) : M.loads b (o + l * 1) ((u - l) * 1)=some (BY.row ((x.drop l).take (u - l))):=by
 have:=nk h (l * 1) ((u - l) * 1) (by omega)
 rw[this]
 congr 1
 have e1:=BY.sD x l
 have e2:=BY.sN (x.drop l) (u - l)
 rw[show l * 1=l * BY.size from rfl,e1,show(u - l) * 1=(u - l) * BY.size from rfl,e2]
theorem Bs.sub {M:RM} {v:AV} {b:Str} (h:Bs M v b) {lo hi:Option AV} {l u:Nat} (e1:bnd 0 lo=some l) (e2:bnd b.length hi=some u) (h1:l≤u) (h2:u≤b.length) {K:AV→Prop}
  (hK:∀ v',Bs M v' ((b.drop l).take (u - l))→(∀ x∈ak v',x∈ak v)→K v') : jY (dJ 1 v lo hi none) K:=by
 obtain⟨hs,hc⟩:=h
 have hlen:((b.drop l).take (u - l)).length=u - l:=by simp; omega
 have zero:u=l→∀ {w:AV},aO M 1 w [] 0→Sl BY M w ((b.drop l).take (u - l)):=by
  intro e w hw
  subst e
  rw[Nat.sub_self,List.take_zero]
  exact hw
 unfold Sl at hs
 generalize hn:b.length=n at *
 generalize hcs:BY.row b=cs at *
 cases hs with
 | nil =>
   have l0:l=0:=by omega
   have u0:u=0:=by omega
   subst l0 u0
   exact⟨bK,by simp only[dJ,bK,e1,e2],hK _ ⟨zero rfl .nil,trivial⟩ (fun x hx=>hx)⟩
 | emp b0 =>
   have l0:l=0:=by omega
   have u0:u=0:=by omega
   subst l0 u0
   exact⟨.emp b0,by simp only[dJ,e1,e2],hK _ ⟨zero rfl (.emp _),trivial⟩ (fun x hx=>hx)⟩
 | slc b0 o _ cap cs hb hl =>
   subst hcs
   have hl':=yM hl h1 h2
   have whole:∀ cap',Rx (.slc b0 (o + l * 1) (u - l) cap')→(Bs M (.slc b0 (o + l * 1) (u - l) cap') ((b.drop l).take (u - l))):=fun cap' hcap=>⟨by
    unfold Sl; rw[hlen]; exact .slc _ _ _ _ _ hb hl',hcap⟩
   cases cap with
   | ex c =>
     have hcn:n≤c:=hc
     by_cases e:c=l
     ·subst e
      have hu:u=c:=by omega
      subst hu
      refine⟨.slc b0 o 0 (.ex 0),by simp only[dJ,e1,e2]; rw[if_pos ⟨Nat.le_refl _,Nat.le_refl _⟩]; simp,hK _ ⟨zero rfl (.slc _ _ _ _ _ hb ?_),Nat.le_refl _⟩ (fun x hx=>hx)⟩
      have:=yM hl (Nat.le_refl 0) (Nat.zero_le n)
      simpa [BY,Enc.row] using this
     ·exact⟨_,by simp only[dJ,e1,e2]; rw[if_pos ⟨h1,by omega⟩,if_neg e],hK _ (whole _ (by show u - l≤c - l; omega)) (fun x hx=>hx)⟩
   | op esz =>
     have he:esz=1:=hc
     subst he
     by_cases e:n≤l
     ·have hu:u=l:=by omega
      exact⟨.emp b0,by simp only[dJ,e1,e2]; simp[h1,h2,e],hK _ ⟨zero hu (.emp _),trivial⟩ (fun x hx=>by simp[ak] at hx)⟩
     ·exact⟨_,by simp only[dJ,e1,e2]; simp only[and_true]; rw[if_pos ⟨h1,h2⟩,if_neg e],hK _ (whole (.op 1) rfl) (fun x hx=>hx)⟩
theorem BF (d n:Nat) (k:IntKind) : bnd d (some (N k (n:Int)))=some n:=by simp[bnd]
theorem Vw (d:Nat) : bnd d none=some d:=rfl
theorem aa.own {bs:List Nat} {M M1 M2:RM} {v:AV} (k1:aa bs M M1) (k2:aa (ak v) M1 M2) (hv:∀ b∈ak v,M.next≤b) : aa bs M M2 :=
 ⟨k2.base.trans k1.base,Nat.le_trans k1.next k2.next,fun x hx hb=>by
  rw[k2.heap x (Nat.lt_of_lt_of_le hx k1.next) (fun h=>by have:=hv x h; omega),k1.heap x hx hb]⟩
theorem jT {M:RM} {b n:Nat} {l cs:List AV} {p:Bool} {e:Nat} {K:RM→Prop} (h:M.heap b=some (.row l p e 0)) (hn:cs.length=n) (hl:l.length=n) (h1:cs.all oneCell=true) :
  aR M (.ptr b 0) (.agg cs) n K=K (M.put b (.row cs p e 0)):=NE (x:=.agg cs) h hn hl h1
theorem Bs.lt {M:RM} {v:AV} {b:Str} (h:Bs M v b) : ∀ x∈ak v,x<M.next:=aO.lt h.sl
theorem yP {br:Nat} {M M0 M1:RM} (k0:aa [] M M0) (h:aa [br] M0 M1) (hb:M.next≤br) : aa [] M M1 :=
 ⟨h.base.trans k0.base,Nat.le_trans k0.next h.next,fun x hx _=>by rw[h.heap x (Nat.lt_of_lt_of_le hx k0.next) (fun e=>by simp at e; omega),k0.heap x hx (by simp)]⟩
theorem fu (s:Str) : (BY.row s).length=s.length:=by rw[Enc.gP]; simp[BY]
theorem Bs.read {M:RM} {v:AV} {b:Str} (h:Bs M v b) {i:Nat} (hi:i<b.length) {K:AV→Prop} : (bf v (N .i64 (i:Int)) 1 fun t=>ag M t K)=K (By b[i]):=by
 obtain⟨c,o,_,_,hix,hld⟩:=h.sl.PG (i:Int) hi
 rw[hix,iX,hld _ rfl]
 exact propext ⟨fun⟨v,e,k⟩=>by cases e; exact k,fun k=>⟨_,rfl,k⟩⟩
theorem Fv {T:Nat} {M:RM} {z cs:List AV} {K:AV→RM→Prop} (n:Nat) (hz:z.length=n) (hc:cs.length=n) (h1:cs.all oneCell=true)
  (hK:∀ M',aa [] M M'→M'.heap M.next=some (.row cs false T 0)→M.next<M'.next→K (.ptr M.next 0) M') :
  aW (.row z false T 0) (fun b=>.ptr b 0) M fun t M1=>aR M1 t (.agg cs) n fun M2=>K t M2:=by
 simp only[aV]
 have n1:(M.push (.row z false T 0)).heap M.next=some (.row z false T 0):=by simp[RM.push]
 rw[jT n1 hc hz h1]
 exact hK _ (((aa.refl _ _).push _).new _ (Nat.le_refl _)) (aF _) (by simp[RM.push,RM.put])
theorem Sd {b n i:Nat} {c:Cap} {K:AV→Prop} (h:i<n) : bf (.slc b 0 n c) (N .i64 (i:Int)) 1 K=K (.ptr b i):=by
 rw[sJ,Nat.zero_add,Nat.mul_one,Int.toNat_natCast]
 apply propext
 constructor
 ·exact fun h=>h.2.2
 ·exact fun k=>⟨by omega,by omega,k⟩
def uE (f:(List AV→RM→Prop)→Prop) (g:List AV→RM→Prop) : Prop:=f g
theorem fF (f:(List AV→RM→Prop)→Prop) (g:List AV→RM→Prop) : fG f g=uE f g:=rfl
theorem fK {H:(List AV→RM→Prop)→Prop} {G:List AV→RM→Prop} (P:List AV→RM→Prop) (hT:∀ xs M,P xs M→G xs M)
  (hH:∀ J:List AV→RM→Prop,(∀ xs M,P xs M→J xs M)→H J) : uE H G:=hH G hT
theorem G5 {s:List UInt8} {i:Nat} (hi:i<s.length) (kd:IntKind) (K:AV→Prop) : rW (St s) (N kd (i:Int)) K=K (By s[i]):=by
 rw[Uq]
 apply propext
 constructor
 ·rintro⟨_,b,hb,hk⟩
  rw[Int.toNat_natCast,List.getElem?_eq_getElem hi] at hb
  cases hb; exact hk
 ·intro hk; exact⟨by omega,s[i],by rw[Int.toNat_natCast,List.getElem?_eq_getElem hi],hk⟩
theorem Jg {T bytes:Nat} {zs:List AV} {K:RB→(Nat→AV)→Prop} (h:K (.row [] false T 0) (fun b=>.slc b 0 0 (.ex 0))) : uJ T bytes zs (N .i64 0) (N .i64 0) K :=
 ⟨_,_,0,0,rfl,rfl,by omega,by omega,by simp,by simp,h⟩
theorem fJ {k:IntKind} {a:Int} {K:AV→Prop} : BM (N k a) K=K (N k (Ah k (if k.signed then -1 else k.max) a)):=by
 apply propext; unfold BM
 constructor
 ·rintro⟨k',a',h1,hk⟩; cases h1; exact hk
 ·intro hk; exact⟨k,a,rfl,hk⟩
set_option maxRecDepth 100000
def vD (p1:au) (p2:Nat) (p3:au) (a0:AV) (M0:RM) (Q:ah) : Prop:=p1 [a0] M0 fun j d=>aW (.row [(N .u8 0),(N .u8 0),(N .u8 0),(N .u8 0),(N .u8 0),(N .u8 0),(N .u8 0),(N .u8 0),(N .u8 0),(N .u8 0),(N .u8 0),(N .u8 0),(N .u8 0),(N .u8 0),(N .u8 0),(N .u8 0),(N .u8 0),(N .u8 0),(N .u8 0),(N .u8 0),(N .u8 0),(N .u8 0),(N .u8 0),(N .u8 0),(N .u8 0),(N .u8 0),(N .u8 0),(N .u8 0),(N .u8 0),(N .u8 0),(N .u8 0),(N .u8 0)] false p2 0) (fun i=>.ptr i 0) d fun c e=>aR e c j 32 fun g=>jY (zW 32 1 c none none) fun l=>p3 [l] g fun m h=>Q m h
def BD (p1:Nat) (p2:au) (p3:Nat) (p4:au) (p5:Nat) (p6 p7:au) (p8:Nat) (a0:AV) (M0:RM) (Q:ah) : Prop:=aW (.row [(N .u8 0),(N .u8 0),(N .u8 0),(N .u8 0),(N .u8 0),(N .u8 0),(N .u8 0),(N .u8 0),(N .u8 0),(N .u8 0),(N .u8 0),(N .u8 0),(N .u8 0),(N .u8 0),(N .u8 0),(N .u8 0),(N .u8 0),(N .u8 0),(N .u8 0),(N .u8 0),(N .u8 0),(N .u8 0),(N .u8 0),(N .u8 0),(N .u8 0),(N .u8 0),(N .u8 0),(N .u8 0),(N .u8 0),(N .u8 0),(N .u8 0),(N .u8 0)] false p1 0) (fun c=>.ptr c 0) M0 fun u v=>p2 [] v fun vf w=>aW (.row [(N .u32 0),(N .u32 0),(N .u32 0),(N .u32 0),(N .u32 0),(N .u32 0),(N .u32 0),(N .u32 0),(N .u32 0),(N .u32 0),(N .u32 0),(N .u32 0),(N .u32 0),(N .u32 0),(N .u32 0),(N .u32 0),(N .u32 0),(N .u32 0),(N .u32 0),(N .u32 0),(N .u32 0),(N .u32 0),(N .u32 0),(N .u32 0),(N .u32 0),(N .u32 0),(N .u32 0),(N .u32 0),(N .u32 0),(N .u32 0),(N .u32 0),(N .u32 0),(N .u32 0),(N .u32 0),(N .u32 0),(N .u32 0),(N .u32 0),(N .u32 0),(N .u32 0),(N .u32 0),(N .u32 0),(N .u32 0),(N .u32 0),(N .u32 0),(N .u32 0),(N .u32 0),(N .u32 0),(N .u32 0),(N .u32 0),(N .u32 0),(N .u32 0),(N .u32 0),(N .u32 0),(N .u32 0),(N .u32 0),(N .u32 0),(N .u32 0),(N .u32 0),(N .u32 0),(N .u32 0),(N .u32 0),(N .u32 0),(N .u32 0),(N .u32 0)] false p3 0) (fun c=>.ptr c 0) w fun l x=>aR x l vf 64 fun B=>p4 [] B fun vg G=>aW (.row [(N .u32 0),(N .u32 0),(N .u32 0),(N .u32 0),(N .u32 0),(N .u32 0),(N .u32 0),(N .u32 0)] false p5 0) (fun c=>.ptr c 0) G fun h I=>aR I h vg 8 fun L=>bI a0 fun vh=>af .quo vh (N .i64 64) fun vi=>af .mul vi (N .i64 64) fun t=>bE (fun W i r=>af .lss (aj i 0) t fun vj=>aC vj ( af .add (aj i 0) (N .i64 64) fun vl=>jY (dJ 1 a0 (some (aj i 0)) (some vl) none) fun vm=>p6 [h,vm,l] r fun wo O=>af .add (aj i 0) (N .i64 64) fun vk=>W [vk] O) ( jY (dJ 1 a0 (some t) none none) fun vn=>p7 [vn] r fun vo P=>bW p8 1 [(N .u8 0)] [(0,1,(N .u8 128))] fun vb S=>aW vb S P fun vp R=>appW p8 1 1 [(N .u8 0)] false vo vp R fun vq y=>bE (fun X m n=>bI (aj m 0) fun vr=>af .rem vr (N .i64 64) fun vs=>af .neq vs (N .i64 56) fun vt=>aC vt ( bW p8 1 [(N .u8 0)] [(0,1,(N .u8 0))] fun vc U=>aW vc U n fun vu z=>appW p8 1 1 [(N .u8 0)] false (aj m 0) vu z fun vv A=>X [vv] A) ( bE (fun Y d o=>af .lss (aj d 1) (N .i64 8) fun vw=>aC vw ( bI a0 fun vx=>eD .u64 vx fun vy=>af .mul vy (N .u64 8) fun vz=>af .mul (N .i64 8) (aj d 1) fun v0=>af .sub (N .i64 56) v0 fun v1=>iq .shr vz v1 fun v2=>eD .u8 v2 fun v3=>bW p8 1 [(N .u8 0)] [(0,1,v3)] fun vd V=>aW vd V o fun v4 C=>appW p8 1 1 [(N .u8 0)] false (aj d 0) v4 C fun v5 D=>af .add (aj d 1) (N .i64 1) fun v6=>Y [v5,v6] D) ( bE (fun Z j p=>bI (aj d 0) fun v7=>af .lss (aj j 0) v7 fun v8=>aC v8 ( af .add (aj j 0) (N .i64 64) fun wa=>jY (dJ 1 (aj d 0) (some (aj j 0)) (some wa) none) fun wb=>p6 [h,wb,l] p fun wp E=>af .add (aj j 0) (N .i64 64) fun v9=>Z [v9] E) ( aW (.row [(N .u8 0),(N .u8 0),(N .u8 0),(N .u8 0),(N .u8 0),(N .u8 0),(N .u8 0),(N .u8 0),(N .u8 0),(N .u8 0),(N .u8 0),(N .u8 0),(N .u8 0),(N .u8 0),(N .u8 0),(N .u8 0),(N .u8 0),(N .u8 0),(N .u8 0),(N .u8 0),(N .u8 0),(N .u8 0),(N .u8 0),(N .u8 0),(N .u8 0),(N .u8 0),(N .u8 0),(N .u8 0),(N .u8 0),(N .u8 0),(N .u8 0),(N .u8 0)] false p1 0) (fun c=>.ptr c 0) p fun s F=>bE (fun va e g=>af .lss (aj e 0) (N .i64 32) fun wc=>aC wc ( af .quo (aj e 0) (N .i64 4) fun wd=>bB h wd 8 1 fun we=>ag g we fun wf=>af .rem (aj e 0) (N .i64 4) fun wg=>af .mul (N .i64 8) wg fun wh=>af .sub (N .i64 24) wh fun wi=>iq .shr wf wi fun wj=>eD .u8 wj fun wk=>bB s (aj e 0) 32 1 fun wl=>aR g wl wk 1 fun H=>af .add (aj e 0) (N .i64 1) fun wm=>va [wm] H) ( dx g s 32 fun wn=>aR g u wn 32 fun q=>dx q u 32 fun ve=>Q ve q)) [(N .i64 0)] F)) [(N .i64 0)] o)) [(aj m 0),(N .i64 0)] n)) [vq] y)) [(N .i64 0)] L
def AL (p1 p2:Nat) (a0:AV) (M0:RM) (Q:ah) : Prop:=kZ p1 a0 fun n j=>aW n j M0 fun p e=>dx e p 32 fun y=>bE (fun m c d=>af .lss (aj c 1) (N .i64 32) fun z=>aC z ( Fx y (aj c 1) 32 fun g=>iq .shr g (N .u64 4) fun q=>rW (St [48,49,50,51,52,53,54,55,56,57,97,98,99,100,101,102]) q fun r=>af .and g (N .u8 15) fun s=>rW (St [48,49,50,51,52,53,54,55,56,57,97,98,99,100,101,102]) s fun t=>bW p2 2 [(N .u8 0)] [(0,1,r),(1,1,t)] fun o l=>Dx o l d fun u h A=>appW p2 1 1 [(N .u8 0)] false (aj c 0) u h fun v i=>af .add (aj c 1) (N .i64 1) fun w=>m [v,w] i) ( iD d (aj c 0) fun x=>Q x d)) [(.sc (.slice none 0 0)),(N .i64 0)] e
def yF (p1:Nat) (p2:au) (p3:Nat) (p4:au) (a0:AV) (M0:RM) (Q:ah) : Prop:=aW (.row [(N .u8 0),(N .u8 0),(N .u8 0),(N .u8 0),(N .u8 0),(N .u8 0),(N .u8 0),(N .u8 0),(N .u8 0),(N .u8 0),(N .u8 0),(N .u8 0),(N .u8 0),(N .u8 0),(N .u8 0),(N .u8 0),(N .u8 0),(N .u8 0),(N .u8 0),(N .u8 0),(N .u8 0),(N .u8 0),(N .u8 0),(N .u8 0),(N .u8 0),(N .u8 0),(N .u8 0),(N .u8 0),(N .u8 0),(N .u8 0),(N .u8 0),(N .u8 0)] false p1 0) (fun h=>.ptr h 0) M0 fun p r=>p2 [] r fun o s=>bA o 0 fun X=>bA o 1 fun Y=>bW p3 0 [(N .u8 0)] [] fun R E=>aW R E s fun Z t=>appW p3 1 1 [(N .u8 0)] false Z a0 t fun va y=>bW p3 1 [(N .u8 0)] [(0,1,(N .u8 128))] fun U G=>aW U G y fun vb C=>appW p3 1 1 [(N .u8 0)] false va vb C fun vc D=>bE (fun I i n=>bI (aj i 0) fun vd=>af .rem vd (N .i64 64) fun ve=>af .neq ve (N .i64 56) fun vf=>aC vf ( bW p3 1 [(N .u8 0)] [(0,1,(N .u8 0))] fun V H=>aW V H n fun vg u=>appW p3 1 1 [(N .u8 0)] false (aj i 0) vg u fun vh v=>I [vh] v) ( bI a0 fun vi=>eD .u64 vi fun vj=>af .mul vj (N .u64 8) fun vk=>bE (fun L c j=>af .geq (aj c 1) (N .i64 0) fun vl=>aC vl ( af .mul (N .i64 8) (aj c 1) fun vn=>eD .u64 vn fun vo=>iq .shr vk vo fun vp=>eD .u8 vp fun vq=>bW p3 1 [(N .u8 0)] [(0,1,vq)] fun S F=>aW S F j fun vr w=>appW p3 1 1 [(N .u8 0)] false (aj c 0) vr w fun vs x=>af .sub (aj c 1) (N .i64 1) fun vm=>L [vs,vm] x) ( bE (fun O d l=>bI (aj c 0) fun vt=>af .lss (aj d 1) vt fun vu=>aC vu ( af .add (aj d 1) (N .i64 64) fun vw=>jY (dJ 1 (aj c 0) (some (aj d 1)) (some vw) none) fun vx=>p4 [(aj d 0),Y,vx] l fun vy z=>af .add (aj d 1) (N .i64 64) fun vv=>O [vy,vv] z) ( aW (.row [(N .u8 0),(N .u8 0),(N .u8 0),(N .u8 0),(N .u8 0),(N .u8 0),(N .u8 0),(N .u8 0),(N .u8 0),(N .u8 0),(N .u8 0),(N .u8 0),(N .u8 0),(N .u8 0),(N .u8 0),(N .u8 0),(N .u8 0),(N .u8 0),(N .u8 0),(N .u8 0),(N .u8 0),(N .u8 0),(N .u8 0),(N .u8 0),(N .u8 0),(N .u8 0),(N .u8 0),(N .u8 0),(N .u8 0),(N .u8 0),(N .u8 0),(N .u8 0)] false p1 0) (fun h=>.ptr h 0) l fun q A=>bE (fun P e g=>af .lss (aj e 0) (N .i64 32) fun vz=>aC vz ( af .quo (aj e 0) (N .i64 4) fun v1=>bf (aj d 0) v1 1 fun v2=>ag g v2 fun v3=>af .rem (aj e 0) (N .i64 4) fun v4=>af .mul (N .i64 8) v4 fun v5=>af .sub (N .i64 24) v5 fun v6=>eD .u64 v6 fun v7=>iq .shr v3 v7 fun v8=>eD .u8 v8 fun v9=>bB q (aj e 0) 32 1 fun wa=>aR g wa v9 1 fun B=>af .add (aj e 0) (N .i64 1) fun v0=>P [v0] B) ( dx g q 32 fun wb=>aR g p wb 32 fun m=>dx m p 32 fun W=>Q W m)) [(N .i64 0)] A)) [X,(N .i64 0)] j)) [(aj i 0),(N .i64 7)] n)) [vc] D
def xN (p1:Nat) (a0:AV) (M0:RM) (Q:ah) : Prop:=uJ p1 1 [(N .u8 0)] (N .i64 0) (N .i64 0) fun m i=>aW m i M0 fun A e=>bE (fun l c d=>bI a0 fun B=>af .lss (aj c 1) B fun C=>aC C ( bf a0 (aj c 1) 1 fun p=>ag d p fun q=>iq .shr q (N .u64 4) fun r=>rW (St [48,49,50,51,52,53,54,55,56,57,97,98,99,100,101,102]) r fun s=>bf a0 (aj c 1) 1 fun t=>ag d t fun u=>af .and u (N .u8 15) fun v=>rW (St [48,49,50,51,52,53,54,55,56,57,97,98,99,100,101,102]) v fun w=>bW p1 2 [(N .u8 0)] [(0,1,s),(1,1,w)] fun n j=>Dx n j d fun x g D=>appW p1 1 1 [(N .u8 0)] false (aj c 0) x g fun y h=>af .add (aj c 1) (N .i64 1) fun o=>l [y,o] h) ( iD d (aj c 0) fun z=>Q z d)) [A,(N .i64 0)] e
def yC (p1:Nat) (p2:au) (a0:AV) (M0:RM) (Q:ah) : Prop:=aW (.row [(N .u8 0),(N .u8 0),(N .u8 0),(N .u8 0),(N .u8 0),(N .u8 0),(N .u8 0),(N .u8 0),(N .u8 0),(N .u8 0),(N .u8 0),(N .u8 0),(N .u8 0),(N .u8 0),(N .u8 0),(N .u8 0),(N .u8 0),(N .u8 0),(N .u8 0),(N .u8 0),(N .u8 0),(N .u8 0),(N .u8 0),(N .u8 0),(N .u8 0),(N .u8 0),(N .u8 0),(N .u8 0),(N .u8 0),(N .u8 0),(N .u8 0),(N .u8 0)] false p1 0) (fun i=>.ptr i 0) M0 fun c u=>aW (.row [(N .u8 0),(N .u8 0),(N .u8 0),(N .u8 0),(N .u8 0),(N .u8 0),(N .u8 0),(N .u8 0),(N .u8 0),(N .u8 0),(N .u8 0),(N .u8 0),(N .u8 0),(N .u8 0),(N .u8 0),(N .u8 0),(N .u8 0),(N .u8 0),(N .u8 0),(N .u8 0),(N .u8 0),(N .u8 0),(N .u8 0),(N .u8 0),(N .u8 0),(N .u8 0),(N .u8 0),(N .u8 0),(N .u8 0),(N .u8 0),(N .u8 0),(N .u8 0)] false p1 0) (fun i=>.ptr i 0) u fun l g=>AQ a0 fun va=>af .neq va (N .i64 64) fun C=>aC C ( dx g l 32 fun D=>aR g c D 32 fun m=>dx m c 32 fun z=>Q (.tup [z,(N .i64 14)]) m) ( bE (fun y e h=>af .lss (aj e 0) (N .i64 32) fun E=>aC E ( af .mul (N .i64 2) (aj e 0) fun F=>rW a0 F fun G=>af .mul (N .i64 2) (aj e 0) fun H=>af .add H (N .i64 1) fun I=>rW a0 I fun L=>p2 [G] h fun s w=>p2 [L] w fun t o=>af .gtr s (N .u8 15) fun j=>az j false (fun d=>d t o) (fun d=>d .undef o) fun O p=>az j false (fun x=>af .gtr O (N .u8 15) fun P=>x P p) (fun d=>d .undef p) fun R q=>bn j (Bo true) R fun S=>aC S ( jd [(N .u8 0),(N .u8 0),(N .u8 0),(N .u8 0),(N .u8 0),(N .u8 0),(N .u8 0),(N .u8 0),(N .u8 0),(N .u8 0),(N .u8 0),(N .u8 0),(N .u8 0),(N .u8 0),(N .u8 0),(N .u8 0),(N .u8 0),(N .u8 0),(N .u8 0),(N .u8 0),(N .u8 0),(N .u8 0),(N .u8 0),(N .u8 0),(N .u8 0),(N .u8 0),(N .u8 0),(N .u8 0),(N .u8 0),(N .u8 0),(N .u8 0),(N .u8 0)] [] fun U=>aR q c U 32 fun r=>dx r c 32 fun A=>Q (.tup [A,(N .i64 14)]) r) ( iq .shl s (N .u64 4) fun V=>af .or V t fun W=>bB l (aj e 0) 32 1 fun X=>aR q X W 1 fun v=>af .add (aj e 0) (N .i64 1) fun Y=>y [Y] v)) ( dx h l 32 fun Z=>aR h c Z 32 fun n=>dx n c 32 fun B=>Q (.tup [B,(N .i64 0)]) n)) [(N .i64 0)] g)
def nZ (p1:Nat) (M0:RM) (Q:ah) : Prop:=aW (.row [(N .u32 0),(N .u32 0),(N .u32 0),(N .u32 0),(N .u32 0),(N .u32 0),(N .u32 0),(N .u32 0),(N .u32 0),(N .u32 0),(N .u32 0),(N .u32 0),(N .u32 0),(N .u32 0),(N .u32 0),(N .u32 0),(N .u32 0),(N .u32 0),(N .u32 0),(N .u32 0),(N .u32 0),(N .u32 0),(N .u32 0),(N .u32 0),(N .u32 0),(N .u32 0),(N .u32 0),(N .u32 0),(N .u32 0),(N .u32 0),(N .u32 0),(N .u32 0),(N .u32 0),(N .u32 0),(N .u32 0),(N .u32 0),(N .u32 0),(N .u32 0),(N .u32 0),(N .u32 0),(N .u32 0),(N .u32 0),(N .u32 0),(N .u32 0),(N .u32 0),(N .u32 0),(N .u32 0),(N .u32 0),(N .u32 0),(N .u32 0),(N .u32 0),(N .u32 0),(N .u32 0),(N .u32 0),(N .u32 0),(N .u32 0),(N .u32 0),(N .u32 0),(N .u32 0),(N .u32 0),(N .u32 0),(N .u32 0),(N .u32 0),(N .u32 0)] false p1 0) (fun g=>.ptr g 0) M0 fun d e=>jd [(N .u32 0),(N .u32 0),(N .u32 0),(N .u32 0),(N .u32 0),(N .u32 0),(N .u32 0),(N .u32 0),(N .u32 0),(N .u32 0),(N .u32 0),(N .u32 0),(N .u32 0),(N .u32 0),(N .u32 0),(N .u32 0),(N .u32 0),(N .u32 0),(N .u32 0),(N .u32 0),(N .u32 0),(N .u32 0),(N .u32 0),(N .u32 0),(N .u32 0),(N .u32 0),(N .u32 0),(N .u32 0),(N .u32 0),(N .u32 0),(N .u32 0),(N .u32 0),(N .u32 0),(N .u32 0),(N .u32 0),(N .u32 0),(N .u32 0),(N .u32 0),(N .u32 0),(N .u32 0),(N .u32 0),(N .u32 0),(N .u32 0),(N .u32 0),(N .u32 0),(N .u32 0),(N .u32 0),(N .u32 0),(N .u32 0),(N .u32 0),(N .u32 0),(N .u32 0),(N .u32 0),(N .u32 0),(N .u32 0),(N .u32 0),(N .u32 0),(N .u32 0),(N .u32 0),(N .u32 0),(N .u32 0),(N .u32 0),(N .u32 0),(N .u32 0)] [(0,1,(N .u32 1116352408)),(1,1,(N .u32 1899447441)),(2,1,(N .u32 3049323471)),(3,1,(N .u32 3921009573)),(4,1,(N .u32 961987163)),(5,1,(N .u32 1508970993)),(6,1,(N .u32 2453635748)),(7,1,(N .u32 2870763221)),(8,1,(N .u32 3624381080)),(9,1,(N .u32 310598401)),(10,1,(N .u32 607225278)),(11,1,(N .u32 1426881987)),(12,1,(N .u32 1925078388)),(13,1,(N .u32 2162078206)),(14,1,(N .u32 2614888103)),(15,1,(N .u32 3248222580)),(16,1,(N .u32 3835390401)),(17,1,(N .u32 4022224774)),(18,1,(N .u32 264347078)),(19,1,(N .u32 604807628)),(20,1,(N .u32 770255983)),(21,1,(N .u32 1249150122)),(22,1,(N .u32 1555081692)),(23,1,(N .u32 1996064986)),(24,1,(N .u32 2554220882)),(25,1,(N .u32 2821834349)),(26,1,(N .u32 2952996808)),(27,1,(N .u32 3210313671)),(28,1,(N .u32 3336571891)),(29,1,(N .u32 3584528711)),(30,1,(N .u32 113926993)),(31,1,(N .u32 338241895)),(32,1,(N .u32 666307205)),(33,1,(N .u32 773529912)),(34,1,(N .u32 1294757372)),(35,1,(N .u32 1396182291)),(36,1,(N .u32 1695183700)),(37,1,(N .u32 1986661051)),(38,1,(N .u32 2177026350)),(39,1,(N .u32 2456956037)),(40,1,(N .u32 2730485921)),(41,1,(N .u32 2820302411)),(42,1,(N .u32 3259730800)),(43,1,(N .u32 3345764771)),(44,1,(N .u32 3516065817)),(45,1,(N .u32 3600352804)),(46,1,(N .u32 4094571909)),(47,1,(N .u32 275423344)),(48,1,(N .u32 430227734)),(49,1,(N .u32 506948616)),(50,1,(N .u32 659060556)),(51,1,(N .u32 883997877)),(52,1,(N .u32 958139571)),(53,1,(N .u32 1322822218)),(54,1,(N .u32 1537002063)),(55,1,(N .u32 1747873779)),(56,1,(N .u32 1955562222)),(57,1,(N .u32 2024104815)),(58,1,(N .u32 2227730452)),(59,1,(N .u32 2361852424)),(60,1,(N .u32 2428436474)),(61,1,(N .u32 2756734187)),(62,1,(N .u32 3204031479)),(63,1,(N .u32 3329325298))] fun i=>aR e d i 64 fun c=>dx c d 64 fun h=>Q h c
def vL (p1:Nat) (M0:RM) (Q:ah) : Prop:=aW (.row [(N .u32 0),(N .u32 0),(N .u32 0),(N .u32 0),(N .u32 0),(N .u32 0),(N .u32 0),(N .u32 0)] false p1 0) (fun g=>.ptr g 0) M0 fun d e=>jd [(N .u32 0),(N .u32 0),(N .u32 0),(N .u32 0),(N .u32 0),(N .u32 0),(N .u32 0),(N .u32 0)] [(0,1,(N .u32 1779033703)),(1,1,(N .u32 3144134277)),(2,1,(N .u32 1013904242)),(3,1,(N .u32 2773480762)),(4,1,(N .u32 1359893119)),(5,1,(N .u32 2600822924)),(6,1,(N .u32 528734635)),(7,1,(N .u32 1541459225))] fun i=>aR e d i 8 fun c=>dx c d 8 fun h=>Q h c
def mM (p1:Nat) (p2:au) (p3:Nat) (a0 a1 a2:AV) (M0:RM) (Q:ah) : Prop:=aW (.row [(N .u32 0),(N .u32 0),(N .u32 0),(N .u32 0),(N .u32 0),(N .u32 0),(N .u32 0),(N .u32 0),(N .u32 0),(N .u32 0),(N .u32 0),(N .u32 0),(N .u32 0),(N .u32 0),(N .u32 0),(N .u32 0),(N .u32 0),(N .u32 0),(N .u32 0),(N .u32 0),(N .u32 0),(N .u32 0),(N .u32 0),(N .u32 0),(N .u32 0),(N .u32 0),(N .u32 0),(N .u32 0),(N .u32 0),(N .u32 0),(N .u32 0),(N .u32 0),(N .u32 0),(N .u32 0),(N .u32 0),(N .u32 0),(N .u32 0),(N .u32 0),(N .u32 0),(N .u32 0),(N .u32 0),(N .u32 0),(N .u32 0),(N .u32 0),(N .u32 0),(N .u32 0),(N .u32 0),(N .u32 0),(N .u32 0),(N .u32 0),(N .u32 0),(N .u32 0),(N .u32 0),(N .u32 0),(N .u32 0),(N .u32 0),(N .u32 0),(N .u32 0),(N .u32 0),(N .u32 0),(N .u32 0),(N .u32 0),(N .u32 0),(N .u32 0)] false p1 0) (fun vc=>.ptr vc 0) M0 fun i vg=>bE (fun vn j m=>af .lss (aj j 0) (N .i64 16) fun xz=>aC xz ( af .mul (N .i64 4) (aj j 0) fun x0=>bf a1 x0 1 fun x1=>ag m x1 fun x2=>eD .u32 x2 fun x3=>iq .shl x3 (N .u64 24) fun x4=>af .mul (N .i64 4) (aj j 0) fun x5=>af .add x5 (N .i64 1) fun x6=>bf a1 x6 1 fun x7=>ag m x7 fun x8=>eD .u32 x8 fun x9=>iq .shl x9 (N .u64 16) fun ya=>af .or x4 ya fun yb=>af .mul (N .i64 4) (aj j 0) fun yc=>af .add yc (N .i64 2) fun yd=>bf a1 yd 1 fun ye=>ag m ye fun yf=>eD .u32 yf fun yg=>iq .shl yg (N .u64 8) fun yh=>af .or yb yh fun yi=>af .mul (N .i64 4) (aj j 0) fun yj=>af .add yj (N .i64 3) fun yk=>bf a1 yk 1 fun yl=>ag m yl fun ym=>eD .u32 ym fun yn=>af .or yi yn fun yo=>bB i (aj j 0) 64 1 fun yp=>aR m yp yo 1 fun vh=>af .add (aj j 0) (N .i64 1) fun yq=>vn [yq] vh) ( bE (fun vo l h=>af .lss (aj l 0) (N .i64 64) fun yr=>aC yr ( af .sub (aj l 0) (N .i64 15) fun yt=>bB i yt 64 1 fun yu=>ag h yu fun vd=>af .sub (aj l 0) (N .i64 2) fun yv=>bB i yv 64 1 fun yw=>ag h yw fun ve=>af .sub (aj l 0) (N .i64 16) fun yx=>bB i yx 64 1 fun t=>ag h t fun u=>iq .shr vd (N .u64 3) fun y5=>af .sub (aj l 0) (N .i64 7) fun y8=>bB i y8 64 1 fun v=>ag h v fun w=>iq .shr ve (N .u64 10) fun zh=>p2 [vd,(N .i64 7)] h fun y2 X=>ag X t fun y1=>(y1=u∧ag X v fun zc=>(zc=w∧p2 [vd,(N .i64 18)] X fun y3 Z=>ag Z t fun y0=>(y0=u∧ag Z v fun zb=>(zb=w∧af .xor y2 y3 fun y4=>af .xor y4 y5 fun y6=>af .add u y6 fun y7=>af .add y7 w fun zd=>p2 [ve,(N .i64 17)] Z fun ze va=>ag va t fun yz=>(yz=u∧ag va v fun za=>(za=w∧p2 [ve,(N .i64 19)] va fun zf vb=>ag vb t fun yy=>(yy=u∧ag vb v fun y9=>(y9=w∧af .xor ze zf fun zg=>af .xor zg zh fun zi=>af .add zd zi fun zj=>bB i (aj l 0) 64 1 fun zk=>aR vb zk zj 1 fun vm=>af .add (aj l 0) (N .i64 1) fun ys=>vo [ys] vm))))))))) ( dS a0 fun vr=>dx h vr 8 fun vs=>aW (.row [(N .u32 0),(N .u32 0),(N .u32 0),(N .u32 0),(N .u32 0),(N .u32 0),(N .u32 0),(N .u32 0)] false p3 0) (fun vc=>.ptr vc 0) h fun c vi=>aR vi c vs 8 fun vj=>bE (fun vp W d=>af .lss (aj W 0) (N .i64 64) fun vt=>aC vt ( bB c (N .i64 4) 8 1 fun vu=>ag d vu fun p=>bB c (N .i64 0) 8 1 fun vv=>ag d vv fun q=>bB c (N .i64 7) 8 1 fun y=>ag d y fun z=>bB c (N .i64 5) 8 1 fun A=>ag d A fun B=>af .and p B fun v8=>BM p fun v9=>bB c (N .i64 6) 8 1 fun C=>ag d C fun D=>af .and v9 D fun wd=>af .xor v8 wd fun we=>dS a2 fun wg=>bB wg (aj W 0) 64 1 fun E=>ag d E fun F=>bB i (aj W 0) 64 1 fun G=>ag d G fun H=>p2 [p,(N .i64 6)] d fun vz n=>ag n y fun vy=>(vy=z∧ag n A fun v7=>(v7=B∧ag n C fun wc=>(wc=D∧ag n E fun wj=>(wj=F∧ag n G fun wn=>(wn=H∧p2 [p,(N .i64 11)] n fun v0 o=>ag o y fun vx=>(vx=z∧ag o A fun v6=>(v6=B∧ag o C fun wb=>(wb=D∧ag o E fun wi=>(wi=F∧ag o G fun wm=>(wm=H∧af .xor vz v0 fun v1=>p2 [p,(N .i64 25)] o fun v2 e=>ag e y fun vw=>(vw=z∧ag e A fun v5=>(v5=B∧ag e C fun wa=>(wa=D∧ag e E fun wh=>(wh=F∧ag e G fun wl=>(wl=H∧af .xor v1 v2 fun v3=>af .add z v3 fun v4=>af .add v4 we fun wf=>af .add wf F fun wk=>af .add wk H fun vf=>bB c (N .i64 1) 8 1 fun I=>ag e I fun L=>af .and q L fun ww=>bB c (N .i64 2) 8 1 fun O=>ag e O fun P=>af .and q P fun w0=>af .xor ww w0 fun w1=>bB c (N .i64 1) 8 1 fun R=>ag e R fun S=>bB c (N .i64 2) 8 1 fun U=>ag e U fun V=>af .and S V fun w8=>af .xor w1 w8 fun w9=>p2 [q,(N .i64 2)] e fun wo r=>ag r I fun wv=>(wv=L∧ag r O fun wz=>(wz=P∧ag r R fun w4=>(w4=S∧ag r U fun w7=>(w7=V∧p2 [q,(N .i64 13)] r fun wp s=>ag s I fun wu=>(wu=L∧ag s O fun wy=>(wy=P∧ag s R fun w3=>(w3=S∧ag s U fun w6=>(w6=V∧af .xor wo wp fun wq=>p2 [q,(N .i64 22)] s fun wr g=>ag g I fun wt=>(wt=L∧ag g O fun wx=>(wx=P∧ag g R fun w2=>(w2=S∧ag g U fun w5=>(w5=V∧af .xor wq wr fun ws=>af .add ws w9 fun xa=>af .add vf xa fun xb=>bB c (N .i64 1) 8 1 fun xc=>ag g xc fun xd=>bB c (N .i64 2) 8 1 fun xe=>ag g xe fun xf=>bB c (N .i64 3) 8 1 fun xg=>ag g xg fun xh=>af .add xh vf fun xi=>bB c (N .i64 5) 8 1 fun xj=>ag g xj fun xk=>bB c (N .i64 6) 8 1 fun xl=>ag g xl fun xm=>jd [(N .u32 0),(N .u32 0),(N .u32 0),(N .u32 0),(N .u32 0),(N .u32 0),(N .u32 0),(N .u32 0)] [(0,1,xb),(1,1,q),(2,1,xd),(3,1,xf),(4,1,xi),(5,1,p),(6,1,xk),(7,1,xm)] fun xn=>aR g c xn 8 fun vk=>af .add (aj W 0) (N .i64 1) fun xo=>vp [xo] vk)))))))))))))))))))))))))))) ( dx d c 8 fun xp=>bE (fun vq x Y=>af .lss (aj x 0) (N .i64 8) fun xq=>aC xq ( Fx xp (aj x 0) 8 fun xr=>dS a0 fun xs=>bB xs (aj x 0) 8 1 fun xt=>ag Y xt fun xu=>af .add xu xr fun xv=>dS a0 fun xw=>bB xw (aj x 0) 8 1 fun xx=>aR Y xx xv 1 fun vl=>af .add (aj x 0) (N .i64 1) fun xy=>vq [xy] vl) ( Q (.tup []) Y)) [(N .i64 0)] d)) [(N .i64 0)] vj)) [(N .i64 16)] m)) [(N .i64 0)] vg
def qz (p1:au) (p2:Nat) (p3:au) (M0:RM) (Q:ah) : Prop:=p1 [(N .i64 64)] M0 fun h l=>uJ p2 4 [(N .u32 0)] (N .i64 0) (N .i64 0) fun A v=>aW A v l fun X m=>uJ p2 4 [(N .u32 0)] (N .i64 0) (N .i64 0) fun B x=>aW B x m fun Y s=>bE (fun z c d=>af .lss (aj c 2) (N .i64 64) fun E=>aC E ( fG (fun j=>fG (fun e=>af .lss (aj c 2) (N .i64 8) fun G=>aC G ( bf h (aj c 2) 1 fun H=>ag d H fun I=>p3 [I,(Bo false)] d fun L t=>bW p2 1 [(N .u32 0)] [(0,1,L)] fun D y=>aW D y t fun O u=>appW p2 1 4 [(N .u32 0)] false (aj c 0) O u fun P n=>e [P] n) ( e [(aj c 0)] d)) (fun Z g=>bf h (aj c 2) 1 fun R=>ag g R fun S=>p3 [S,(Bo true)] g fun U o=>bW p2 1 [(N .u32 0)] [(0,1,U)] fun C w=>aW C w o fun V p=>appW p2 1 4 [(N .u32 0)] false (aj c 1) V p fun W q=>j [(aj Z 0),W] q)) (fun i r=>af .add (aj c 2) (N .i64 1) fun F=>z [(aj i 0),(aj i 1),F] r)) ( Q (.tup [(aj c 0),(aj c 1)]) d)) [X,Y,(N .i64 0)] s
def tO (p1:Nat) (p2:au) (p3:Nat) (a0 a1 a2:AV) (M0:RM) (Q:ah) : Prop:=aW (.row [(N .u32 0),(N .u32 0),(N .u32 0),(N .u32 0),(N .u32 0),(N .u32 0),(N .u32 0),(N .u32 0),(N .u32 0),(N .u32 0),(N .u32 0),(N .u32 0),(N .u32 0),(N .u32 0),(N .u32 0),(N .u32 0),(N .u32 0),(N .u32 0),(N .u32 0),(N .u32 0),(N .u32 0),(N .u32 0),(N .u32 0),(N .u32 0),(N .u32 0),(N .u32 0),(N .u32 0),(N .u32 0),(N .u32 0),(N .u32 0),(N .u32 0),(N .u32 0),(N .u32 0),(N .u32 0),(N .u32 0),(N .u32 0),(N .u32 0),(N .u32 0),(N .u32 0),(N .u32 0),(N .u32 0),(N .u32 0),(N .u32 0),(N .u32 0),(N .u32 0),(N .u32 0),(N .u32 0),(N .u32 0),(N .u32 0),(N .u32 0),(N .u32 0),(N .u32 0),(N .u32 0),(N .u32 0),(N .u32 0),(N .u32 0),(N .u32 0),(N .u32 0),(N .u32 0),(N .u32 0),(N .u32 0),(N .u32 0),(N .u32 0),(N .u32 0)] false p1 0) (fun vc=>.ptr vc 0) M0 fun j ve=>bE (fun vo d e=>af .lss (aj d 0) (N .i64 64) fun xl=>aC xl ( fG (fun vb=>af .lss (aj d 0) (N .i64 16) fun xy=>aC xy ( af .mul (N .i64 4) (aj d 0) fun xz=>bf a2 xz 1 fun x0=>ag e x0 fun x1=>eD .u32 x1 fun x2=>iq .shl x2 (N .u64 24) fun x3=>af .mul (N .i64 4) (aj d 0) fun x4=>af .add x4 (N .i64 1) fun x5=>bf a2 x5 1 fun x6=>ag e x6 fun x7=>eD .u32 x7 fun x8=>iq .shl x8 (N .u64 16) fun x9=>af .or x3 x9 fun ya=>af .mul (N .i64 4) (aj d 0) fun yb=>af .add yb (N .i64 2) fun yc=>bf a2 yc 1 fun yd=>ag e yd fun ye=>eD .u32 ye fun yf=>iq .shl yf (N .u64 8) fun yg=>af .or ya yg fun yh=>af .mul (N .i64 4) (aj d 0) fun yi=>af .add yi (N .i64 3) fun yj=>bf a2 yj 1 fun yk=>ag e yk fun yl=>eD .u32 yl fun ym=>af .or yh ym fun yn=>bB j (aj d 0) 64 1 fun yo=>aR e yo yn 1 fun vf=>vb [] vf) ( af .sub (aj d 0) (N .i64 15) fun yp=>bB j yp 64 1 fun yq=>ag e yq fun Z=>af .sub (aj d 0) (N .i64 2) fun yr=>bB j yr 64 1 fun ys=>ag e ys fun va=>af .sub (aj d 0) (N .i64 16) fun yt=>bB j yt 64 1 fun r=>ag e r fun s=>af .sub (aj d 0) (N .i64 7) fun yy=>bB j yy 64 1 fun t=>ag e t fun u=>af .add s u fun y3=>iq .shr Z (N .u64 3) fun y7=>iq .shr va (N .u64 10) fun zd=>p2 [Z,(N .u64 7)] e fun y4 V=>ag V r fun yw=>(yw=s∧ag V t fun y0=>(y0=u∧p2 [Z,(N .u64 18)] V fun y5 W=>ag W r fun yv=>(yv=s∧ag W t fun yz=>(yz=u∧af .xor y4 y5 fun y6=>af .xor y6 y7 fun y8=>af .add y3 y8 fun y9=>p2 [va,(N .u64 17)] W fun za X=>ag X r fun yu=>(yu=s∧ag X t fun y2=>(y2=u∧p2 [va,(N .u64 19)] X fun zb Y=>ag Y r fun yx=>(yx=s∧ag Y t fun y1=>(y1=u∧af .xor za zb fun zc=>af .xor zc zd fun ze=>af .add y9 ze fun zf=>bB j (aj d 0) 64 1 fun zg=>aR Y zg zf 1 fun vk=>vb [] vk)))))))))) (fun zj vg=>af .add (aj d 0) (N .i64 1) fun xx=>vo [xx] vg)) ( bW p3 0 [(N .u32 0)] [] fun vr vm=>aW vr vm e fun zh vh=>appW p3 1 4 [(N .u32 0)] false zh a0 vh fun zi vi=>bE (fun vp c i=>af .lss (aj c 1) (N .i64 64) fun vt=>aC vt ( bf (aj c 0) (N .i64 4) 1 fun vv=>ag i vv fun n=>bf (aj c 0) (N .i64 0) 1 fun vw=>ag i vw fun o=>bf (aj c 0) (N .i64 7) 1 fun x=>ag i x fun y=>bf (aj c 0) (N .i64 5) 1 fun z=>ag i z fun A=>af .and n A fun v9=>BM n fun wa=>bf (aj c 0) (N .i64 6) 1 fun B=>ag i B fun C=>af .and wa C fun we=>af .xor v9 we fun wf=>bf a1 (aj c 1) 1 fun D=>ag i D fun E=>bB j (aj c 1) 64 1 fun F=>ag i F fun G=>p2 [n,(N .u64 6)] i fun v0 l=>ag l x fun vz=>(vz=y∧ag l z fun v8=>(v8=A∧ag l B fun wd=>(wd=C∧ag l D fun wj=>(wj=E∧ag l F fun wn=>(wn=G∧p2 [n,(N .u64 11)] l fun v1 m=>ag m x fun vy=>(vy=y∧ag m z fun v7=>(v7=A∧ag m B fun wc=>(wc=C∧ag m D fun wi=>(wi=E∧ag m F fun wm=>(wm=G∧af .xor v0 v1 fun v2=>p2 [n,(N .u64 25)] m fun v3 g=>ag g x fun vx=>(vx=y∧ag g z fun v6=>(v6=A∧ag g B fun wb=>(wb=C∧ag g D fun wh=>(wh=E∧ag g F fun wl=>(wl=G∧af .xor v2 v3 fun v4=>af .add y v4 fun v5=>af .add v5 wf fun wg=>af .add wg E fun wk=>af .add wk G fun vd=>bf (aj c 0) (N .i64 1) 1 fun H=>ag g H fun I=>af .and o I fun ww=>bf (aj c 0) (N .i64 2) 1 fun L=>ag g L fun O=>af .and o O fun w0=>af .xor ww w0 fun w1=>bf (aj c 0) (N .i64 1) 1 fun P=>ag g P fun R=>bf (aj c 0) (N .i64 2) 1 fun S=>ag g S fun U=>af .and R U fun w8=>af .xor w1 w8 fun w9=>p2 [o,(N .u64 2)] g fun wo p=>ag p H fun wv=>(wv=I∧ag p L fun wz=>(wz=O∧ag p P fun w4=>(w4=R∧ag p S fun w7=>(w7=U∧p2 [o,(N .u64 13)] p fun wp q=>ag q H fun wu=>(wu=I∧ag q L fun wy=>(wy=O∧ag q P fun w3=>(w3=R∧ag q S fun w6=>(w6=U∧af .xor wo wp fun wq=>p2 [o,(N .u64 22)] q fun wr h=>ag h H fun wt=>(wt=I∧ag h L fun wx=>(wx=O∧ag h P fun w2=>(w2=R∧ag h S fun w5=>(w5=U∧af .xor wq wr fun ws=>af .add ws w9 fun xa=>af .add vd xa fun xb=>bf (aj c 0) (N .i64 1) 1 fun xc=>ag h xc fun xd=>bf (aj c 0) (N .i64 2) 1 fun xe=>ag h xe fun xf=>bf (aj c 0) (N .i64 3) 1 fun xg=>ag h xg fun xh=>af .add xh vd fun xi=>bf (aj c 0) (N .i64 5) 1 fun xj=>ag h xj fun xk=>bf (aj c 0) (N .i64 6) 1 fun xm=>ag h xm fun xn=>bW p3 8 [(N .u32 0)] [(0,1,xb),(1,1,o),(2,1,xd),(3,1,xf),(4,1,xi),(5,1,n),(6,1,xk),(7,1,xn)] fun vs vn=>Dx vs vn h fun xo vj vc=>af .add (aj c 1) (N .i64 1) fun vu=>vp [xo,vu] vj)))))))))))))))))))))))))))) ( bE (fun vq v w=>af .lss (aj v 0) (N .i64 8) fun xp=>aC xp ( bf (aj c 0) (aj v 0) 1 fun xr=>ag w xr fun xs=>bf a0 (aj v 0) 1 fun xt=>ag w xt fun xu=>af .add xs xu fun xv=>bf (aj c 0) (aj v 0) 1 fun xw=>aR w xw xv 1 fun vl=>af .add (aj v 0) (N .i64 1) fun xq=>vq [xq] vl) ( Q (aj c 0) w)) [(N .i64 0)] i)) [zi,(N .i64 0)] vi)) [(N .i64 0)] ve
def uW (a0:AV) (M0:RM) (Q:ah) : Prop:=af .geq a0 (N .u8 48) fun g=>az g true (fun c=>c a0 M0) (fun c=>c .undef M0) fun v h=>az g true (fun l=>af .leq v (N .u8 57) fun w=>l w h) (fun c=>c .undef h) fun x d=>bn g x (Bo false) fun y=>aC y ( af .sub a0 (N .u8 48) fun o=>Q o d) ( af .geq a0 (N .u8 97) fun e=>az e true (fun m=>m a0 d) (fun c=>c .undef d) fun p i=>az e true (fun n=>af .leq p (N .u8 102) fun q=>n q i) (fun c=>c .undef i) fun r j=>bn e r (Bo false) fun s=>aC s ( af .sub a0 (N .u8 97) fun t=>af .add t (N .u8 10) fun u=>Q u j) ( Q (N .u8 255) j))
def xV (p1:au) (a0 a1:AV) (M0:RM) (Q:ah) : Prop:=O1 a1 fun d=>p1 [a0,d] M0 fun e c=>Q e c
def qx (p1:Nat) (p2:au) (a0:AV) (M0:RM) (Q:ah) : Prop:=uJ p1 8 [(N .i64 0)] (N .i64 0) (N .i64 0) fun p m=>aW p m M0 fun v h=>bE (fun o c e=>bI (aj c 0) fun w=>af .lss w a0 fun x=>aC x ( fG (fun d=>p2 [(aj c 1)] e fun s g=>aC s ( bW p1 1 [(N .i64 0)] [(0,1,(aj c 1))] fun q n=>aW q n g fun t i=>appW p1 1 8 [(N .i64 0)] false (aj c 0) t i fun u j=>d [u] j) ( d [(aj c 0)] g)) (fun y l=>af .add (aj c 1) (N .i64 1) fun r=>o [(aj y 0),r] l)) ( Q (aj c 0) e)) [v,(N .i64 2)] h
def vT (p1 p2:au) (p3:Nat) (p4:au) (a0 a1:AV) (M0:RM) (Q:ah) : Prop:=bE (fun C c n=>af .geq (aj c 1) (N .i64 0) fun D=>aC D ( fG (fun l=>eD .u64 (aj c 1) fun F=>iq .shl (N .u64 1) F fun G=>af .or (aj c 0) G fun e=>p1 [e] n fun H r=>p1 [e] r fun I s=>p2 [H,I] s fun L x=>aW (.row [(N .u64 0),(N .u64 0),(N .u64 0),(N .u64 0),(N .u64 0),(N .u64 0),(N .u64 0),(N .u64 0)] false p3 0) (fun j=>.ptr j 0) x fun d y=>aR y d L 8 fun z=>aW (.row [(N .u64 0),(N .u64 0),(N .u64 0),(N .u64 0),(N .u64 0),(N .u64 0),(N .u64 0),(N .u64 0)] false p3 0) (fun j=>.ptr j 0) z fun g A=>eD .u64 a0 fun O=>bB g (N .i64 4) 8 1 fun P=>aR A P O 1 fun i=>fG (fun m=>aC a1 ( dx i d 8 fun q=>p1 [e] i fun S p=>dx p d 8 fun R=>(R=q∧p2 [q,S] p fun U B=>aR B d U 8 fun t=>jd [(N .u64 0),(N .u64 0),(N .u64 0),(N .u64 0),(N .u64 0),(N .u64 0),(N .u64 0),(N .u64 0)] [] fun V=>aR t g V 8 fun u=>eD .u64 a0 fun W=>bB g (N .i64 6) 8 1 fun X=>aR u X W 1 fun v=>m [] v)) ( m [] i)) (fun ve h=>dx h d 8 fun Y=>dx h g 8 fun Z=>p4 [Y,Z] h fun va o=>mQ va fun vb=>aC vb ( l [e] o) ( l [(aj c 0)] o))) (fun vd w=>af .sub (aj c 1) (N .i64 1) fun E=>C [(aj vd 0),E] w)) ( eD .u32 (aj c 0) fun vc=>Q vc n)) [(N .u64 0),(N .i64 36)] M0
def u7 (a0 a1:AV) (M0:RM) (Q:ah) : Prop:=iq .shr a0 a1 fun g=>af .sub (N .u64 32) a1 fun c=>iq .shl a0 c fun d=>af .or g d fun e=>Q e M0
def iF (a0 a1:AV) (M0:RM) (Q:ah) : Prop:=eD .u64 a1 fun i=>af .and i (N .u64 31) fun c=>iq .shl a0 c fun d=>af .sub (N .u64 32) c fun e=>iq .shr a0 e fun g=>af .or d g fun h=>Q h M0
def sj (a0:AV) (M0:RM) (Q:ah) : Prop:=bE (fun e c d=>af .mul (aj c 0) (aj c 0) fun l=>af .leq l a0 fun m=>aC m ( af .rem a0 (aj c 0) fun h=>af .eql h (N .i64 0) fun i=>aC i ( Q (Bo false) d) ( af .add (aj c 0) (N .i64 1) fun g=>e [g] d)) ( af .gtr a0 (N .i64 1) fun j=>Q j d)) [(N .i64 2)] M0
def su (p1:Nat) (a0 a1:AV) (M0:RM) (Q:ah) : Prop:=kZ p1 a0 fun w s=>aW w s M0 fun E n=>kZ p1 a1 fun x t=>aW x t n fun P o=>aW (.row [(N .u64 0),(N .u64 0),(N .u64 0),(N .u64 0),(N .u64 0),(N .u64 0),(N .u64 0),(N .u64 0)] false p1 0) (fun h=>.ptr h 0) o fun m p=>aW (.row [(N .u64 0),(N .u64 0),(N .u64 0),(N .u64 0),(N .u64 0),(N .u64 0),(N .u64 0),(N .u64 0)] false p1 0) (fun h=>.ptr h 0) p fun i q=>bE (fun u c g=>af .lss (aj c 0) (N .i64 8) fun z=>aC z ( bE (fun v d e=>af .add (aj c 0) (aj d 1) fun B=>af .lss B (N .i64 8) fun C=>aC C ( af .add (aj c 0) (aj d 1) fun F=>bB i F 8 1 fun G=>ag e G fun H=>af .add (aj d 0) H fun I=>bB E (aj c 0) 8 1 fun L=>ag e L fun O=>bB P (aj d 1) 8 1 fun R=>ag e R fun S=>af .mul O S fun U=>af .add I U fun l=>af .add (aj c 0) (aj d 1) fun V=>af .and l (N .u64 65535) fun W=>bB i V 8 1 fun X=>aR e X W 1 fun r=>iq .shr l (N .u64 16) fun Y=>af .add (aj d 1) (N .i64 1) fun D=>v [Y,D] r) ( af .add (aj c 0) (N .i64 1) fun A=>u [A] e)) [(N .u64 0),(N .i64 0)] g) ( dx g i 8 fun Z=>aR g m Z 8 fun j=>dx j m 8 fun y=>Q y j)) [(N .i64 0)] q
def BH (p1:Nat) (a0:AV) (M0:RM) (Q:ah) : Prop:=aW (.row [(N .u64 0),(N .u64 0),(N .u64 0),(N .u64 0),(N .u64 0),(N .u64 0),(N .u64 0),(N .u64 0)] false p1 0) (fun g=>.ptr g 0) M0 fun d e=>af .and a0 (N .u64 65535) fun j=>iq .shr a0 (N .u64 16) fun l=>af .and l (N .u64 65535) fun m=>iq .shr a0 (N .u64 32) fun n=>jd [(N .u64 0),(N .u64 0),(N .u64 0),(N .u64 0),(N .u64 0),(N .u64 0),(N .u64 0),(N .u64 0)] [(0,1,j),(1,1,m),(2,1,n)] fun i=>aR e d i 8 fun c=>dx c d 8 fun h=>Q h c
def rZ (p1:Nat) (a0 a1:AV) (M0:RM) (Q:ah) : Prop:=kZ p1 a0 fun n j=>aW n j M0 fun e h=>kZ p1 a1 fun o l=>aW o l h fun g i=>bE (fun m d c=>af .geq (aj d 0) (N .i64 0) fun z=>aC z ( bB e (aj d 0) 8 1 fun p=>ag c p fun q=>bB g (aj d 0) 8 1 fun r=>ag c r fun s=>af .neq q s fun t=>aC t ( bB e (aj d 0) 8 1 fun u=>ag c u fun v=>bB g (aj d 0) 8 1 fun w=>ag c w fun x=>af .gtr v x fun y=>Q y c) ( af .sub (aj d 0) (N .i64 1) fun A=>m [A] c)) ( Q (Bo false) c)) [(N .i64 7)] i
set_option maxRecDepth 10000
def bu:Enc Int:=⟨1,fun n=>[N .u32 n],fun _=>rfl,fun _=>rfl⟩
theorem jV (xs:List Int) : bu.row xs=xs.map (N .u32):=by
 induction xs with
 | nil=>rfl
 | cons x xs ih=>rw[Enc.gu,ih]; rfl
theorem iA (xs:List Int) : (bu.row xs).length=xs.length:=by rw[jV,List.length_map]
def df (a b:Int) : Int:=IntKind.u32.wrap (a + b)
def mR (x n:Int) : Int:=wT .u32 (iL .u32 x n) (yQ .u32 x (32 - n))
def KL (a b c:Int) : Int:=Ah .u32 (Ah .u32 a b) c
def Wn (x:Int) : Int:=KL (mR x 7) (mR x 18) (iL .u32 x 3)
def V3 (x:Int) : Int:=KL (mR x 17) (mR x 19) (iL .u32 x 10)
def Zg (x:Int) : Int:=Ah .u32 4294967295 x
def XM (e f g:Int) : Int:=Ah .u32 (oD .u32 e f) (oD .u32 (Zg e) g)
def Zv (a b c:Int) : Int:=Ah .u32 (Ah .u32 (oD .u32 a b) (oD .u32 a c)) (oD .u32 b c)
theorem WM (n:Int) : IntKind.u32.wrap n=n % 4294967296:=by
 simp only[IntKind.wrap,IntKind.bits,IntKind.signed,IntKind.max,IntKind.min]
 simp
theorem Pq (a b:Int) : df a b=df b a:=by unfold df; rw[Int.add_comm]
theorem Qr (a b c:Int) : df (df a b) c=df (df a c) b:=by unfold df; simp only[WM]; omega
def Rj (b:Str) (i:Nat) : Int:=wT .u32 (wT .u32 (wT .u32 (yQ .u32 (IntKind.u32.wrap ((b.getD (4 * i) 0).toNat:Int)) 24) (yQ .u32 (IntKind.u32.wrap ((b.getD (4 * i + 1) 0).toNat:Int)) 16)) (yQ .u32 (IntKind.u32.wrap ((b.getD (4 * i + 2) 0).toNat:Int)) 8)) (IntKind.u32.wrap ((b.getD (4 * i + 3) 0).toNat:Int))
def FU (l:List Int) (i:Nat) : Int:=df (df (df (l.getD (i - 16) 0) (Wn (l.getD (i - 15) 0))) (l.getD (i - 7) 0)) (V3 (l.getD (i - 2) 0))
def sched (b:Str) : Nat→List Int
 | 0=>[]
 | i + 1=>sched b i++[if i<16 then Rj b i else FU (sched b i) i]
theorem jb (b:Str) : ∀ i,(sched b i).length=i
 | 0=>rfl
 | i + 1=>by rw[sched,List.length_append,jb b i]; rfl
def Ml (v:List Int) (k w:Int) : List Int:=match v with
 | [a,b,c,d,e,f,g,h] =>
   [df (df (df (df (df h (KL (mR e 6) (mR e 11) (mR e 25))) (XM e f g)) k) w) (df (KL (mR a 2) (mR a 13) (mR a 22)) (Zv a b c)),a,b,c,
    df d (df (df (df (df h (KL (mR e 6) (mR e 11) (mR e 25))) (XM e f g)) k) w),e,f,g]
 | _=>v
def oz (k w:List Int) (h:List Int) : Nat→List Int
 | 0=>h
 | i + 1=>Ml (oz k w h i) (k.getD i 0) (w.getD i 0)
theorem eight {l:List Int} (h:l.length=8) : ∃ a b c d e f g i,l=[a,b,c,d,e,f,g,i]:=by
 rcases l with _ | ⟨a,_ | ⟨b,_ | ⟨c,_ | ⟨d,_ | ⟨e,_ | ⟨f,_ | ⟨g,_ | ⟨i,_ | ⟨j,l⟩⟩⟩⟩⟩⟩⟩⟩⟩ <;> first | (simp at h; done) | exact⟨_,_,_,_,_,_,_,_,rfl⟩ | (simp at h; omega)
theorem Mk {v:List Int} (h:v.length=8) (k w:Int) : (Ml v k w).length=8:=by
 obtain⟨a,b,c,d,e,f,g,i,rfl⟩:=eight h
 rfl
theorem xW (k w:List Int) {h:List Int} (hl:h.length=8) : ∀ i,(oz k w h i).length=8
 | 0=>hl
 | i + 1=>Mk (xW k w hl i) _ _
def kL (h k:List Int) (b:Str) : List Int:=List.zipWith df h (oz k (sched b 64) h 64)
theorem NR {h:List Int} (k:List Int) (b:Str) (hl:h.length=8) : (kL h k b).length=8:=by
 unfold kL; rw[List.length_zipWith,xW k _ hl,hl]; rfl
section
variable {M:RM} {b T:Nat} {ws:List Int}
theorem mP (h:M.heap b=some (.row (bu.row ws) false T 0)) {i:Nat} (hi:i<ws.length) {K:AV→Prop} : ag M (.ptr b i) K=K (N .u32 (ws.getD i 0)):=by
 refine aG h ?_
 rw[jV,List.getElem?_map,List.getElem?_eq_getElem hi]
 simp[List.getD,hi]
theorem qf (h:M.heap b=some (.row (bu.row ws) false T 0)) {i:Nat} (hi:i<ws.length) (x:Int) {K:RM→Prop} : aR M (.ptr b i) (N .u32 x) 1 K=K (M.put b (.row (bu.row (ws.set i x)) false T 0)):=by
 refine fP _ h (by rw[iA]; exact hi) rfl rfl ?_
 rw[jV,jV,List.map_set]
theorem bH {k:IntKind} {j:Int} {i len:Nat} (hj:j=(i:Int)) (hi:i<len) {K:AV→Prop} : bB (.ptr b 0) (N k j) len 1 K=K (.ptr b i):=by
 subst hj
 rw[SA]
 simp only[Int.toNat_natCast,Nat.mul_one,Nat.zero_add]
 exact propext ⟨fun h=>h.2.2,fun h=>⟨by omega,by omega,h⟩⟩
end
theorem set_mid {l:List Int} {n:Nat} {x z:Int} (hn:0<n) : (l++List.replicate n z).set l.length x=(l++[x])++List.replicate (n - 1) z:=by
 obtain⟨m,rfl⟩ : ∃ m,n=m + 1:=⟨n - 1,by omega⟩
 rw[List.replicate_succ,List.set_append_right _ _ (Nat.le_refl _),Nat.sub_self]
 simp
theorem Il {l r:List Int} {i:Nat} (h:i<l.length) : (l++r).getD i 0=l.getD i 0:=by simp[List.getD,List.getElem?_append_left h]
theorem Bv (b:Str) {i:Nat} (hi:i<64) : (sched b i++List.replicate (64 - i) 0).set i (if i<16 then Rj b i else FU (sched b i) i)=sched b (i + 1)++List.replicate (64 - (i + 1)) 0:=by
 have:=set_mid (l:=sched b i) (n:=64 - i) (x:=if i<16 then Rj b i else FU (sched b i) i) (z:=0) (by omega)
 rw[jb] at this
 rw[this,sched]
 congr 2
def turns:List Int:=[2,6,7,11,13,17,18,19,22,25]
def Cx (kd:IntKind) (c:au) : Prop:=∀ {M:RM} {x n:Int} {Q:ah},n∈turns→Q (N .u32 (mR x n)) M→c [N .u32 x,N kd n] M Q
def Rq (c:au) : Prop:=∀ {M:RM} {x n:Int} {Q:ah},n∈turns→Q (N .u32 (mR x n)) M→c [N .u32 x,N .i64 (IntKind.i64.wrap (0 - n))] M Q
theorem Pv:∀ n∈turns,oD .u64 (IntKind.u64.wrap (IntKind.i64.wrap (0 - n))) 31=32 - n:=by decide +kernel
theorem He:∀ n∈turns,IntKind.u64.wrap (32 - (32 - n))=n∧IntKind.u64.wrap (32 - n)=32 - n∧0≤n∧0≤32 - n:=by decide +kernel
theorem Ru (k:IntKind) (a b:Int) : wT k a b=wT k b a:=by unfold wT; rw[BitVec.or_comm]
theorem Rm:Rq fun args M Q=>∃ a0 a1,args=[a0,a1]∧iF a0 a1 M Q:=by
 intro M x n Q hn hQ
 refine⟨_,_,rfl, ?_⟩
 unfold iF
 obtain⟨h1,h2,h3,h4⟩:=He n hn
 rw[dz,di,Pv n hn,jB]
 refine⟨h4, ?_⟩
 rw[fM,h1,gq]
 refine⟨h3, ?_⟩
 rw[cK,Ru]
 exact hQ
theorem PK {c:au} (hc:Rq c) : Cx .i64 fun args M Q=>∃ a0 a1,args=[a0,a1]∧xV c a0 a1 M Q:=by
 intro M x n Q hn hQ
 refine⟨_,_,rfl, ?_⟩
 unfold xV
 rw[VI]
 exact hc hn hQ
theorem JQ:Cx .u64 fun args M Q=>∃ a0 a1,args=[a0,a1]∧u7 a0 a1 M Q:=by
 intro M x n Q hn hQ
 refine⟨_,_,rfl, ?_⟩
 unfold u7
 obtain⟨h1,h2,h3,h4⟩:=He n hn
 rw[gq]
 refine⟨h3, ?_⟩
 rw[fM,h2,jB]
 refine⟨h4, ?_⟩
 rw[cK]
 exact hQ
end Go.Ab.Sha
namespace Go.Ab.Sha
open Go Go.Ab Go.Ab.Sm
theorem BQ {i:Nat} (hi:i<1000) {K:AV→Prop} : af .mul (N .i64 4) (N .i64 (i:Int)) K=K (N .i64 ((4 * i:Nat) : Int)):=by
 rw[fE,aM (by omega) (by omega)]; rfl
theorem eY {i:Nat} (j:Nat) (hi:i<1000000000) (hj:j<1000) {K:AV→Prop} {n:Int} (hn:n=(j:Int)) : af .add (N .i64 (i:Int)) (N .i64 n) K=K (N .i64 ((i + j:Nat) : Int)):=by
 subst hn; exact addN (by omega)
theorem yS {i:Nat} (j:Nat) (hi:i<1000000000) (hj:j≤i) {K:AV→Prop} {n:Int} (hn:n=(j:Int)) : af .sub (N .i64 (i:Int)) (N .i64 n) K=K (N .i64 ((i - j:Nat) : Int)):=by
 subst hn; exact NM hj (by omega)
theorem lh {i:Nat} (j:Nat) {K:AV→Prop} {n:Int} (hn:n=(j:Int)) : af .lss (N .i64 (i:Int)) (N .i64 n) K=K (Bo (decide (i<j))):=by
 subst hn; exact lU
theorem Bs.uq {M:RM} {v:AV} {b:Str} (h:Bs M v b) {i:Nat} (hi:i<b.length) {K:AV→Prop} : (bf v (N .i64 (i:Int)) 1 fun t=>ag M t K)=K (By (b.getD i 0)):=by
 rw[h.read hi]; simp[List.getD,hi]
theorem Kl {h v:List Int} {j:Nat} (hj:j<8) (hh:h.length=8) (hv:v.length=8) :
  ((List.zipWith df h v).take j++h.drop j).set j (df (h.getD j 0) (v.getD j 0))=(List.zipWith df h v).take (j + 1)++h.drop (j + 1):=by
 have hz:(List.zipWith df h v).length=8:=by rw[List.length_zipWith,hh,hv]; rfl
 have h1:((List.zipWith df h v).take j).length=j:=by rw[List.length_take]; omega
 have h2:h.drop j=h[j] :: h.drop (j + 1):=List.drop_eq_getElem_cons (by omega)
 rw[h2,List.set_append_right _ _ (by omega),h1,Nat.sub_self,List.set_cons_zero,List.take_succ_eq_append_getElem (by omega),List.append_assoc]
 congr 1
 rw[List.getElem_zipWith]
 simp[List.getD,show j<h.length by omega,show j<v.length by omega]
theorem MC {h v:List Int} {j:Nat} (hj:j<8) (hh:h.length=8) (hv:v.length=8) : ((List.zipWith df h v).take j++h.drop j).getD j 0=h.getD j 0:=by
 have hz:(List.zipWith df h v).length=8:=by rw[List.length_zipWith,hh,hv]; rfl
 have h1:((List.zipWith df h v).take j).length=j:=by rw[List.length_take]; omega
 simp[List.getD,List.getElem?_append_right (show((List.zipWith df h v).take j).length≤j by omega),h1]
theorem MN {h v:List Int} {j:Nat} (hj:j≤8) (hh:h.length=8) (hv:v.length=8) : ((List.zipWith df h v).take j++h.drop j).length=8:=by
 rw[List.length_append,List.length_take,List.length_drop,List.length_zipWith,hh,hv]; omega
theorem iO {cs:List AV} {rest:List (Nat × Nat × AV)} {off:Nat} {k:IntKind} {n:Int} (h:off<cs.length) : kH cs ((off,1,N k n) :: rest)=kH (cs.set off (N k n)) rest:=by
 rw[kH,if_pos ⟨rfl,rfl,by omega⟩,List.set_eq_take_append_cons_drop,if_pos h,List.append_assoc]
 rfl
theorem WR {a b c d e f g h:Int} : kH [N .u32 0,N .u32 0,N .u32 0,N .u32 0,N .u32 0,N .u32 0,N .u32 0,N .u32 0] [(0,1,N .u32 a),(1,1,N .u32 b),(2,1,N .u32 c),(3,1,N .u32 d),(4,1,N .u32 e),(5,1,N .u32 f),(6,1,N .u32 g),(7,1,N .u32 h)]=some (bu.row [a,b,c,d,e,f,g,h]):=by
 rw[iO (by decide)]
 simp only[List.set]
 rw[iO (by simp)]
 simp only[List.set]
 rw[iO (by simp)]
 simp only[List.set]
 rw[iO (by simp)]
 simp only[List.set]
 rw[iO (by simp)]
 simp only[List.set]
 rw[iO (by simp)]
 simp only[List.set]
 rw[iO (by simp)]
 simp only[List.set]
 rw[iO (by simp)]
 simp only[List.set]
 rfl
def OB (TK TS:Nat) (c:au) : Prop:=∀ {M:RM} {sb kb:Nat} {bv:AV} {h k:List Int} {b:Str} {Q:ah},M.heap sb=some (.row (bu.row h) false TS 0)→sb<M.next→h.length=8 →
 M.heap kb=some (.row (bu.row k) false TK 0)→kb<M.next→kb≠sb→k.length=64→Bs M bv b→b.length=64 →
 (∀ M',aa [sb] M M'→M'.heap sb=some (.row (bu.row (kL h k b)) false TS 0)→Q (.tup []) M')→c [.ptr sb 0,bv,.ptr kb 0] M Q
theorem QB {TK TS:Nat} {ct:au} (ht:Cx .i64 ct) : OB TK TS fun args M Q=>∃ a0 a1 a2,args=[a0,a1,a2]∧mM TK ct TS a0 a1 a2 M Q:=by
 intro M sb kb bv h k b Q hs hsl hhl hk hkl hks hkn hb hbl hQ
 refine⟨_,_,_,rfl, ?_⟩
 unfold mM
 rw[aV]
 have k0:aa [] M (M.push (.row (bu.row (List.replicate 64 0)) false TK 0)):=(aa.refl _ _).push _
 have n0:(M.push (.row (bu.row (List.replicate 64 0)) false TK 0)).heap M.next=some (.row (bu.row (sched b 0++List.replicate (64 - 0) 0)) false TK 0):=by simp[RM.push,sched]
 have l0:M.next<(M.push (.row (bu.row (List.replicate 64 0)) false TK 0)).next:=by simp[RM.push]
 show bE _ _ (M.push (.row (bu.row (List.replicate 64 0)) false TK 0))
 generalize M.push (.row (bu.row (List.replicate 64 0)) false TK 0)=M0 at *
 refine aT (fun m ys M3=>∃ i:Nat,m=16 - i∧ys=[N .i64 (i:Int)]∧i≤16∧aa [] M M3∧M.next<M3.next∧M3.heap M.next=some (.row (bu.row (sched b i++List.replicate (64 - i) 0)) false TK 0)) _
  ⟨0,rfl,rfl,by omega,k0,l0,n0⟩ ?_
 rintro next m ys M3 hnext ⟨i,rfl,rfl,hi,k3,l3,n3⟩
 simp only[aK]
 rw[lh 16 (by rfl)]
 have hb3:=hb.keep k3 (by simp)
 refine aZ (fun hc=>?_) fun hc=>?_
 ·have Ea:i<16:=of_decide_eq_true hc
  rw[BQ (by omega),hb3.uq (by omega),By,dz,jB]
  refine⟨by decide, ?_⟩
  rw[BQ (by omega),eY 1 (by omega) (by omega) (by rfl),hb3.uq (by omega),By,dz,jB]
  refine⟨by decide, ?_⟩
  rw[cK,BQ (by omega),eY 2 (by omega) (by omega) (by rfl),hb3.uq (by omega),By,dz,jB]
  refine⟨by decide, ?_⟩
  rw[cK,BQ (by omega),eY 3 (by omega) (by omega) (by rfl),hb3.uq (by omega),By,dz,cK,bH rfl (by omega)]
  have e:=Bv b (i:=i) (by omega)
  rw[if_pos Ea] at e
  have hlen:(sched b i++List.replicate (64 - i) 0).length=64:=by rw[List.length_append,jb,List.length_replicate]; omega
  rw[qf n3 (by omega),eY 1 (by omega) (by omega) (by rfl)]
  refine hnext _ _ _ (by omega) ⟨i + 1,rfl,rfl,by omega,k3.new _ (Nat.le_refl _),l3, ?_⟩
  rw[aF,← e]
  rfl
 have Ea:i=16:=by have:=of_decide_eq_false hc; omega
 subst Ea
 clear hnext
 refine aT (fun m ys M4=>∃ i:Nat,m=64 - i∧ys=[N .i64 (i:Int)]∧16≤i∧i≤64∧aa [] M M4∧M.next<M4.next∧M4.heap M.next=some (.row (bu.row (sched b i++List.replicate (64 - i) 0)) false TK 0)) _
  ⟨16,rfl,rfl,by omega,by omega,k3,l3,n3⟩ ?_
 rintro next m ys M4 hnext ⟨i,rfl,rfl,hi0,hi,k4,l4,n4⟩
 simp only[aK]
 rw[lh 64 (by rfl)]
 refine aZ (fun hc=>?_) fun hc=>?_
 ·have jZ:i<64:=of_decide_eq_true hc
  have hlen:(sched b i++List.replicate (64 - i) 0).length=64:=by rw[List.length_append,jb,List.length_replicate]; omega
  have ld:∀ (j:Nat),j<i→∀ {K:AV→Prop},ag M4 (.ptr M.next j) K=K (N .u32 ((sched b i).getD j 0)):=fun j hj K=>by
   rw[mP n4 (by omega),Il (by rw[jb]; exact hj)]
  have L15:∀ {K:AV→Prop},ag M4 (.ptr M.next (i - 15)) K=K (N .u32 ((sched b i).getD (i - 15) 0)):=ld _ (by omega)
  have L2:∀ {K:AV→Prop},ag M4 (.ptr M.next (i - 2)) K=K (N .u32 ((sched b i).getD (i - 2) 0)):=ld _ (by omega)
  have L16:∀ {K:AV→Prop},ag M4 (.ptr M.next (i - 16)) K=K (N .u32 ((sched b i).getD (i - 16) 0)):=ld _ (by omega)
  have L7:∀ {K:AV→Prop},ag M4 (.ptr M.next (i - 7)) K=K (N .u32 ((sched b i).getD (i - 7) 0)):=ld _ (by omega)
  rw[yS 15 (by omega) (by omega) (by rfl),bH rfl (by omega),L15,yS 2 (by omega) (by omega) (by rfl),bH rfl (by omega),L2,yS 16 (by omega) (by omega) (by rfl),bH rfl (by omega),L16,gq]
  refine⟨by decide, ?_⟩
  rw[yS 7 (by omega) (by omega) (by rfl),bH rfl (by omega),L7,gq]
  refine⟨by decide, ?_⟩
  refine ht (by decide) ?_
  rw[L16]; refine⟨rfl, ?_⟩
  rw[L7]; refine⟨rfl, ?_⟩
  refine ht (by decide) ?_
  rw[L16]; refine⟨rfl, ?_⟩
  rw[L7]; refine⟨rfl, ?_⟩
  rw[cz,cz,bq,bq]
  refine ht (by decide) ?_
  rw[L16]; refine⟨rfl, ?_⟩
  rw[L7]; refine⟨rfl, ?_⟩
  refine ht (by decide) ?_
  rw[L16]; refine⟨rfl, ?_⟩
  rw[L7]; refine⟨rfl, ?_⟩
  rw[cz,cz,bq,bH rfl (by omega)]
  have e:=Bv b (i:=i) (by omega)
  rw[if_neg (by omega)] at e
  rw[qf n4 (by omega),eY 1 (by omega) (by omega) (by rfl)]
  refine hnext _ _ _ (by omega) ⟨i + 1,rfl,rfl,by omega,by omega,k4.new _ (Nat.le_refl _),l4, ?_⟩
  rw[aF,← e]
  rfl
 have jZ:i=64:=by have:=of_decide_eq_false hc; omega
 subst jZ
 clear hnext
 rw[Nat.sub_self,List.replicate_zero,List.append_nil] at n4
 have hwl:=jb b 64
 generalize hwe:sched b 64=w at *
 have hs4:=k4.ay hs hsl (by simp)
 have hk4:=k4.ay hk hkl (by simp)
 rw[bC,dM hs4 (by rw[iA,hhl]),aV]
 have n5:(M4.push (.row [N .u32 0,N .u32 0,N .u32 0,N .u32 0,N .u32 0,N .u32 0,N .u32 0,N .u32 0] false TS 0)).heap M4.next=some (.row [N .u32 0,N .u32 0,N .u32 0,N .u32 0,N .u32 0,N .u32 0,N .u32 0,N .u32 0] false TS 0):=by simp[RM.push]
 rw[jT n5 (by rw[iA,hhl]) (by rfl) (bu.bX h)]
 have k5:aa [] M4 ((M4.push (.row [N .u32 0,N .u32 0,N .u32 0,N .u32 0,N .u32 0,N .u32 0,N .u32 0,N .u32 0] false TS 0)).put M4.next (.row (bu.row h) false TS 0)):=((aa.refl _ _).push _).new _ (Nat.le_refl _)
 have n5' : ((M4.push (.row [N .u32 0,N .u32 0,N .u32 0,N .u32 0,N .u32 0,N .u32 0,N .u32 0,N .u32 0] false TS 0)).put M4.next (.row (bu.row h) false TS 0)).heap M4.next=some (.row (bu.row (oz k w h 0)) false TS 0):=aF _
 have l5:M4.next<((M4.push (.row [N .u32 0,N .u32 0,N .u32 0,N .u32 0,N .u32 0,N .u32 0,N .u32 0,N .u32 0] false TS 0)).put M4.next (.row (bu.row h) false TS 0)).next:=by simp[RM.push,RM.put]
 generalize (M4.push (.row [N .u32 0,N .u32 0,N .u32 0,N .u32 0,N .u32 0,N .u32 0,N .u32 0,N .u32 0] false TS 0)).put M4.next (.row (bu.row h) false TS 0)=M5 at *
 refine aT (fun m ys M6=>∃ i:Nat,m=64 - i∧ys=[N .i64 (i:Int)]∧i≤64∧aa [] M4 M6∧M4.next<M6.next∧M6.heap M4.next=some (.row (bu.row (oz k w h i)) false TS 0)) _
  ⟨0,rfl,rfl,by omega,k5,l5,n5'⟩ ?_
 rintro next m ys M6 hnext ⟨i,rfl,rfl,hi,k6,l6,n6⟩
 simp only[aK]
 rw[lh 64 (by rfl)]
 have hs6:=k6.ay hs4 (Nat.lt_of_lt_of_le hsl k4.next) (by simp)
 have hk6:=k6.ay hk4 (Nat.lt_of_lt_of_le hkl k4.next) (by simp)
 have n46:=k6.ay n4 l4 (by simp)
 have hrl:=xW k w hhl i
 refine aZ (fun hc=>?_) fun hc=>?_
 ·have jZ:i<64:=of_decide_eq_true hc
  have hstep:oz k w h (i + 1)=Ml (oz k w h i) (k.getD i 0) (w.getD i 0):=rfl
  obtain⟨va,vb,vc,vd,ve,vf,vg,vh,hv⟩:=eight hrl
  rw[hv] at n6 hstep
  have hrow:bu.row [va,vb,vc,vd,ve,vf,vg,vh]=[N .u32 va,N .u32 vb,N .u32 vc,N .u32 vd,N .u32 ve,N .u32 vf,N .u32 vg,N .u32 vh]:=rfl
  rw[hrow] at n6
  have I:∀ (j:Nat),j<8→∀ {K:AV→Prop},bB (.ptr M4.next 0) (N .i64 (j:Int)) 8 1 K=K (.ptr M4.next j):=fun j hj K=>bH rfl hj
  have I0:∀ {K:AV→Prop},bB (.ptr M4.next 0) (N .i64 0) 8 1 K=K (.ptr M4.next 0):=I 0 (by omega)
  have I1:∀ {K:AV→Prop},bB (.ptr M4.next 0) (N .i64 1) 8 1 K=K (.ptr M4.next 1):=I 1 (by omega)
  have I2:∀ {K:AV→Prop},bB (.ptr M4.next 0) (N .i64 2) 8 1 K=K (.ptr M4.next 2):=I 2 (by omega)
  have I3:∀ {K:AV→Prop},bB (.ptr M4.next 0) (N .i64 3) 8 1 K=K (.ptr M4.next 3):=I 3 (by omega)
  have I4:∀ {K:AV→Prop},bB (.ptr M4.next 0) (N .i64 4) 8 1 K=K (.ptr M4.next 4):=I 4 (by omega)
  have I5:∀ {K:AV→Prop},bB (.ptr M4.next 0) (N .i64 5) 8 1 K=K (.ptr M4.next 5):=I 5 (by omega)
  have I6:∀ {K:AV→Prop},bB (.ptr M4.next 0) (N .i64 6) 8 1 K=K (.ptr M4.next 6):=I 6 (by omega)
  have I7:∀ {K:AV→Prop},bB (.ptr M4.next 0) (N .i64 7) 8 1 K=K (.ptr M4.next 7):=I 7 (by omega)
  have L0:∀ {K:AV→Prop},ag M6 (.ptr M4.next 0) K=K (N .u32 va):=aG n6 rfl
  have L1:∀ {K:AV→Prop},ag M6 (.ptr M4.next 1) K=K (N .u32 vb):=aG n6 rfl
  have L2:∀ {K:AV→Prop},ag M6 (.ptr M4.next 2) K=K (N .u32 vc):=aG n6 rfl
  have L3:∀ {K:AV→Prop},ag M6 (.ptr M4.next 3) K=K (N .u32 vd):=aG n6 rfl
  have L4:∀ {K:AV→Prop},ag M6 (.ptr M4.next 4) K=K (N .u32 ve):=aG n6 rfl
  have L5:∀ {K:AV→Prop},ag M6 (.ptr M4.next 5) K=K (N .u32 vf):=aG n6 rfl
  have L6:∀ {K:AV→Prop},ag M6 (.ptr M4.next 6) K=K (N .u32 vg):=aG n6 rfl
  have L7:∀ {K:AV→Prop},ag M6 (.ptr M4.next 7) K=K (N .u32 vh):=aG n6 rfl
  have Ik:∀ {K:AV→Prop},bB (.ptr kb 0) (N .i64 (i:Int)) 64 1 K=K (.ptr kb i):=bH rfl jZ
  have Iw:∀ {K:AV→Prop},bB (.ptr M.next 0) (N .i64 (i:Int)) 64 1 K=K (.ptr M.next i):=bH rfl jZ
  have Lk:∀ {K:AV→Prop},ag M6 (.ptr kb i) K=K (N .u32 (k.getD i 0)):=mP hk6 (by omega)
  have Lw:∀ {K:AV→Prop},ag M6 (.ptr M.next i) K=K (N .u32 (w.getD i 0)):=mP n46 (by omega)
  simp only[I0,I1,I2,I3,I4,I5,I6,I7,L0,L1,L2,L3,L4,L5,L6,L7,bC,Ik,Iw,Lk,Lw,di,cK,cz,bq,fJ,true_and]
  refine ht (by decide) ?_
  simp only[I0,I1,I2,I3,I4,I5,I6,I7,L0,L1,L2,L3,L4,L5,L6,L7,bC,Ik,Iw,Lk,Lw,di,cK,cz,bq,fJ,true_and]
  refine ht (by decide) ?_
  simp only[I0,I1,I2,I3,I4,I5,I6,I7,L0,L1,L2,L3,L4,L5,L6,L7,bC,Ik,Iw,Lk,Lw,di,cK,cz,bq,fJ,true_and]
  refine ht (by decide) ?_
  simp only[I0,I1,I2,I3,I4,I5,I6,I7,L0,L1,L2,L3,L4,L5,L6,L7,bC,Ik,Iw,Lk,Lw,di,cK,cz,bq,fJ,true_and]
  refine ht (by decide) ?_
  simp only[I0,I1,I2,I3,I4,I5,I6,I7,L0,L1,L2,L3,L4,L5,L6,L7,bC,Ik,Iw,Lk,Lw,di,cK,cz,bq,fJ,true_and]
  refine ht (by decide) ?_
  simp only[I0,I1,I2,I3,I4,I5,I6,I7,L0,L1,L2,L3,L4,L5,L6,L7,bC,Ik,Iw,Lk,Lw,di,cK,cz,bq,fJ,true_and]
  refine ht (by decide) ?_
  simp only[I0,I1,I2,I3,I4,I5,I6,I7,L0,L1,L2,L3,L4,L5,L6,L7,bC,Ik,Iw,Lk,Lw,di,cK,cz,bq,fJ,true_and]
  rw[iR]
  refine⟨_,WR, ?_⟩
  rw[jT n6 (by rw[iA]; rfl) (by rfl) (bu.bX _),show(IntKind.i64.wrap ((i:Int) + 1))=((i + 1:Nat) : Int) from oP (by omega)]
  refine hnext _ _ _ (by omega) ⟨i + 1,rfl,rfl,by omega,k6.new _ (Nat.le_refl _),l6, ?_⟩
  rw[aF,hstep]
  rfl
 have jZ:i=64:=by have:=of_decide_eq_false hc; omega
 subst jZ
 clear hnext
 have hbf:kL h k b=List.zipWith df h (oz k w h 64):=by
  unfold kL
  rw[hwe]
 rw[hbf] at hQ
 generalize oz k w h 64=v at *
 rw[dM n6 (by rw[iA,hrl])]
 have k46:=k4.trans k6
 refine aT (fun m ys M7=>∃ j:Nat,m=8 - j∧ys=[N .i64 (j:Int)]∧j≤8∧aa [sb] M M7∧M7.heap sb=some (.row (bu.row ((List.zipWith df h v).take j++h.drop j)) false TS 0)) _
  ⟨0,rfl,rfl,by omega,k46.mono (by simp),by rw[List.take_zero,List.drop_zero]; exact hs6⟩ ?_
 rintro next m ys M7 hnext ⟨j,rfl,rfl,hj,k7,s7⟩
 simp only[aK]
 rw[lh 8 (by rfl)]
 refine aZ (fun hc=>?_) fun hc=>?_
 ·have hj8:j<8:=of_decide_eq_true hc
  rw[Hg]
  refine⟨by omega,by omega,N .u32 (v.getD j 0), ?_, ?_⟩
  ·rw[Int.toNat_natCast,jV,List.getElem?_map,List.getElem?_eq_getElem (by omega)]
   simp[List.getD,show j<v.length by omega]
  have hl7:=MN (v:=v) (Nat.le_of_lt hj8) hhl hrl
  rw[bC,bH rfl hj8,mP s7 (by omega),bq,bC,bH rfl hj8,qf s7 (by omega),eY 1 (by omega) (by omega) (by rfl)]
  refine hnext _ _ _ (by omega) ⟨j + 1,rfl,rfl,by omega,k7.put _ (.inr (by simp)), ?_⟩
  rw[aF,MC hj8 hhl hrl,← Kl hj8 hhl hrl]
  rfl
 ·have hj8:j=8:=by have:=of_decide_eq_false hc; omega
  subst hj8
  refine hQ M7 k7 ?_
  rw[s7,List.drop_of_length_le (by omega),List.append_nil,List.take_of_length_le (by rw[List.length_zipWith]; omega)]
end Go.Ab.Sha
set_option maxRecDepth 100000
namespace Go.Ab.aP
open Go Go.Ab
def TE (p1:Nat) (M0:RM) (Q:ah) : Prop:=jd [(N .u64 0),(.sc (.slice none 0 0)),(N .u64 0),(.sc (.slice none 0 0)),(N .u64 0),(.sc (.slice none 0 0)),(N .u64 0),(.sc (.slice none 0 0)),(N .u64 0),(.sc (.slice none 0 0)),(N .u64 0),(.sc (.slice none 0 0)),(N .u64 0),(.sc (.slice none 0 0)),(N .u64 0),(.sc (.slice none 0 0)),(N .u64 0),(.sc (.slice none 0 0)),(N .u64 0),(.sc (.slice none 0 0)),(N .u64 0),(.sc (.slice none 0 0)),(N .u64 0),(.sc (.slice none 0 0)),(N .u64 0),(.sc (.slice none 0 0)),(N .u64 0),(.sc (.slice none 0 0)),(N .u64 0),(.sc (.slice none 0 0)),(N .u64 0),(.sc (.slice none 0 0))] [] fun g=>kZ p1 g fun e d=>aW e d M0 fun h c=>Q h c
def VE (p1 p2 p3:au) (a0:AV) (M0:RM) (Q:ah) : Prop:=p1 [] M0 fun h i=>bE (fun m c d=>bI a0 fun n=>af .lss (aj c 1) n fun o=>aC o ( fG (fun g=>bf a0 (aj c 1) 2 fun q=>dx d q 2 fun r=>p2 [h,r] d fun s e=>af .eql s (N .i64 0) fun t=>aC t ( bf a0 (aj c 1) 2 fun u=>dx e u 2 fun v=>p3 [(aj c 0),v] e fun w j=>g [w] j) ( g [(aj c 0)] e)) (fun x l=>af .add (aj c 1) (N .i64 1) fun p=>m [(aj x 0),p] l)) ( Q (.tup [h,(aj c 0)]) d)) [(.sc (.slice none 0 0)),(N .i64 0)] i
def Ms (p1 p2:au) (a0:AV) (M0:RM) (Q:ah) : Prop:=p1 [a0] M0 fun r e=>bA r 0 fun j=>bA r 1 fun s=>af .neq s (N .i64 0) fun E=>aC E ( af .eql s (N .i64 14) fun i=>az i true (fun c=>c j e) (fun c=>c .undef e) fun F l=>az i true (fun w=>eu false 1 F (.sc (.pointer none)) fun G=>w G l) (fun c=>c .undef l) fun H v=>bn i H (Bo false) fun I=>Q I v) ( eu true 1 j (.sc (.pointer none)) fun d=>aY d true (fun B=>B j e none) (fun c=>c .undef e none) fun L o Z=>aY d true (fun C=>C a0 o none) (fun c=>c .undef o none) fun p h vd=>aY d true (fun D=>iD h p fun U=>D U h none) (fun c=>c .undef h none) fun q m va=>az d true (fun x=>p2 [L] m fun O t=>x O t) (fun c=>c .undef m) fun P g=>Jn d true (fun y=>iD g p fun V=>(V=q∧y)) (fun c=>c) (aY d true (fun z=>iD g P fun R=>z R g none) (fun c=>c .undef g none) fun S n vb=>aY d true (fun A=>lc .eql S q fun W=>A W n none) (fun c=>c .undef n none) fun X u vc=>bn d X (Bo false) fun Y=>Q Y u))
def Jv (p1:au) (p2:Nat) (a0:AV) (M0:RM) (Q:ah) : Prop:=p1 [a0] M0 fun h c=>jd [(.sc (.slice none 0 0)),(Bo false)] [(0,1,h)] fun i=>kZ p2 i fun g e=>aW g e c fun j d=>Q j d
def rU (p1:au) (a0 a1:AV) (M0:RM) (Q:ah) : Prop:=p1 [a0] M0 fun h g=>bA h 0 fun s=>bA h 1 fun C=>bA h 2 fun D=>dS a0 fun E=>eF E 1 fun F=>ag g F fun i=>az i false (fun c=>c D g) (fun c=>c .undef g) fun G l=>az i false (fun v=>mQ G fun H=>v H l) (fun c=>c .undef l) fun I p=>bn i (Bo true) I fun j=>az j false (fun z=>z a1 p) (fun c=>c .undef p) fun L q=>az j false (fun A=>af .lss L (N .i64 0) fun O=>A O q) (fun c=>c .undef q) fun P r=>bn j (Bo true) P fun d=>az d false (fun B=>B s r) (fun c=>c .undef r) fun R m=>az d false (fun w=>w a1 m) (fun c=>c .undef m) fun S n=>az d false (fun x=>eD .u64 S fun U=>x U n) (fun c=>c .undef n) fun V o=>az d false (fun y=>af .gtr R V fun W=>y W o) (fun c=>c .undef o) fun X t=>bn d (Bo true) X fun Y=>dS a0 fun Z=>eF Z 1 fun va=>aR t va Y 1 fun e=>dS a0 fun vb=>eF vb 1 fun vc=>ag e vc fun vd=>aC vd ( Q (N .i64 0) e) ( dS a0 fun ve=>eF ve 0 fun vf=>ag e vf fun vg=>jY (dJ 1 vg (some C) none none) fun vh=>dS a0 fun vi=>eF vi 0 fun vj=>aR e vj vh 1 fun u=>eD .i64 s fun vk=>Q vk u)
def tT (a0:AV) (M0:RM) (Q:ah) : Prop:=dS a0 fun c=>eF c 1 fun d=>ag M0 d fun e=>aC e ( Q (N .i64 14) M0) ( Q (N .i64 0) M0)
def JM (p1:au) (p2:Nat) (a0 a1:AV) (M0:RM) (Q:ah) : Prop:=p1 [a0] M0 fun y e=>bE (fun n c d=>af .geq (aj c 1) (N .u64 128) fun z=>aC z ( eD .u8 (aj c 1) fun r=>af .or r (N .u8 128) fun s=>bW p2 1 [(N .u8 0)] [(0,1,s)] fun o l=>aW o l d fun t g=>appW p2 1 1 [(N .u8 0)] false (aj c 0) t g fun u h=>iq .shr (aj c 1) (N .u64 7) fun q=>n [u,q] h) ( eD .u8 (aj c 1) fun v=>bW p2 1 [(N .u8 0)] [(0,1,v)] fun p m=>aW p m d fun w i=>appW p2 1 1 [(N .u8 0)] false (aj c 0) w i fun x j=>Q x j)) [y,a1] e
def rV (p1:Nat) (a0:AV) (M0:RM) (Q:ah) : Prop:=eu false 2 a0 (.sc (.slice none 0 0)) fun h=>aC h ( Q (.sc (.slice none 0 0)) M0) ( bW p1 0 [(N .u8 0)] [] fun g e=>aW g e M0 fun i c=>appW p1 1 1 [(N .u8 0)] false i a0 c fun j d=>Q j d)
def nN (a0:AV) (M0:RM) (Q:ah) : Prop:=fG (fun l=>dS a0 fun vn=>eF vn 0 fun vo=>ag M0 vo fun F=>dS a0 fun G=>eF G 0 fun H=>ag M0 H fun I=>bI I fun L=>Eg false L (N .i64 10) fun O=>jY (dJ 1 F none (some O) none) fun u=>bI u fun P=>bE (fun E d e=>af .lss (aj d 1) P fun R=>aC R ( bf u (aj d 1) 1 fun S=>ag e S fun h=>af .and h (N .u8 127) fun U=>eD .u64 U fun V=>af .mul (N .i64 7) (aj d 1) fun W=>iq .shl V W fun X=>af .or (aj d 0) X fun v=>af .geq h (N .u8 128) fun Y=>aC Y ( af .add (aj d 1) (N .i64 1) fun vm=>E [v,vm] e) ( af .eql h (N .u8 0) fun i=>az i true (fun c=>c (aj d 1) e) (fun c=>c .undef e) fun Z m=>az i true (fun x=>af .gtr Z (N .i64 0) fun va=>x va m) (fun c=>c .undef m) fun vb r=>bn i vb (Bo false) fun g=>az g false (fun B=>B (aj d 1) r) (fun c=>c .undef r) fun vc s=>az g false (fun C=>af .eql vc (N .i64 9) fun vd=>C vd s) (fun c=>c .undef s) fun ve t=>az g false (fun D=>D ve t) (fun c=>c .undef t) fun j n=>az j true (fun y=>y h n) (fun c=>c .undef n) fun vf o=>az j true (fun z=>af .gtr vf (N .u8 1) fun vg=>z vg o) (fun c=>c .undef o) fun vh p=>az g false (fun A=>bn j vh (Bo false) fun vi=>A vi p) (fun c=>c .undef p) fun vj q=>bn g (Bo true) vj fun vk=>aC vk ( l [] q) ( af .add (aj d 1) (N .i64 1) fun vl=>Q (.tup [v,vl,(Bo true)]) q))) ( l [] e)) [(N .u64 0),(N .i64 0)] M0) (fun vp w=>Q (.tup [(N .u64 0),(N .i64 0),(Bo false)]) w)
end Go.Ab.aP
set_option maxRecDepth 10000
namespace Go.Ab.Sha
open Go Go.Ab Go.Ab.Sm
def kW:List Int:=[1116352408,1899447441,3049323471,3921009573,961987163,1508970993,2453635748,2870763221,3624381080,310598401,607225278,1426881987,1925078388,2162078206,2614888103,3248222580,3835390401,4022224774,264347078,604807628,770255983,1249150122,1555081692,1996064986,2554220882,2821834349,2952996808,3210313671,3336571891,3584528711,113926993,338241895,666307205,773529912,1294757372,1396182291,1695183700,1986661051,2177026350,2456956037,2730485921,2820302411,3259730800,3345764771,3516065817,3600352804,4094571909,275423344,430227734,506948616,659060556,883997877,958139571,1322822218,1537002063,1747873779,1955562222,2024104815,2227730452,2361852424,2428436474,2756734187,3204031479,3329325298]
def hW:List Int:=[1779033703,3144134277,1013904242,2773480762,1359893119,2600822924,528734635,1541459225]
theorem AR:kW.length=64:=by decide
theorem Fj:hW.length=8:=by decide
def bR (k:List Int) : Nat→List Int→Str→List Int
 | 0,h,_=>h
 | n + 1,h,m=>bR k n (kL h k (m.take 64)) (m.drop 64)
theorem mg {k:List Int} : ∀ {n:Nat} {h:List Int} {m:Str},h.length=8→(bR k n h m).length=8
 | 0,h,m,hl=>hl
 | n + 1,h,m,hl=>mg (n:=n) (h:=kL h k (m.take 64)) (m:=m.drop 64) (NR k _ hl)
theorem vB {k:List Int} : ∀ {a n:Nat} {h:List Int} {m:Str},bR k (a + n) h m=bR k n (bR k a h m) (m.drop (64 * a))
 | 0,n,h,m=>by rw[Nat.zero_add]; rfl
 | a + 1,n,h,m=>by
   rw[Nat.add_right_comm,bR,bR,vB (a:=a),List.drop_drop,show 64 + 64 * a=64 * (a + 1) by omega]
theorem uf {k:List Int} {n:Nat} {h:List Int} {m:Str} : bR k (n + 1) h m=kL (bR k n h m) k ((m.drop (64 * n)).take 64):=by rw[vB]; rfl
theorem CU {k:List Int} : ∀ {n:Nat} {h:List Int} {m p:Str},64 * n≤m.length→bR k n h (m++p)=bR k n h m
 | 0,h,m,p,_=>rfl
 | n + 1,h,m,p,hl=>by
   rw[bR,bR,List.take_append_of_le_length (by omega),List.drop_append_of_le_length (by omega),CU (by rw[List.length_drop]; omega)]
def CV (n:Int) : UInt8:=UInt8.ofNat (n % 256).toNat
theorem U0 (n:Int) : IntKind.u8.wrap n=n % 256:=by
 simp only[IntKind.wrap,IntKind.bits,IntKind.signed,IntKind.max,IntKind.min]
 simp
theorem Cr (n:Int) : N .u8 (IntKind.u8.wrap n)=By (CV n):=by
 have:((CV n).toNat:Int)=n % 256:=by
  unfold CV
  rw[UInt8.toNat_ofNat']
  have h1:0≤n % 256:=Int.emod_nonneg _ (by decide)
  have h2:n % 256<256:=Int.emod_lt_of_pos _ (by decide)
  rw[Nat.mod_eq_of_lt (by omega)]
  omega
 rw[By,this,U0]
def zp (L:Nat) : Nat:=(119 - L % 64) % 64
def kg (L:Nat) : Str:=(List.range 8).map fun i=>CV (iL .u64 ((8 * L:Nat) : Int) ((56 - 8 * i:Nat) : Int))
def qA (L:Nat) : Str:=128 :: (List.replicate (zp L) 0++kg L)
def jm (h:List Int) : Str:=(List.range 32).map fun i=>CV (iL .u32 (h.getD (i / 4) 0) ((24 - 8 * (i % 4) : Nat) : Int))
theorem EB (h:List Int) : (jm h).length=32:=by simp[jm]
def rR (b:Str) : Str:=jm (bR kW ((b.length + 9 + zp b.length) / 64) hW (b++qA b.length))
theorem sZ (b:Str) : (rR b).length=32:=EB _
theorem Pk (b:Str) : bR kW ((b.length + 9 + zp b.length) / 64) hW (b++qA b.length) =
  bR kW ((b.length - b.length / 64 * 64 + 9 + zp b.length) / 64) (bR kW (b.length / 64) hW b) (b.drop (b.length / 64 * 64)++qA b.length):=by
 have e:(b.length + 9 + zp b.length) / 64=b.length / 64 + (b.length - b.length / 64 * 64 + 9 + zp b.length) / 64:=by omega
 rw[e,vB,CU (by omega),List.drop_append_of_le_length (by omega),Nat.mul_comm 64]
def partsOf:Nat→List Int→List (Nat × Nat × AV)
 | _,[]=>[]
 | i,x :: xs=>(i,1,N .u32 x) :: partsOf (i + 1) xs
theorem CQ:∀ (xs pre:List Int),kH (bu.row (pre++List.replicate xs.length 0)) (partsOf pre.length xs)=some (bu.row (pre++xs))
 | [],pre=>by simp[partsOf,kH]
 | x :: xs,pre=>by
   have h:=CQ xs (pre++[x])
   rw[List.length_append,List.length_singleton] at h
   rw[partsOf,iO (by rw[iA]; simp),show pre++x :: xs=pre++[x]++xs by simp,← h]
   congr 1
   rw[jV,jV,show(N .u32 x)=(fun n=>N .u32 n) x from rfl,← List.map_set,set_mid (by simp)]
   simp
theorem H8 {T n:Nat} {xs:List Int} {M:RM} {K:AV→RM→Prop} (hn:xs.length=n) (hK:∀ M',aa [] M M'→K (.agg (bu.row xs)) M') :
  aW (.row (bu.row (List.replicate n 0)) false T 0) (fun b=>.ptr b 0) M fun t0 M1=>jd (bu.row (List.replicate n 0)) (partsOf 0 xs) fun t1=>aR M1 t0 t1 n fun M2=>dx M2 t0 n fun res=>K res M2:=by
 subst hn
 rw[aV,iR]
 refine⟨_,CQ xs [], ?_⟩
 have n1:(M.push (.row (bu.row (List.replicate xs.length 0)) false T 0)).heap M.next=some (.row (bu.row (List.replicate xs.length 0)) false T 0):=by simp[RM.push]
 rw[List.nil_append,jT n1 (by rw[iA]) (by rw[iA,List.length_replicate]) (bu.bX _),dM (aF _) (by rw[iA])]
 exact hK _ (((aa.refl _ _).push _).new _ (Nat.le_refl _))
def wP (xs:List Int) (c:au) : Prop:=∀ {M:RM} {Q:ah},(∀ M',aa [] M M'→Q (.agg (bu.row xs)) M')→c [] M Q
theorem GV {T:Nat} : wP kW fun args M Q=>args=[]∧nZ T M Q:=by
 intro M Q hQ
 refine⟨rfl, ?_⟩
 unfold nZ
 exact H8 (xs:=kW) (n:=64) AR hQ
theorem N8 {T:Nat} : wP hW fun args M Q=>args=[]∧vL T M Q:=by
 intro M Q hQ
 refine⟨rfl, ?_⟩
 unfold vL
 exact H8 (xs:=hW) (n:=8) Fj hQ
def jw (T:Nat) (c:au) : Prop:=∀ {M:RM} {v:AV} {s:Str} {Q:ah},Sl BY M v s→s.length≤1000000000→(∀ v' M',Ow BY M' M.next T v' s→aa [] M M'→Q v' M')→c [v] M Q
theorem FZ {T:Nat} : jw T fun args M Q=>∃ a0,args=[a0]∧Go.Ab.aP.rV T a0 M Q:=by
 intro M v s Q hv hl hQ
 refine⟨_,rfl, ?_⟩
 unfold Go.Ab.aP.rV
 rcases aO.uD hv false with⟨rfl,he⟩ | ⟨hne,he⟩
 ·rw[he,show(!false)=true from rfl,jv]
  have:s=[]:=by
   unfold Sl at hv
   cases s with
   | nil=>rfl
   | cons x s=>generalize hcs:BY.row (x :: s)=cs at *; generalize hn:(x :: s).length=n at *; cases hv; cases hcs
  subst this
  exact hQ bK M .nil (aa.refl _ _)
 ·rw[he,iI,OH]
  simp only[aV]
  have k1:aa [] M (M.push (.row [] false T 0)):=(aa.refl _ _).push _
  refine pE (E:=BY) (Ow.lit BY M) (by simp[RM.push]) (by decide) (aO.keep hv k1 (by simp)) (by simp; omega) (by simp; omega) fun v7 M7 o7 k7 _ _=>?_
  refine hQ v7 M7 (by simpa using o7) ?_
  refine aa.own k1 k7 (fun b hb=>?_)
  simp[ak] at hb; omega
theorem KZ {L i:Nat} (hi:i<8) : (kg L).take (i + 1)=(kg L).take i++[CV (iL .u64 ((8 * L:Nat) : Int) ((56 - 8 * i:Nat) : Int))]:=by
 have hl:i<(kg L).length:=by simp[kg]; exact hi
 rw[List.take_succ_eq_append_getElem hl]
 simp[kg]
theorem K7 {d:Str} {n i:Nat} {x:UInt8} (hi:i<n) (hd:d.length=n) (hx:d[i]?=some x) : (d.take i++List.replicate (n - i) 0).set i x=d.take (i + 1)++List.replicate (n - (i + 1)) 0:=by
 have hl:(d.take i).length=i:=by rw[List.length_take]; omega
 have hx' : d[i]'(by omega)=x:=by rw[List.getElem?_eq_getElem (by omega)] at hx; exact Option.some.inj hx
 obtain⟨m,hm⟩ : ∃ m,n - i=m + 1:=⟨n - i - 1,by omega⟩
 rw[hm,List.replicate_succ,List.set_append_right _ _ (by omega),hl,Nat.sub_self,List.set_cons_zero,List.take_succ_eq_append_getElem (by omega),hx',List.append_assoc,show n - (i + 1)=m by omega]
 rfl
def DT (c:au) : Prop:=∀ {M:RM} {v:AV} {b:Str} {Q:ah},Bs M v b→b.length≤100000000→(∀ M',aa [] M M'→Q (.agg (BY.row (rR b))) M')→c [v] M Q
theorem SF {T32 TK TS T8:Nat} {cc cf ct cl:au} (hc:wP kW cc) (hf:wP hW cf) (ht:OB TK TS ct) (hcl:jw T8 cl) : DT fun args M Q=>∃ a0,args=[a0]∧BD T32 cc TK cf TS ct cl T8 a0 M Q:=by
 intro M v b Q hv hl hQ
 refine⟨_,rfl, ?_⟩
 unfold BD
 rw[aV]
 have k1:aa [] M (M.push (.row (BY.row (List.replicate 32 0)) false T32 0)):=(aa.refl _ _).push _
 have n1:(M.push (.row (BY.row (List.replicate 32 0)) false T32 0)).heap M.next=some (.row (BY.row (List.replicate 32 0)) false T32 0):=by simp[RM.push]
 have l1:M.next<(M.push (.row (BY.row (List.replicate 32 0)) false T32 0)).next:=by simp[RM.push]
 show cc _ (M.push (.row (BY.row (List.replicate 32 0)) false T32 0)) _
 generalize M.push (.row (BY.row (List.replicate 32 0)) false T32 0)=M1 at *
 refine hc fun M2 k2=>?_
 have zz:∀ n,(bu.row (List.replicate n 0)).length=n:=fun n=>by rw[iA,List.length_replicate]
 refine Fv (K:=fun t Nq=>_) (z:=bu.row (List.replicate 64 0)) 64 (zz 64) (by rw[iA,AR]) (bu.bX _) fun M3 k3 n3 l3=>?_
 refine hf fun M4 k4=>?_
 refine Fv (K:=fun t Nq=>_) (z:=bu.row (List.replicate 8 0)) 8 (zz 8) (by rw[iA,Fj]) (bu.bX _) fun M5 k5 n5 l5=>?_
 have hk34:=k4.next
 have hk23:=k3.next
 have k35:aa [] M3 M5:=k4.trans k5
 have n35:=k35.ay n3 l3 (by simp)
 have l35:M2.next<M5.next:=Nat.lt_of_lt_of_le l3 k35.next
 have k05:aa [] M M5:=k1.trans (k2.trans (k3.trans k35))
 have k25:aa [] M2 M5:=k3.trans k35
 have n15:=(k2.trans k25).ay n1 l1 (by simp)
 have l15:M.next<M5.next:=Nat.lt_of_lt_of_le l1 (k2.trans k25).next
 have hl1:M.next<M2.next:=Nat.lt_of_lt_of_le l1 k2.next
 have hne:M2.next≠M4.next:=by omega
 have hv5:=hv.keep k05 (by simp)
 have ZJ:=hv.lt
 have hvn:∀ x∈ak v,x ∉ [M4.next]:=fun x hx hm=>by have:=ZJ x hx; simp at hm; omega
 rw[hv5.len,yN]
 refine⟨by decide, ?_⟩
 have e1:IntKind.i64.wrap ((b.length:Int).tdiv 64)=((b.length / 64:Nat) : Int):=by
  rw[show(b.length:Int).tdiv 64=((b.length / 64:Nat) : Int) by rw[Int.natCast_ediv]; exact Int.tdiv_eq_ediv_of_nonneg (by omega)]
  exact aM (by omega) (by omega)
 rw[e1,fE,show IntKind.i64.wrap (((b.length / 64:Nat) : Int) * 64)=((b.length / 64 * 64:Nat) : Int) by rw[aM (by omega) (by omega)]; omega]
 generalize hwe:b.length / 64=q at *
 have hq:q * 64≤b.length∧b.length<q * 64 + 64:=by omega
 refine aT (fun m ys M6=>∃ j:Nat,m=q - j∧ys=[N .i64 ((j * 64:Nat) : Int)]∧j≤q∧aa [M4.next] M5 M6∧M6.heap M4.next=some (.row (bu.row (bR kW j hW b)) false TS 0)) _
  ⟨0,rfl,rfl,by omega,aa.refl _ _,n5⟩ ?_
 rintro next m ys M6 hnext ⟨j,rfl,rfl,hj,k6,n6⟩
 simp only[aK]
 have l6:M4.next<M6.next:=Nat.lt_of_lt_of_le l5 k6.next
 have n36:=k6.ay n35 l35 (by simp; omega)
 have l36:M2.next<M6.next:=Nat.lt_of_lt_of_le l35 k6.next
 have hv6:=hv5.keep k6 hvn
 have Rc:(bR kW j hW b).length=8:=mg Fj
 rw[lU]
 refine aZ (fun hc=>?_) fun hc=>?_
 ·have hjq:j<q:=by have:=of_decide_eq_true hc; omega
  rw[eY 64 (by omega) (by omega) (by rfl)]
  refine hv6.sub (BF _ _ _) (BF _ _ _) (by omega) (by omega) fun v7 h7 hs7=>?_
  rw[show j * 64 + 64 - j * 64=64 by omega] at h7
  refine ht n6 l6 Rc n36 l36 hne AR h7 (by rw[List.length_take,List.length_drop]; omega) fun M7 k7 n7=>?_
  rw[eY 64 (by omega) (by omega) (by rfl),show j * 64 + 64=(j + 1) * 64 by omega]
  refine hnext _ _ _ (by omega) ⟨j + 1,rfl,rfl,by omega,k6.trans k7, ?_⟩
  rw[uf,Nat.mul_comm 64]
  exact n7
 have hjq:j=q:=by have:=of_decide_eq_false hc; omega
 subst hjq
 clear hnext
 refine hv6.sub (BF _ _ _) (Vw _) (by omega) (Nat.le_refl _) fun v7 h7 hs7=>?_
 rw[List.take_of_length_le (by simp)] at h7
 have hdl:(b.drop (j * 64)).length=b.length - j * 64:=List.length_drop
 refine hcl h7.sl (by omega) fun v8 M8 o8 k8=>?_
 rw[kF (by rfl) (by rfl) (by rfl),aV]
 refine iN (E:=BY) (a:=(128:UInt8)) o8 k8.next (by decide) (by omega) (by omega) fun v9 M9 o9 k9 _ _=>?_
 have k69:aa [] M6 M9:=aa.own k8 k9 (fun x hx=>(Own.blk o8 x hx).1)
 have hzp:zp b.length<64:=Nat.mod_lt _ (by decide)
 have hz:(b.length - j * 64 + 1 + zp b.length) % 64=56:=by unfold zp; omega
 refine aT (fun m ys M10=>∃ (i:Nat) (rv:AV),m=zp b.length - i∧ys=[rv]∧i≤zp b.length∧aa [] M6 M10∧Ow BY M10 M6.next T8 rv (b.drop (j * 64)++128 :: List.replicate i 0)) _
  ⟨0,v9,rfl,rfl,by omega,k69,o9⟩ ?_
 rintro next m ys M10 hnext ⟨i,rv,rfl,rfl,hi,k10,o10⟩
 simp only[aK]
 have hrl:(b.drop (j * 64)++128 :: List.replicate i 0).length=b.length - j * 64 + 1 + i:=by simp; omega
 rw[aO.len (Own.lN o10),hrl,tF]
 refine⟨by decide, ?_⟩
 rw[show(((b.length - j * 64 + 1 + i:Nat) : Int)).tmod 64=(((b.length - j * 64 + 1 + i) % 64:Nat) : Int) by rw[Int.natCast_emod]; exact Int.tmod_eq_emod_of_nonneg (by omega),dH]
 refine aZ (fun hc=>?_) fun hc=>?_
 ·have hne:(b.length - j * 64 + 1 + i) % 64≠56:=fun e=>by rw[e] at hc; cases hc
  have hlt:i<zp b.length:=by
   rcases Nat.lt_or_ge i (zp b.length) with h | h
   ·exact h
   ·have:i=zp b.length:=by omega
    subst this; exact absurd hz hne
  rw[kF (by rfl) (by rfl) (by rfl),aV]
  refine iN (E:=BY) (a:=(0:UInt8)) o10 k10.next (by decide) (by omega) (by omega) fun v11 M11 o11 k11 _ _=>?_
  refine hnext _ _ _ (by omega) ⟨i + 1,v11,rfl,rfl,by omega,aa.own k10 k11 (fun x hx=>(Own.blk o10 x hx).1), ?_⟩
  have e:b.drop (j * 64)++128 :: List.replicate (i + 1) 0=b.drop (j * 64)++128 :: List.replicate i 0++[0]:=by rw[List.replicate_succ']; simp
  rw[e]; exact o11
 have Yu:(b.length - j * 64 + 1 + i) % 64=56:=by
  have:((((b.length - j * 64 + 1 + i) % 64:Nat) : Int) != 56)=false:=hc
  have:=bne_eq_false_iff_eq.1 this
  omega
 have hiz:i=zp b.length:=by omega
 subst hiz
 clear hnext
 generalize hpre:b.drop (j * 64)++128 :: List.replicate (zp b.length) 0=P at *
 refine aT (fun m ys M11=>∃ (i:Nat) (rv:AV),m=8 - i∧ys=[rv,N .i64 (i:Int)]∧i≤8∧aa [] M6 M11∧Ow BY M11 M6.next T8 rv (P++(kg b.length).take i)) _
  ⟨0,rv,rfl,rfl,by omega,k10,by rw[List.take_zero,List.append_nil]; exact o10⟩ ?_
 rintro next m ys M11 hnext ⟨i,rv2,rfl,rfl,hi,k11,o11⟩
 simp only[aK,eP]
 have Yc:=hv6.keep k11 (by simp)
 have hll:((kg b.length).take i).length=i:=by rw[List.length_take]; simp[kg]; omega
 have hpl:(P++(kg b.length).take i).length=b.length - j * 64 + 1 + zp b.length + i:=by rw[List.length_append,hrl,hll]
 rw[lh 8 (by rfl)]
 refine aZ (fun hc=>?_) fun hc=>?_
 ·have hi8:i<8:=of_decide_eq_true hc
  rw[Yc.len,dz,bS (by omega) (by omega),fE,bS (by omega) (by omega),fE,aM (by omega) (by omega),fM,aM (by omega) (by omega),gq]
  refine⟨by omega, ?_⟩
  rw[dz,show((b.length:Int) * 8)=((8 * b.length:Nat) : Int) by omega,show(56 - 8 * (i:Int))=((56 - 8 * i:Nat) : Int) by omega,Cr,kF (by rfl) (by rfl) (by rfl),aV]
  refine iN (E:=BY) (a:=CV (iL .u64 ((8 * b.length:Nat) : Int) ((56 - 8 * i:Nat) : Int))) o11 k11.next (by decide) (by omega) (by omega) fun v12 M12 o12 k12 _ _=>?_
  rw[eY 1 (by omega) (by omega) (by rfl)]
  refine hnext _ _ _ (by omega) ⟨i + 1,v12,rfl,rfl,by omega,aa.own k11 k12 (fun x hx=>(Own.blk o11 x hx).1), ?_⟩
  rw[KZ hi8,← List.append_assoc]
  exact o12
 have hi8:i=8:=by have:=of_decide_eq_false hc; omega
 subst hi8
 clear hnext
 rw[List.take_of_length_le (by simp[kg])] at o11 hpl
 have hfull:P++kg b.length=b.drop (j * 64)++qA b.length:=by rw[← hpre]; simp[qA]
 rw[hfull] at o11 hpl
 have hrest:(b.drop (j * 64)++qA b.length).length=b.length - j * 64 + 9 + zp b.length:=by rw[hpl]; omega
 generalize hRe:b.drop (j * 64)++qA b.length=R at *
 have hmod:(b.length - j * 64 + 9 + zp b.length) % 64=0:=by omega
 obtain⟨n,hn⟩ : ∃ n,b.length - j * 64 + 9 + zp b.length=64 * n:=⟨(b.length - j * 64 + 9 + zp b.length) / 64,by omega⟩
 rw[hn] at hrest
 have Sq:=Bs.own o11
 have n11:=k11.ay n6 l6 (by simp)
 have n311:=k11.ay n36 l36 (by simp)
 have l11:M4.next<M11.next:=Nat.lt_of_lt_of_le l6 k11.next
 have V8:M2.next<M11.next:=Nat.lt_of_lt_of_le l36 k11.next
 generalize hH:bR kW j hW b=H at *
 have hrn:∀ x∈ak rv2,x ∉ [M4.next]:=fun x hx hm=>by
  have:=(Own.blk o11 x hx).1
  simp at hm; omega
 refine aT (fun m ys M12=>∃ i:Nat,m=n - i∧ys=[N .i64 ((i * 64:Nat) : Int)]∧i≤n∧aa [M4.next] M11 M12∧M12.heap M4.next=some (.row (bu.row (bR kW i H R)) false TS 0)) _
  ⟨0,rfl,rfl,by omega,aa.refl _ _,n11⟩ ?_
 rintro next m ys M12 hnext ⟨i,rfl,rfl,hi,k12,n12⟩
 simp only[aK]
 have l12:M4.next<M12.next:=Nat.lt_of_lt_of_le l11 k12.next
 have n312:=k12.ay n311 V8 (by simp; omega)
 have X0:M2.next<M12.next:=Nat.lt_of_lt_of_le V8 k12.next
 have Jp:=Sq.keep k12 hrn
 rw[Jp.len,lU]
 refine aZ (fun hc=>?_) fun hc=>?_
 ·have hin:i<n:=by have:=of_decide_eq_true hc; omega
  rw[eY 64 (by omega) (by omega) (by rfl)]
  refine Jp.sub (BF _ _ _) (BF _ _ _) (by omega) (by omega) fun v13 h13 Yz=>?_
  rw[show i * 64 + 64 - i * 64=64 by omega] at h13
  refine ht n12 l12 (mg Rc) n312 X0 hne AR h13 (by rw[List.length_take,List.length_drop]; omega) fun M13 k13 n13=>?_
  rw[eY 64 (by omega) (by omega) (by rfl),show i * 64 + 64=(i + 1) * 64 by omega]
  refine hnext _ _ _ (by omega) ⟨i + 1,rfl,rfl,by omega,k12.trans k13, ?_⟩
  rw[uf,Nat.mul_comm 64]
  exact n13
 have hin:i=n:=by have:=of_decide_eq_false hc; omega
 subst hin
 clear hnext
 have Og:rR b=jm (bR kW i H R):=by
  unfold rR
  rw[Pk,hwe,hRe,hH,hn,Nat.mul_div_cancel_left _ (by decide)]
 have hF:(bR kW i H R).length=8:=mg Rc
 generalize bR kW i H R=F at *
 have hdF:=EB F
 rw[aV]
 have RV:aa [M4.next] M5 M12:=k6.trans ((k11.mono (by simp)).trans k12)
 have n112:=RV.ay n15 l15 (by simp; omega)
 have QS:M.next<M12.next:=Nat.lt_of_lt_of_le l15 RV.next
 have k14:aa [] M12 (M12.push (.row (BY.row (List.replicate 32 0)) false T32 0)):=(aa.refl _ _).push _
 have n14:(M12.push (.row (BY.row (List.replicate 32 0)) false T32 0)).heap M12.next=some (.row (BY.row ((jm F).take 0++List.replicate (32 - 0) 0)) false T32 0):=by simp[RM.push]
 have l14:M12.next<(M12.push (.row (BY.row (List.replicate 32 0)) false T32 0)).next:=by simp[RM.push]
 show bE _ _ (M12.push (.row (BY.row (List.replicate 32 0)) false T32 0))
 generalize M12.push (.row (BY.row (List.replicate 32 0)) false T32 0)=M14 at *
 refine aT (fun m ys M15=>∃ i:Nat,m=32 - i∧ys=[N .i64 (i:Int)]∧i≤32∧aa [] M12 M15∧M12.next<M15.next∧M15.heap M12.next=some (.row (BY.row ((jm F).take i++List.replicate (32 - i) 0)) false T32 0)) _
  ⟨0,rfl,rfl,by omega,k14,l14,n14⟩ ?_
 rintro next m ys M15 hnext ⟨i',rfl,rfl,hi',k15,SH,n15'⟩
 simp only[aK]
 have ZH:=k15.ay n12 l12 (by simp)
 rw[lh 32 (by rfl)]
 refine aZ (fun hc=>?_) fun hc=>?_
 ·have jC:i'<32:=of_decide_eq_true hc
  rw[yN]
  refine⟨by decide, ?_⟩
  rw[show IntKind.i64.wrap (((i' : Nat) : Int).tdiv 4)=((i' / 4:Nat) : Int) by
   rw[show((i' : Nat) : Int).tdiv 4=((i' / 4:Nat) : Int) by rw[Int.natCast_ediv]; exact Int.tdiv_eq_ediv_of_nonneg (by omega)]
   exact aM (by omega) (by omega)]
  rw[bH rfl (by omega),mP ZH (by omega),tF]
  refine⟨by decide, ?_⟩
  rw[show(((i' : Nat) : Int)).tmod 4=((i' % 4:Nat) : Int) by rw[Int.natCast_emod]; exact Int.tmod_eq_emod_of_nonneg (by omega),fE,aM (by omega) (by omega),fM,aM (by omega) (by omega),gq]
  refine⟨by omega, ?_⟩
  rw[dz,Cr,bH rfl jC,show(24 - 8 * ((i' % 4:Nat) : Int))=((24 - 8 * (i' % 4) : Nat) : Int) by omega]
  have hget:(jm F)[i']?=some (CV (iL .u32 (F.getD (i' / 4) 0) ((24 - 8 * (i' % 4) : Nat) : Int))):=by
   simp[jm,jC]
  have hset:=K7 jC hdF hget
  have U4:((jm F).take i'++List.replicate (32 - i') 0).length=32:=by rw[List.length_append,List.length_take,List.length_replicate]; omega
  rw[fP (BY.row ((jm F).take (i' + 1)++List.replicate (32 - (i' + 1)) 0)) n15' (by rw[fu]; omega) rfl rfl (by rw[← hset,mr,mr,List.map_set]),eY 1 (by omega) (by omega) (by rfl)]
  exact hnext _ _ _ (by omega) ⟨i' + 1,rfl,rfl,by omega,k15.new _ (Nat.le_refl _),SH,aF _⟩
 ·have jC:i'=32:=by have:=of_decide_eq_false hc; omega
  subst jC
  have e:(jm F).take 32++List.replicate (32 - 32) 0=jm F:=by rw[List.take_of_length_le (by omega)]; simp
  rw[e] at n15'
  have n115:=k15.ay n112 QS (by simp)
  rw[dM n15' (by rw[fu,hdF]),jT n115 (by rw[fu,hdF]) (by rw[fu,List.length_replicate]) (BY.bX _),dM (aF _) (by rw[fu,hdF]),← Og]
  have Rt:aa [M4.next] M M12:=(k05.mono (by simp)).trans RV
  have Xr:aa [] M M12:=⟨Rt.base,Rt.next,fun x hx _=>Rt.heap x hx (by simp; omega)⟩
  exact hQ _ ((Xr.trans k15).new _ (Nat.le_refl _))
theorem PP {p:UInt8→Bool} (h:(List.range 256).all (fun n=>p (UInt8.ofNat n))=true) (x:UInt8) : p x=true:=by
 have:=List.all_eq_true.1 h x.toNat (List.mem_range.2 x.toNat_lt)
 simpa using this
abbrev QN:Str:=[48,49,50,51,52,53,54,55,56,57,97,98,99,100,101,102]
def hx (n:Nat) : UInt8:=QN.getD n 0
def mK (d:Str) : Str:=d.flatMap fun x=>[hx (x.toNat / 16),hx (x.toNat % 16)]
theorem yE (d:Str) : (mK d).length=2 * d.length:=by
 induction d with
 | nil=>rfl
 | cons x d ih=>unfold mK at ih ⊢; rw[List.flatMap_cons,List.length_append,ih,List.length_cons]; simp; omega
theorem Ii (d:Str) {i:Nat} (h:i<d.length) : mK (d.take (i + 1))=mK (d.take i)++[hx (d[i].toNat / 16),hx (d[i].toNat % 16)]:=by
 rw[List.take_succ_eq_append_getElem h]
 unfold mK
 rw[List.flatMap_append]
 simp
def ZW (x:UInt8) : Bool:=iL .u8 (x.toNat:Int) 4 == ((x.toNat / 16:Nat) : Int)
def ZR (x:UInt8) : Bool:=oD .u8 (x.toNat:Int) 15 == ((x.toNat % 16:Nat) : Int)
theorem Ut:∀ x,ZW x=true:=PP (by decide +kernel)
theorem Uz:∀ x,ZR x=true:=PP (by decide +kernel)
theorem Td (x:UInt8) : iL .u8 (x.toNat:Int) 4=((x.toNat / 16:Nat) : Int):=eq_of_beq (Ut x)
theorem Tm (x:UInt8) : oD .u8 (x.toNat:Int) 15=((x.toNat % 16:Nat) : Int):=eq_of_beq (Uz x)
theorem IZ {n:Nat} (h:n<16) {k:IntKind} {K:AV→Prop} : rW (St QN) (N k (n:Int)) K=K (By (hx n)):=by
 rw[G5 (by show n<16; exact h)]
 have:QN[n]'(by show n<16; exact h)=hx n:=by
  unfold hx
  rw[List.getD_eq_getElem?_getD,List.getElem?_eq_getElem (by show n<16; exact h)]; rfl
 rw[this]
theorem NB {T:Nat} {a b z:AV} {K:RB→(Nat→AV)→Prop} (ha:a.cells=[a]) (hb:b.cells=[b]) (ha1:oneCell a=true) (hb1:oneCell b=true) :
  bW T 2 [z] [(0,1,a),(1,1,b)] K=K (.row [a,b] false T 0) (fun b=>.slc b 0 2 (.ex 2)):=by
 have:jM (fB [z] 2) [(0,1,a),(1,1,b)]=some [a,b]:=by simp[jM,fB,ha,hb,ha1,hb1]
 apply propext; unfold bW
 constructor
 ·rintro⟨l,h,hk⟩; rw[this] at h; cases h; exact hk
 ·intro hk; exact⟨_,this,hk⟩
theorem Me {M:RM} {base T:Nat} {v:AV} {xs:Str} {x y:UInt8} {zs:List AV} {K:ah} (ho:Ow BY M base T v xs) (hb:base≤M.next) (hn:xs.length≤1000000000)
  (hK:∀ v' M',Ow BY M' base T v' (xs++[x,y])→aa (ak v) M M'→K v' M') :
  appW T 1 1 zs false v (.slc M.next 0 2 (.ex 2)) (M.push (.row [By x,By y] false T 0)) K:=by
 have hk:aa [] M (M.push (.row (BY.row [x,y]) false T 0)):=(aa.refl _ _).push _
 refine pE (E:=BY) (ys:=[x,y]) (Own.keep ho hk (by simp)) (Nat.le_trans hb hk.next) (by decide) (Sl.new [x,y]) (by simp; omega) (by simp; omega) fun v' M' h1 h2 _ _=>?_
 exact hK v' M' h1 ((hk.mono (by simp)).trans h2)
def Ji (c:au) : Prop:=∀ {M:RM} {d:Str} {Q:ah},d.length=32→(∀ M',aa [] M M'→Q (St (mK d)) M')→c [.agg (BY.row d)] M Q
theorem Vt {d:Str} {i:Nat} (h:i<d.length) : (BY.row d)[i]?=some (By d[i]):=by rw[mr,List.getElem?_map,List.getElem?_eq_getElem h]; rfl
theorem PH {T32 T8:Nat} : Ji fun args M Q=>∃ a0,args=[a0]∧AL T32 T8 a0 M Q:=by
 intro M d Q hd hQ
 refine⟨_,rfl, ?_⟩
 unfold AL
 rw[kK (BY.bX d) (by rw[fu]; omega),aV]
 have k0:aa [] M (M.push (.row (BY.row d) false T32 0)):=(aa.refl _ _).push _
 have n0:(M.push (.row (BY.row d) false T32 0)).heap M.next=some (.row (BY.row d) false T32 0):=by simp[RM.push]
 generalize M.push (.row (BY.row d) false T32 0)=M0 at *
 rw[dM n0 (by rw[fu,hd])]
 refine aT (fun m ys M3=>∃ (i:Nat) (ov:AV),m=32 - i∧ys=[ov,N .i64 (i:Int)]∧i≤32∧aa [] M M3∧Ow BY M3 M.next T8 ov (mK (d.take i))) _ ⟨0,bK,rfl,rfl,by omega,k0,.nil⟩ ?_
 rintro next m ys M3 hnext ⟨i,ov,rfl,rfl,hi,k3,o3⟩
 simp only[aK,eP]
 rw[lh 32 (by rfl)]
 refine aZ (fun hc=>?_) fun hc=>?_
 ·have jC:i<32:=of_decide_eq_true hc
  have hid:i<d.length:=by omega
  have hlt:=Fe d[i]
  rw[Hg]
  refine⟨by omega,by omega,By d[i],by rw[Int.toNat_natCast]; exact Vt hid, ?_⟩
  rw[By,gq]
  refine⟨by decide, ?_⟩
  rw[Td,IZ (by omega),di,Tm,IZ (by omega),NB rfl rfl rfl rfl,vW]
  have hhl:=yE (d.take i)
  have htl:(d.take i).length=i:=by rw[List.length_take]; omega
  refine Me o3 k3.next (by omega) fun v4 M4 o4 k4=>?_
  rw[eY 1 (by omega) (by omega) (by rfl)]
  refine hnext _ _ _ (by omega) ⟨i + 1,v4,rfl,rfl,by omega,aa.own k3 k4 (fun x hx=>(Own.blk o3 x hx).1), ?_⟩
  rw[Ii d hid]; exact o4
 ·have jC:i=32:=by have:=of_decide_eq_false hc; omega
  subst jC
  rw[List.take_of_length_le (by omega)] at o3
  rw[Sl.str (Own.lN o3)]
  exact hQ M3 k3
def Oz (c:au) : Prop:=∀ {M:RM} {v:AV} {d:Str} {Q:ah},Bs M v d→d.length≤1000000→(∀ M',aa [] M M'→Q (St (mK d)) M')→c [v] M Q
theorem Pm {T8:Nat} : Oz fun args M Q=>∃ a0,args=[a0]∧xN T8 a0 M Q:=by
 intro M v d Q hv hl hQ
 refine⟨_,rfl, ?_⟩
 unfold xN
 refine Jg ?_
 show aW _ _ _ _
 rw[aV]
 have k0:aa [] M (M.push (.row [] false T8 0)):=(aa.refl _ _).push _
 refine aT (fun m ys M3=>∃ (i:Nat) (ov:AV),m=d.length - i∧ys=[ov,N .i64 (i:Int)]∧i≤d.length∧aa [] M M3∧Ow BY M3 M.next T8 ov (mK (d.take i))) _ ⟨0,_,rfl,rfl,by omega,k0,Ow.lit BY M⟩ ?_
 rintro next m ys M3 hnext ⟨i,ov,rfl,rfl,hi,k3,o3⟩
 simp only[aK,eP]
 have hv3:=hv.keep k3 (by simp)
 rw[hv3.len,lU]
 refine aZ (fun hc=>?_) fun hc=>?_
 ·have hid:i<d.length:=of_decide_eq_true hc
  have hlt:=Fe d[i]
  rw[hv3.read hid,By,gq]
  refine⟨by decide, ?_⟩
  rw[Td,IZ (by omega),hv3.read hid,By,di,Tm,IZ (by omega),NB rfl rfl rfl rfl,vW]
  have hhl:=yE (d.take i)
  have htl:(d.take i).length=i:=by rw[List.length_take]; omega
  refine Me o3 k3.next (by omega) fun v4 M4 o4 k4=>?_
  rw[eY 1 (by omega) (by omega) (by rfl)]
  refine hnext _ _ _ (by omega) ⟨i + 1,v4,rfl,rfl,by omega,aa.own k3 k4 (fun x hx=>(Own.blk o3 x hx).1), ?_⟩
  rw[Ii d hid]; exact o4
 ·have jC:i=d.length:=by have:=of_decide_eq_false hc; omega
  subst jC
  rw[List.take_length] at o3
  rw[Sl.str (Own.lN o3)]
  exact hQ M3 k3
def dI (b:Str) : Str:=mK (rR b)
theorem AB (b:Str) : (dI b).length=64:=by unfold dI; rw[yE,sZ]
def xS (c:au) : Prop:=∀ {M:RM} {v:AV} {b:Str} {Q:ah},Bs M v b→b.length≤100000000→(∀ M',aa [] M M'→Q (St (dI b)) M')→c [v] M Q
theorem Bs.arr {M:RM} {b T:Nat} {d:Str} (h:M.heap b=some (.row (BY.row d) false T 0)) (hb:b<M.next) : Bs M (.slc b 0 d.length (.ex d.length)) d :=
 ⟨Rw.sl ⟨h,hb⟩,Nat.le_refl _⟩
theorem Ku {n b:Nat} (hn:0<n) : zW n 1 (.ptr b 0) none none=some (.slc b 0 n (.ex n)):=by
 unfold zW
 simp only[bnd]
 rw[if_pos ⟨Nat.zero_le _,Nat.le_refl _⟩,if_neg (by omega)]
 simp
theorem Jl {T32:Nat} {cs ch:au} (hs:DT cs) (hh:Oz ch) : xS fun args M Q=>∃ a0,args=[a0]∧vD cs T32 ch a0 M Q:=by
 intro M v b Q hv hl hQ
 refine⟨_,rfl, ?_⟩
 unfold vD
 refine hs hv hl fun M1 k1=>?_
 have hd:=sZ b
 refine Fv (K:=fun t Nq=>_) (z:=BY.row (List.replicate 32 0)) 32 (by rw[fu,List.length_replicate]) (by rw[fu,hd]) (BY.bX _) fun M2 k2 n2 l2=>?_
 rw[Ku (by omega),nE]
 have hB:=Bs.arr n2 l2
 rw[hd] at hB
 refine hh hB (by omega) fun M3 k3=>?_
 exact hQ M3 (k1.trans (k2.trans k3))
def oQ (x:UInt8) : Bool:=(decide ((x.toNat:Int) ≥ 48) && decide ((x.toNat:Int)≤57)) || (decide ((x.toNat:Int) ≥ 97) && decide ((x.toNat:Int)≤102))
def fI (s:Str) : Bool:=decide (s.length=64) && s.all oQ
def JK (c:au) : Prop:=∀ {M:RM} {x:UInt8} {Q:ah},(∀ n:Int,(decide (n > 15))=!oQ x→0≤n→Q (N .u8 n) M)→c [By x] M Q
theorem NT:JK fun args M Q=>∃ a0,args=[a0]∧uW a0 M Q:=by
 intro M x Q hQ
 refine⟨_,rfl, ?_⟩
 unfold uW
 have hx:=Fe x
 simp only[rD,By]
 rw[jQ]
 refine TJ (p:=decide ((x.toNat:Int)≤57)) (fun _ k hk=>by rw[DI]; exact hk) ?_
 refine aZ (fun h=>?_) fun h1=>?_
 ·rw[fM]
  have h':=h
  simp only[Bool.and_eq_true,decide_eq_true_eq] at h'
  rw[yU (by omega) (by omega)]
  refine hQ _ ?_ (by omega)
  unfold oQ
  rw[h,Bool.true_or]
  simp; omega
 rw[jQ]
 refine TJ (p:=decide ((x.toNat:Int)≤102)) (fun _ k hk=>by rw[DI]; exact hk) ?_
 refine aZ (fun h=>?_) fun h2=>?_
 ·rw[fM,bq]
  have h':=h
  simp only[Bool.and_eq_true,decide_eq_true_eq] at h'
  rw[yU (n:=(x.toNat:Int) - 97) (by omega) (by omega),yU (by omega) (by omega)]
  refine hQ _ ?_ (by omega)
  unfold oQ
  rw[h,Bool.or_true]
  simp; omega
 ·refine hQ _ ?_ (by decide)
  unfold oQ
  rw[h1,h2]; rfl
def J3 (c:au) : Prop:=∀ {M:RM} {s:Str} {Q:ah},s.length≤281474976710656→(∀ (cs:List AV) M',aa [] M M'→cs.length=32→cs.all oneCell=true→Q (.tup [.agg cs,N .i64 (if fI s then 0 else 14)]) M')→c [St s] M Q
theorem MJ {p:UInt8→Bool} {s:Str} {i:Nat} (h:i<s.length) (hA:(s.take i).all p=true) (hp:p s[i]=true) : (s.take (i + 1)).all p=true:=by
 rw[List.take_succ_eq_append_getElem h,List.all_append,hA]; simp[hp]
theorem PX {p:UInt8→Bool} {s:Str} {i:Nat} (h:i<s.length) (hp:p s[i]=false) : s.all p=false:=by
 rw[← List.take_append_drop i s,List.all_append,List.drop_eq_getElem_cons h,List.all_cons,hp]; simp
theorem eU {T:Nat} {M:RM} (z:List AV) {K:AV→RM→Prop} (hK:∀ M',aa [] M M'→M'.heap M.next=some (.row z false T 0)→M'.next=M.next + 1→K (.ptr M.next 0) M') : aW (.row z false T 0) (fun b=>.ptr b 0) M K:=by
 rw[aV]
 exact hK _ ((aa.refl _ _).push _) (by simp[RM.push]) rfl
theorem OG {T32:Nat} {cd:au} (hd:JK cd) : J3 fun args M Q=>∃ a0,args=[a0]∧yC T32 cd a0 M Q:=by
 intro M s Q hl hQ
 refine⟨_,rfl, ?_⟩
 unfold yC
 have zl:(BY.row (List.replicate 32 0)).length=32:=by rw[fu,List.length_replicate]
 refine eU (BY.row (List.replicate 32 0)) fun M1 k1 n1 e1=>?_
 refine eU (BY.row (List.replicate 32 0)) fun M2 k2 n2 e2=>?_
 have k02:=k1.trans k2
 have n12:=k2.ay n1 (by omega) (by simp)
 simp only[rD]
 rw[Hz,dH]
 have e64:((s.length:Int) != 64)=!decide (s.length=64):=by
  rw[bne,show((s.length:Int) == 64)=decide (s.length=64) by rw[Bool.eq_iff_iff,beq_iff_eq,decide_eq_true_iff]; omega]
 have fin:∀ (M3:RM) (cs:List AV) (n:Int),aa [M1.next] M2 M3→cs.length=32→cs.all oneCell=true→n=(if fI s then 0 else 14)→aR M3 (.ptr M.next 0) (.agg cs) 32 fun M_1=>dx M_1 (.ptr M.next 0) 32 fun res=>Q (.tup [res,N .i64 n]) M_1:=by
  intro M3 cs n k3 h1 h2 h3
  have n13:=k3.ay n12 (by omega) (by simp; omega)
  rw[jT n13 h1 zl h2,dM (aF _) h1,h3]
  exact hQ cs _ ((yP k02 k3 (by omega)).new _ (Nat.le_refl _)) h1 h2
 rw[e64]
 refine aZ (fun hc=>?_) fun hc=>?_
 ·rw[dM n2 zl]
  exact fin M2 _ 14 (aa.refl _ _) zl (BY.bX _) (by
   have:decide (s.length=64)=false:=by simpa using hc
   unfold fI; rw[this]; rfl)
 have h64:s.length=64:=by simpa using hc
 refine aT (fun m ys M3=>∃ (i:Nat) (cs:List AV),m=32 - i∧ys=[N .i64 (i:Int)]∧i≤32∧aa [M1.next] M2 M3∧M3.heap M1.next=some (.row cs false T32 0)∧cs.length=32∧cs.all oneCell=true∧(s.take (2 * i)).all oQ=true) _
  ⟨0,_,rfl,rfl,by omega,aa.refl _ _,n2,zl,BY.bX _,rfl⟩ ?_
 rintro next m ys M3 hnext ⟨i,cs,rfl,rfl,hi,k3,n3,hcl,hca,hA⟩
 simp only[aK]
 rw[lh 32 (by rfl)]
 have VN:∀ {K:AV→Prop},af .mul (N .i64 2) (N .i64 (i:Int)) K=K (N .i64 ((2 * i:Nat) : Int)):=by
  intro K
  rw[fE,aM (by omega) (by omega)]; rfl
 refine aZ (fun hc=>?_) fun hc=>?_
 ·have jC:i<32:=of_decide_eq_true hc
  have h0:2 * i<s.length:=by omega
  have h1:2 * i + 1<s.length:=by omega
  rw[VN,G5 h0,VN,eY 1 (by omega) (by omega) (by rfl),G5 h1]
  refine hd fun n hn hn0=>?_
  refine hd fun n' hn' hn0'=>?_
  rw[lg,hn]
  refine Y8 (p:=!oQ s[2 * i + 1]) (fun _ k hk=>by rw[lg,hn']; exact hk) ?_
  refine aZ (fun hb=>?_) fun hb=>?_
  ·rw[iR]
   refine⟨_,rfl, ?_⟩
   refine fin M3 (BY.row (List.replicate 32 0)) 14 k3 zl (BY.bX _) ?_
   have:s.all oQ=false:=by
    cases h:oQ s[2 * i] with
    | false=>exact PX h0 h
    | true =>
      rw[h] at hb
      exact PX h1 (by simpa using hb)
   unfold fI; rw[this,Bool.and_false]; rfl
  ·have h2:oQ s[2 * i]=true∧oQ s[2 * i + 1]=true:=by
    cases ha:oQ s[2 * i] <;> cases hb' : oQ s[2 * i + 1] <;> simp[ha,hb'] at hb ⊢
   rw[jB]
   refine⟨by decide, ?_⟩
   rw[cK,bH rfl jC,fP _ n3 (by omega) rfl rfl rfl,eY 1 (by omega) (by omega) (by rfl)]
   refine hnext _ _ _ (by omega) ⟨i + 1,_,rfl,rfl,by omega,k3.put _ (.inr (by simp)),aF _,by rw[List.length_set]; exact hcl, ?_, ?_⟩
   ·rw[List.all_eq_true] at hca ⊢
    intro x hx
    rcases List.mem_or_eq_of_mem_set hx with hx | rfl
    ·exact hca x hx
    ·rfl
   ·rw[show 2 * (i + 1)=2 * i + 1 + 1 by omega]
    exact MJ h1 (MJ h0 hA h2.1) h2.2
 ·have jC:i=32:=by have:=of_decide_eq_false hc; omega
  subst jC
  rw[List.take_of_length_le (by omega)] at hA
  rw[dM n3 hcl]
  refine fin M3 cs 0 k3 hcl hca ?_
  unfold fI
  rw[hA,h64]; rfl
end Go.Ab.Sha
namespace Go.Ab.aP
open Go Go.Ab
theorem Qm {T size bytes:Nat} {zs:List AV} {M0:RM} {a0:AV} {cs:List AV} {n:Nat} (h:aO M0 size a0 cs n) (h1:cs.all oneCell=true) (hs:1≤size) (hn:n * bytes≤140737488355328) (hn2:n≤140737488355328) {Q:ah}
  (hQ:∀ v M',Own M' M0.next T size v cs n→aa [] M0 M'→Q v M') :
  eu false 2 a0 bK fun t4=>aC t4 (Q bK M0) (bW T 0 zs [] fun r f=>aW r f M0 fun t5 M=>appW T size bytes zs false t5 a0 M fun t7 M_0=>Q t7 M_0):=by
 rcases h.uD false with⟨rfl,e⟩ | ⟨hne,e⟩
 ·rw[e]
  cases h
  exact⟨fun _=>hQ _ _ .nil (aa.refl _ _),fun h=>by simp at h⟩
 ·rw[e]
  refine⟨fun h=>by simp at h,fun _=>⟨[],rfl, ?_⟩⟩
  have hk:aa [] M0 (M0.push (.row [] false T 0)):=(aa.refl _ _).push _
  refine Cw (base:=M0.next) (Own.lit M0 (Nat.le_refl _)) (by simp[RM.push]) hs ((h.keep hk (by simp)).qy _) h.length h1 (by rw[Nat.zero_add]; exact hn) (by omega) ?_
  intro v' M' ho hk' hnx hv
  exact hQ v' M' (by simpa using ho) (hk.eX hk' (by simp[ak]))
def jw (T size bytes:Nat) (c:au) : Prop:=∀ {M0:RM} {a0:AV} {cs:List AV} {n:Nat},aO M0 size a0 cs n→cs.all oneCell=true→n * bytes≤140737488355328→n≤140737488355328→∀ {Q:ah},
 (∀ v M',Own M' M0.next T size v cs n→aa [] M0 M'→Q v M')→c [a0] M0 Q
def fH (v:Nat) : List UInt8:=if v<128 then[UInt8.ofNat v] else UInt8.ofNat (v % 128 + 128) :: fH (v / 128) termination_by v decreasing_by omega
theorem yA {v:Nat} (h:v<128) : fH v=[UInt8.ofNat v]:=by rw[fH,if_pos h]
theorem Eu {v:Nat} (h:¬ v<128) : fH v=UInt8.ofNat (v % 128 + 128) :: fH (v / 128):=by rw[fH,if_neg h]
theorem Ag:∀ (k v:Nat),1≤k→v<128 ^ k→(fH v).length≤k
 | 0,_,h,_=>by omega
 | k + 1,v,_,h=>by
   by_cases hv:v<128
   ·rw[yA hv]; simp
   ·rw[Eu hv]
    simp only[List.length_cons]
    have:1≤k:=by
     rcases k with _ | k
     ·simp at h; omega
     ·omega
    have:=Ag k (v / 128) this (by rw[Nat.pow_succ] at h; omega)
    omega
abbrev sw (l:List UInt8) : List AV:=l.map fun b=>N .u8 b.toNat
def NG (T:Nat) (c:au) : Prop:=∀ {M0:RM} {a0:AV} {cs:List AV} {n v:Nat},aO M0 1 a0 cs n→cs.all oneCell=true→n + 10≤140737488355328→v<2 ^ 64→∀ {Q:ah},
 (∀ r M',Own M' M0.next T 1 r (cs++sw (fH v)) (n + (fH v).length)→aa [] M0 M'→Q r M')→c [a0,N .u64 v] M0 Q
theorem K8 {T base:Nat} {M:RM} {b:AV} {cs:List AV} {n:Nat} {x:AV} {K:ah} (ho:Own M base T 1 b cs n) (hb:base≤M.next) (hx:oneCell x=true) (hc:x.cells=[x]) (hn:n + 1≤140737488355328)
  (hK:∀ v' M',Own M' base T 1 v' (cs++[x]) (n + 1)→aa (ak b) M M'→K v' M') : bW T 1 [N .u8 0] [(0,1,x)] fun r f=>aW r f M fun t M1=>appW T 1 1 [N .u8 0] false b t M1 K:=by
 refine⟨[x],by simp[jM,fB,hc,hx], ?_⟩
 dsimp only
 rw[aV]
 have hk:aa [] M (M.push (.row [x] false T 0)):=(aa.refl _ _).push _
 have hs:aO (M.push (.row [x] false T 0)) 1 (.slc M.next 0 1 (.ex 1)) [x] 1:=.slc _ _ _ _ _ (by simp[RM.push]) (RM.iW (RM.bN _) (by simp))
 refine Cw (ho.keep hk (by simp)) (Nat.le_trans hb hk.next) (Nat.le_refl _) (hs.qy _) (by simp) (by simpa using hx) (by omega) (by omega) ?_
 intro v' M' h1 h2 h3 h4
 exact hK v' M' h1 ((hk.mono (by simp)).trans h2)
theorem UF (m:Nat) : N .u8 (wT .u8 (IntKind.u8.wrap (m:Int)) 128)=N .u8 ((UInt8.ofNat (m % 128 + 128)).toNat:Int):=by
 have e1:(128:Int)=((128:Nat) : Int):=rfl
 rw[e1,wrap_u8,MQ rfl,KA,Vk (by omega)]
 simp only[rf]
 congr 2
 omega
theorem UB {m:Nat} (h:m<128) : N .u8 (IntKind.u8.wrap (m:Int))=N .u8 ((UInt8.ofNat m).toNat:Int):=by
 rw[wrap_u8,KA]
theorem YM (m:Nat) : N .u64 (iL .u64 (m:Int) 7)=N .u64 ((m / 128:Nat) : Int):=by
 rw[show(7:Int)=((7:Nat) : Int) from rfl,KE _ _ _ (by decide)]
theorem Qd {T:Nat} {c:au} (hc:jw T 1 1 c) : NG T fun args M Q=>∃ a0 a1,args=[a0,a1]∧JM c T a0 a1 M Q:=by
 intro M0 a0 cs n v h h1 hn hv Q hQ
 refine⟨a0,_,rfl, ?_⟩
 unfold JM
 refine hc h h1 (by omega) (by omega) fun b0 M ho hk=>?_
 refine PE (fun m xs M=>∃ b w done,m=w∧xs=[b,N .u64 (w:Nat)]∧Own M M0.next T 1 b (cs++sw done) (n + done.length)∧aa [] M0 M∧done++fH w=fH v∧w<2 ^ 64) v ⟨b0,v,[],rfl,rfl,by simpa using ho,hk,rfl,hv⟩ ?_
 rintro m ys M1 ⟨b,w,done,rfl,rfl,ho,hk,hd,hw⟩
 have hlen:=Ag 10 v (by omega) (by omega)
 rw[← hd,List.length_append] at hlen
 dsimp only
 simp only[go_sem,aj]
 refine⟨fun hge=>?_,fun hlt=>?_⟩
 ·have hge:¬ m<128:=by simp at hge; omega
  rw[Eu hge,List.length_cons] at hlen
  refine K8 ho hk.next rfl rfl (by omega) fun b' M' ho' hk'=>?_
  refine⟨by omega,m / 128,by omega,b',m / 128,done++[UInt8.ofNat (m % 128 + 128)],rfl, ?_, ?_,hk.eX hk' (fun c hc=>.inl (ho.blk c hc).1), ?_,by omega⟩
  ·rw[YM]
  ·rw[UF] at ho'
   simpa [Nat.add_assoc] using ho'
  ·rw[← hd,Eu hge]; simp
 ·have hlt:m<128:=by simp at hlt; omega
  refine K8 ho hk.next rfl rfl (by rw[yA hlt] at hlen; simp at hlen; omega) fun b' M' ho' hk'=>?_
  refine hQ b' M' ?_ (hk.eX hk' (fun c hc=>.inl (ho.blk c hc).1))
  rw[← hd,yA hlt]
  rw[UB hlt] at ho'
  simpa [Nat.add_assoc] using ho'
def Asc (xs:List Nat) : Prop:=xs.Pairwise (· < ·)
def below (n:Nat) (xs:List Nat) : Nat:=(xs.takeWhile (fun x=>decide (x<n))).length
theorem Asc.lt {xs:List Nat} (h:Asc xs) {i j:Nat} (hij:i<j) (hj:j<xs.length) : xs[i]'(by omega)<xs[j]:=List.pairwise_iff_getElem.1 h i j (by omega) hj hij
theorem Lc {n:Nat} : ∀ {xs:List Nat} {k:Nat} (hk:k<xs.length),k<below n xs→xs[k]<n
 | x :: xs,k,hk,h=>by
   unfold below at h
   rw[List.takeWhile_cons] at h
   split at h
   ·rename_i hx
    cases k with
    | zero=>simpa using hx
    | succ k=>exact Lc (xs:=xs) (k:=k) (by simpa using hk) (by unfold below; simpa using h)
   ·simp at h
theorem Ky {n:Nat} : ∀ {xs:List Nat} (h:below n xs<xs.length),n≤xs[below n xs]
 | x :: xs,h=>by
   unfold below at *
   rw[List.takeWhile_cons] at h
   simp only[List.takeWhile_cons]
   by_cases hx:x<n
   ·simp only[hx,decide_true,if_true,List.length_cons] at h ⊢
    exact Ky (xs:=xs) (by unfold below; omega)
   ·simp only[hx,decide_false,Bool.false_eq_true,if_false,List.length_nil,List.getElem_cons_zero]
    omega
theorem half (i j:Nat) (h:i + j<9223372036854775808) : N .i64 (IntKind.i64.wrap (iL .u64 (IntKind.u64.wrap (IntKind.i64.wrap ((i:Int) + (j:Int)))) 1))=N .i64 (((i + j) / 2:Nat) : Int):=by
 rw[show IntKind.i64.wrap ((i:Int) + (j:Int))=((i + j:Nat) : Int) by rw[aM (by omega) (by omega)]; rfl]
 rw[show IntKind.u64.wrap (((i + j:Nat) : Int))=((i + j:Nat) : Int) by unfold IntKind.wrap; simp[IntKind.bits,IntKind.signed]; omega]
 rw[show(1:Int)=((1:Nat) : Int) from rfl,KE _ _ _ (by decide)]
 rw[show((i + j:Nat) / 2 ^ 1)=(i + j) / 2 by simp]
 rw[aM (by omega) (by omega)]
theorem KW {size b o n at' : Nat} (h:at'<n) : dJ size (.slc b o n (.op size)) (some (N .i64 (at' : Int))) none none=some (.slc b (o + at' * size) (n - at') (.op size)):=by
 simp only[dJ,bnd]
 simp[Nat.le_of_lt h]
 omega
def oo:AV→Prop
 | .slc _ _ n (.ex c)=>n≤c
 | .slc _ _ _ (.op e)=>e=1
 | _=>True
def Dv (k x:Nat) (xs:List Nat) : List Nat:=xs.take k++x :: xs.drop k
theorem Own.oo {M:RM} {n el n0:Nat} {v:AV} {cs:List AV} (h:Own M n0 el 1 v cs n) : oo v:=by
 cases h with
 | nil=>trivial
 | ex0=>exact Nat.le_refl _
 | op=>rfl
def nu:Nat→List Nat→Nat × Nat
 | u,[]=>(u,0)
 | u,x :: xs=>if x≤u + 1 then((nu (max u x) xs).1,(nu (max u x) xs).2 + 1) else(u,0)
def settle (u:Nat) (xs:List Nat) : Nat × List Nat:=((nu u xs).1,xs.drop (nu u xs).2)
abbrev Pt:=Nat × List Nat
def Oa (p:Pt) (n:Nat) : Bool × Pt :=
 if n∈p.2∨n≤p.1 then(true,p)
 else if (settle p.1 (Dv (below n p.2) n p.2)).2.length≤4096 then(true,settle p.1 (Dv (below n p.2) n p.2)) else(false,p)
theorem Kz {k x:Nat} {xs:List Nat} {y:Nat} (h:y∈Dv k x xs) : y=x∨y∈xs:=by
 unfold Dv at h
 rcases List.mem_append.1 h with h | h
 ·exact .inr (List.mem_of_mem_take h)
 ·rcases List.mem_cons.1 h with h | h
  ·exact .inl h
  ·exact .inr (List.mem_of_mem_drop h)
abbrev aP:=Int × Nat
abbrev KP (d:aP) : List AV:=[N .i64 d.1,N .u64 (d.2:Int)]
def uR:Enc aP:=⟨2,KP,fun _=>rfl,fun _=>rfl⟩
def good (d:aP) : Bool:=decide (0≤d.1) && decide (d.1<16) && decide (1≤d.2) && decide (d.2≤1099511627776)
def Bf (p:Pt) : Prop:=Asc p.2∧(∀ x∈p.2,p.1 + 1<x)∧p.1≤1099511627776∧(∀ x∈p.2,x≤1099511627776)∧p.2.length≤4096
theorem RG {n:Nat} {xs:List Nat} (h:Asc xs) (hn:n ∉ xs) : Asc (Dv (below n xs) n xs):=by
 unfold Dv Asc
 rw[List.pairwise_append]
 have ht:=List.Pairwise.sublist (List.take_sublist (below n xs) xs) h
 have hd:=List.Pairwise.sublist (List.drop_sublist (below n xs) xs) h
 have lt1:∀ a∈xs.take (below n xs),a<n:=fun a ha=>by
  obtain⟨i,hi,rfl⟩:=List.getElem_of_mem ha
  rw[List.getElem_take]
  exact Lc (by simp at hi; omega) (by simp at hi; omega)
 have gt1:∀ a∈xs.drop (below n xs),n<a:=fun a ha=>by
  obtain⟨i,hi,rfl⟩:=List.getElem_of_mem ha
  rw[List.getElem_drop]
  simp only[List.length_drop] at hi
  have h0:below n xs<xs.length:=by omega
  have h1:=Ky (n:=n) h0
  have h2:xs[below n xs]≠n:=fun e=>hn (by rw[← e]; exact List.getElem_mem h0)
  rcases Nat.eq_zero_or_pos i with rfl | hi0
  ·simp only[Nat.add_zero]; omega
  ·have:=h.lt (i:=below n xs) (j:=below n xs + i) (by omega) (by omega); omega
 refine⟨ht,List.pairwise_cons.2 ⟨gt1,hd⟩,fun a ha b hb=>?_⟩
 rcases List.mem_cons.1 hb with rfl | hb
 ·exact lt1 a ha
 ·have:=lt1 a ha; have:=gt1 b hb; omega
theorem Aj:∀ (xs:List Nat) (u N:Nat),Asc xs→u≤N→(∀ x∈xs,x≤N)→Asc (settle u xs).2∧(∀ x∈(settle u xs).2,(settle u xs).1 + 1<x)∧(settle u xs).1≤N∧u≤(settle u xs).1
 | [],u,N,_,hu,_=>⟨by simp[settle,nu,Asc],by simp[settle,nu],hu,Nat.le_refl _⟩
 | x :: xs,u,N,ha,hu,hx=>by
   have ha2:=(List.pairwise_cons.1 ha).2
   by_cases h:x≤u + 1
   ·have e:settle u (x :: xs)=settle (max u x) xs:=by
     unfold settle
     rw[nu,if_pos h]; rfl
    rw[e]
    have:=Aj xs (max u x) N ha2 (by have:=hx x (by simp); omega) (fun y hy=>hx y (by simp[hy]))
    exact⟨this.1,this.2.1,this.2.2.1,by have:=this.2.2.2; omega⟩
   ·have e:settle u (x :: xs)=(u,x :: xs):=by
     unfold settle
     rw[nu,if_neg h]; rfl
    rw[e]
    refine⟨ha,fun y hy=>?_,hu,Nat.le_refl _⟩
    simp only at hy ⊢
    rcases List.mem_cons.1 hy with rfl | hy
    ·omega
    ·have:=(List.pairwise_cons.1 ha).1 y hy; omega
theorem NC {u:Nat} {xs:List Nat} {y:Nat} (h:y∈(settle u xs).2) : y∈xs:=List.mem_of_mem_drop h
theorem Ue {p:Pt} {n:Nat} (hp:Bf p) (hn:n≤1099511627776) : Bf (Oa p n).2:=by
 unfold Oa
 split
 ·exact hp
 ·rename_i h
  split
  ·rename_i h2
   have hm:n ∉ p.2:=fun hm=>h (.inl hm)
   have:=Aj (Dv (below n p.2) n p.2) p.1 1099511627776 (RG hp.1 hm) hp.2.2.1 (fun x hx=>by rcases Kz hx with rfl | hx; exact hn; exact hp.2.2.2.1 x hx)
   exact⟨this.1,this.2.1,this.2.2.1,fun x hx=>by rcases Kz (NC hx) with rfl | hx; exact hn; exact hp.2.2.2.1 x hx,h2⟩
  ·exact hp
structure mO (T:Nat) (S:Nat→Prop) (M:RM) (b:Nat) (ps:List Pt) : Prop where
 lt:b<M.next
 len:ps.length=16
 row:∃ l,M.heap b=some (.row l false T 0)∧l.length=32∧∀ (i:Nat) (hi:i<ps.length),∃ v,l[2 * i]?=some (N .u64 (ps[i].1:Int))∧l[2 * i + 1]?=some v∧Sl dR M v ps[i].2∧oo v∧∀ d∈ak v,S d
 nb:¬ S b
theorem mO.mono {T:Nat} {S S' : Nat→Prop} {M:RM} {b:Nat} {ps:List Pt} (h:mO T S M b ps) (hs:∀ d,S d→S' d) (hb:¬ S' b) : mO T S' M b ps:=by
 obtain⟨l,h1,h2,h3⟩:=h.row
 exact⟨h.lt,h.len,⟨l,h1,h2,fun i hi=>let ⟨v,a1,a2,a3,a4,a5⟩:=h3 i hi; ⟨v,a1,a2,a3,a4,fun d hd=>hs d (a5 d hd)⟩⟩,hb⟩
theorem mO.keep {T:Nat} {S:Nat→Prop} {M M' : RM} {b:Nat} {ps:List Pt} {bs:List Nat} (h:mO T S M b ps) (hk:aa bs M M') (hb:b ∉ bs) (hs:∀ d∈bs,¬ S d) : mO T S M' b ps:=by
 obtain⟨l,h1,h2,h3⟩:=h.row
 exact⟨Nat.lt_of_lt_of_le h.lt hk.next,h.len,⟨l,hk.ay h1 h.lt hb,h2,fun i hi=>let ⟨v,a1,a2,a3,a4,a5⟩:=h3 i hi; ⟨v,a1,a2,aO.keep a3 hk (fun d hd hm=>hs d hm (a5 d hd)),a4,a5⟩⟩,h.nb⟩
def yY (ps:List Pt) (d:aP) : Int × List Pt :=
 if good d then(if (Oa (ps.getD d.1.toNat (0,[])) d.2).1 then(0,ps.set d.1.toNat (Oa (ps.getD d.1.toNat (0,[])) d.2).2) else(2,ps)) else(1,ps)
def Xi (T:Nat) (c:au) : Prop:=∀ {M:RM} {b:Nat} {ps:List Pt} {d:aP} {S:Nat→Prop} {Q:ah},mO T S M b ps→(∀ p∈ps,Bf p) →
 (∀ M',mO T (fun e=>S e∨M.next≤e) M' b (yY ps d).2→aa [b] M M'→Q (N .i64 (yY ps d).1) M')→c [.ptr b 0,.agg (KP d)] M Q
def rP:List Pt:=List.replicate 16 (0,[])
def xC (T:Nat) (c:au) : Prop:=∀ {M:RM} {Q:ah},(∀ M',mO T (fun _=>False) M' M.next rP→aa [] M M'→M'.next=M.next + 1→Q (.ptr M.next 0) M')→c [] M Q
theorem DV {T:Nat} : xC T fun args M Q=>args=[]∧TE T M Q:=by
 intro M Q hQ
 refine⟨rfl, ?_⟩
 unfold TE
 rw[iR]
 refine⟨_,rfl, ?_⟩
 rw[kK rfl (by simp),aV]
 refine hQ _ ⟨by simp[RM.push],rfl,⟨_,RM.bN _,rfl,fun i hi=>?_⟩,id⟩ ((aa.refl _ _).push _) rfl
 have hi:i<16:=hi
 refine⟨bK, ?_, ?_, ?_,trivial,by simp[ak]⟩
 ·obtain rfl | rfl | rfl | rfl | rfl | rfl | rfl | rfl | rfl | rfl | rfl | rfl | rfl | rfl | rfl | rfl:i=0∨i=1∨i=2∨i=3∨i=4∨i=5∨i=6∨i=7∨i=8∨i=9∨i=10∨i=11∨i=12∨i=13∨i=14∨i=15:=by omega
  all_goals rfl
 ·obtain rfl | rfl | rfl | rfl | rfl | rfl | rfl | rfl | rfl | rfl | rfl | rfl | rfl | rfl | rfl | rfl:i=0∨i=1∨i=2∨i=3∨i=4∨i=5∨i=6∨i=7∨i=8∨i=9∨i=10∨i=11∨i=12∨i=13∨i=14∨i=15:=by omega
  all_goals rfl
 ·simp only[rP,List.getElem_replicate]; exact .nil
section
variable {α:Type} {E:Enc α}
theorem Sz {M:RM} {v:AV} {xs:List α} {k:Nat} (hE:E.size=1) (h:Sl E M v xs) (hc:oo v) (hk:k≤xs.length) :
  ∃ v',dJ 1 v (some (N .i64 (k:Int))) none none=some v'∧Sl E M v' (xs.drop k)∧oo v'∧∀ b∈ak v',b∈ak v:=by
 generalize hcs:E.row xs=cs at *
 have h' : aO M 1 v cs xs.length:=by rw[← hcs,← hE]; exact h
 have hl:cs.length=xs.length:=by rw[← hcs,Enc.gP,hE,Nat.mul_one]
 have hd:E.row (xs.drop k)=cs.drop k:=by rw[← hcs,← E.sD,hE,Nat.mul_one]
 have goal:∀ v',Sl E M v' (xs.drop k)↔aO M 1 v' (cs.drop k) (xs.length - k):=fun v'=>by simp only[Sl]; rw[hd,List.length_drop,hE]
 generalize hn:xs.length=n at *
 cases h' with
 | nil =>
   have:k=0:=by omega
   subst this
   exact⟨bK,by simp[dJ,bnd],(goal _).2 (by simp; exact .nil),trivial,by simp⟩
 | emp b =>
   have:k=0:=by omega
   subst this
   exact⟨.emp b,by simp[dJ,bnd],(goal _).2 (by simp; exact .emp b),trivial,by simp⟩
 | slc b o n cap cs hb hload =>
   rw[Nat.mul_one] at hload
   have uC:M.loads b (o + k) (n - k)=some (cs.drop k):=by
    have:=nk hload k (n - k) (by omega)
    rw[List.take_of_length_le (by simp; omega)] at this
    exact this
   cases cap with
   | ex c =>
     have hcn:n≤c:=hc
     by_cases hck:c=k
     ·have hkn:k=n:=by omega
      refine⟨.slc b o 0 (.ex 0),by simp only[dJ,bnd]; simp[hk,hcn,hck]; omega, ?_,Nat.le_refl _,by simp[ak]⟩
      rw[goal,hkn,Nat.sub_self,List.drop_of_length_le (by omega)]
      refine .slc b o 0 _ _ hb ?_
      have:=nk hload 0 0 (by omega)
      simpa using this
     ·refine⟨.slc b (o + k * 1) (n - k) (.ex (c - k)),by simp only[dJ,bnd]; simp[hk,hcn,hck], ?_,by simp only[oo]; omega,by simp[ak]⟩
      rw[goal]
      refine .slc _ _ _ _ _ hb ?_
      show M.loads b (o + k * 1) ((n - k) * 1)=_
      rw[Nat.mul_one,Nat.mul_one]; exact uC
   | op e =>
     have he:e=1:=hc
     subst he
     by_cases hkn:n≤k
     ·refine⟨.emp b,by simp only[dJ,bnd]; simp[hk,hkn], ?_,trivial,by simp[ak]⟩
      rw[goal,show n - k=0 by omega,List.drop_of_length_le (by omega)]
      exact .emp b
     ·refine⟨.slc b (o + k * 1) (n - k) (.op 1),by simp only[dJ,bnd]; simp[hk,hkn], ?_,rfl,by simp[ak]⟩
      rw[goal]
      refine .slc _ _ _ _ _ hb ?_
      show M.loads b (o + k * 1) ((n - k) * 1)=_
      rw[Nat.mul_one,Nat.mul_one]; exact uC
theorem V4 {M:RM} {v:AV} {xs:List α} {k:Nat} (hE:E.size=1) (h:Sl E M v xs) (hc:oo v) (hk:k≤xs.length) :
  ∃ v',dJ 1 v none (some (N .i64 (k:Int))) none=some v'∧Sl E M v' (xs.take k):=by
 generalize hcs:E.row xs=cs at *
 have h' : aO M 1 v cs xs.length:=by rw[← hcs,← hE]; exact h
 have hl:cs.length=xs.length:=by rw[← hcs,Enc.gP,hE,Nat.mul_one]
 have hd:E.row (xs.take k)=cs.take k:=by rw[← hcs,← E.sN,hE,Nat.mul_one]
 have goal:∀ v',Sl E M v' (xs.take k)↔aO M 1 v' (cs.take k) k:=fun v'=>by simp only[Sl]; rw[hd,List.length_take,hE,Nat.min_eq_left hk]
 generalize hn:xs.length=n at *
 cases h' with
 | nil =>
   have:k=0:=by omega
   subst this
   exact⟨bK,by simp[dJ,bnd],(goal _).2 (by simp; exact .nil)⟩
 | emp b =>
   have:k=0:=by omega
   subst this
   exact⟨.emp b,by simp[dJ,bnd],(goal _).2 (by simp; exact .emp b)⟩
 | slc b o n cap cs hb hload =>
   rw[Nat.mul_one] at hload
   have uC:M.loads b o k=some (cs.take k):=by
    have:=nk hload 0 k (by omega)
    simpa using this
   cases cap with
   | ex c =>
     have hcn:n≤c:=hc
     by_cases hc0:c=0
     ·have hk0:k=0:=by omega
      subst hk0
      refine⟨.slc b o 0 (.ex 0),by simp only[dJ,bnd]; simp[hc0], ?_⟩
      rw[goal]
      refine .slc b o 0 _ _ hb ?_
      simpa using uC
     ·refine⟨.slc b o k (.ex c),by simp only[dJ,bnd]; simp[hc0]; omega, ?_⟩
      rw[goal]
      refine .slc _ _ _ _ _ hb ?_
      rw[Nat.mul_one]; exact uC
   | op e =>
     have he:e=1:=hc
     subst he
     by_cases hn0:n=0
     ·have hk0:k=0:=by omega
      subst hk0
      refine⟨.emp b,by simp only[dJ,bnd]; simp[hn0], ?_⟩
      rw[goal]; simp; exact .emp b
     ·refine⟨.slc b o k (.op 1),by simp only[dJ,bnd]; simp[hk,hn0], ?_⟩
      rw[goal]
      refine .slc _ _ _ _ _ hb ?_
      rw[Nat.mul_one]; exact uC
end
def wW:Nat→Nat→List UInt8→Option (Nat × Nat)
 | _,_,[]=>none
 | i,v,x :: xs =>
   if x.toNat ≥ 128 then wW (i + 1) ((v ||| (x.toNat % 128 * 2 ^ (7 * i) % 2 ^ 64)) % 2 ^ 64) xs
   else if x.toNat=0∧i > 0∨i=9∧x.toNat > 1 then none else some ((v ||| (x.toNat % 128 * 2 ^ (7 * i) % 2 ^ 64)) % 2 ^ 64,i + 1)
def DW (bs:List UInt8) : Option (Nat × Nat):=wW 0 0 (bs.take 10)
theorem Mf:∀ (bs:List UInt8) (i v:Nat) {w n:Nat},wW i v bs=some (w,n)→w<2 ^ 64∧i<n∧n≤i + bs.length
 | [],_,_,_,_,h=>by simp[wW] at h
 | x :: xs,i,v,w,n,h=>by
   rw[wW] at h
   split at h
   ·have:=Mf xs _ _ h
    simp only[List.length_cons]; omega
   ·split at h
    ·cases h
    ·simp only[Option.some.injEq,Prod.mk.injEq] at h
     obtain⟨rfl,rfl⟩:=h
     refine⟨Nat.mod_lt _ (by decide),by omega,by simp⟩
theorem Mo {bs:List UInt8} {w n:Nat} (h:DW bs=some (w,n)) : w<2 ^ 64∧0<n∧n≤bs.length∧n≤10:=by
 have:=Mf _ _ _ h
 rw[List.length_take] at this
 omega
structure zH (T:Nat) (S:Nat→Prop) (M:RM) (r:Nat) (bs:List UInt8) (f:Bool) : Prop where
 lt:r<M.next
 row:∃ v,M.heap r=some (.row [v,Bo f] false T 0)∧Sl BY M v bs∧oo v∧∀ d∈ak v,S d
 nb:¬ S r
theorem zH.keep {T:Nat} {S:Nat→Prop} {M M' : RM} {r:Nat} {bs:List UInt8} {f:Bool} {ks:List Nat} (h:zH T S M r bs f) (hk:aa ks M M') (hr:r ∉ ks) (hs:∀ d∈ks,¬ S d) : zH T S M' r bs f:=by
 obtain⟨v,h1,h2,h3,h4⟩:=h.row
 exact⟨Nat.lt_of_lt_of_le h.lt hk.next,⟨v,hk.ay h1 h.lt hr,aO.keep h2 hk (fun d hd hm=>hs d hm (h4 d hd)),h3,h4⟩,h.nb⟩
def QO (bs:List UInt8) : List AV:=match DW bs with
 | some (v,n)=>[N .u64 (v:Int),N .i64 (n:Int),Bo true]
 | none=>[N .u64 0,N .i64 0,Bo false]
def Ri (T:Nat) (c:au) : Prop:=∀ {M:RM} {r:Nat} {S:Nat→Prop} {bs:List UInt8} {f:Bool} {Q:ah},zH T S M r bs f→Q (.tup (QO bs)) M→c [.ptr r 0] M Q
theorem UZ (x:UInt8) : N .u8 (oD .u8 (x.toNat:Int) 127)=N .u8 ((x.toNat % 128:Nat) : Int):=by
 rw[show(127:Int)=((127:Nat) : Int) from rfl,Sk rfl]
 have:x.toNat &&& 127=x.toNat % 128:=Nat.and_two_pow_sub_one_eq_mod x.toNat 7
 rw[this]
 simp only[rf]
 congr 2
 have:=Fe x
 omega
theorem MK (a b:Nat) : (if ((b:Nat) : Int)<(a:Int) then(b:Int) else(a:Int))=((min a b:Nat) : Int):=by
 split <;> omega
theorem Sr {T:Nat} : Ri T fun args M Q=>∃ a0,args=[a0]∧nN a0 M Q:=by
 intro M r S bs f Q h hQ
 refine⟨_,rfl, ?_⟩
 obtain⟨v,hr,hs,hc,hS⟩:=h.row
 unfold nN
 rw[RN,bC,vS,aG hr rfl,bC,vS,aG hr rfl,aO.len hs,U3,if_neg (by decide),show(10:Int)=((10:Nat) : Int) from rfl,MK]
 obtain⟨c,e1,e2⟩:=V4 (k:=min bs.length 10) rfl hs hc (Nat.min_le_left _ _)
 rw[e1,nE,aO.len e2]
 have hlen:(bs.take (min bs.length 10)).length=min bs.length 10:=by rw[List.length_take]; omega
 have htk:bs.take (min bs.length 10)=bs.take 10:=by
  rcases Nat.le_total bs.length 10 with hh | hh
  ·rw[Nat.min_eq_left hh,List.take_length,List.take_of_length_le hh]
  ·rw[Nat.min_eq_right hh]
 rw[htk] at e2 hlen ⊢
 have hll:(bs.take 10).length≤10:=by omega
 unfold QO DW at hQ
 generalize bs.take 10=ls at *
 refine aT (fun m ys M3=>∃ (i u:Nat),m=ls.length - i∧ys=[N .u64 (u:Int),N .i64 (i:Int)]∧i≤ls.length∧M3=M∧wW 0 0 ls=wW i u (ls.drop i)) _
  ⟨0,0,rfl,rfl,Nat.zero_le _,rfl,rfl⟩ ?_
 rintro next m ys M3 hnext ⟨i,u,rfl,rfl,hi,rfl,hset⟩
 dsimp only[aj]
 rw[kV]
 refine aZ (fun hlt=>?_) (fun hge=>?_)
 ·have hlt:i<ls.length:=by simpa using hlt
  obtain⟨b1,o1,_,_,hidx,hcell⟩:=Sl.PG (E:=BY) e2 (i:Int) hlt
  rw[List.drop_eq_getElem_cons hlt,wW] at hset
  rw[hidx,iX]
  refine⟨_,hcell _ rfl, ?_⟩
  generalize hx:ls[i]=x at *
  have hx256:=Fe x
  rw[di,UZ,dz,wrap_u64,Nat.mod_eq_of_lt (by omega:x.toNat % 128<18446744073709551616),fE,show(7:Int) * (i:Int)=((7 * i:Nat) : Int) by omega,aM (by omega) (by omega),jB]
  refine⟨by omega, ?_⟩
  rw[QL rfl _ _ (by show 7 * i≤64; omega),cK,MQ rfl,jQ]
  simp only[rf]
  generalize hw:(u ||| (x.toNat % 128 * 2 ^ (7 * i) % 2 ^ 64)) % 2 ^ 64=w at *
  refine aZ (fun hbig=>?_) (fun hsm=>?_)
  ·have hbig:x.toNat ≥ 128:=by
    have:(x.toNat:Int) ≥ 128:=of_decide_eq_true hbig
    omega
   rw[if_pos hbig] at hset
   rw[bq,oP (by omega)]
   exact hnext _ _ _ (by omega) ⟨i + 1,w,rfl,rfl,by omega,rfl,hset⟩
  ·have hsm:¬ x.toNat ≥ 128:=by
    have:¬ (x.toNat:Int) ≥ 128:=of_decide_eq_false hsm
    omega
   rw[if_neg hsm] at hset
   have bad:(x.toNat=0∧i > 0∨i=9∧x.toNat > 1)→Q (.tup [N .u64 0,N .i64 0,Bo false]) M3:=fun h=>by
    rw[if_pos h] at hset
    rw[hset] at hQ
    exact hQ
   have okk:¬ (x.toNat=0∧i > 0∨i=9∧x.toNat > 1)→Q (.tup [N .u64 (w:Int),N .i64 ((i + 1:Nat) : Int),Bo true]) M3:=fun h=>by
    rw[if_neg h] at hset
    rw[hset] at hQ
    exact hQ
   have VL:¬ (x.toNat=0∧i > 0∨i=9∧x.toNat > 1)→af .add (N .i64 (i:Int)) (N .i64 1) fun t50=>Q (.tup [N .u64 (w:Int),t50,Bo true]) M3:=fun h=>by
    rw[bq,oP (by omega)]
    exact okk h
   rw[bM]
   -- the second half of the question
   have second:¬ (x.toNat=0∧i > 0)→af .eql (N .i64 (i:Int)) (N .i64 9) fun t42 =>
     az t42 true (fun Y3=>Y3 (N .u8 (x.toNat:Int)) M3) (fun k=>k .undef M3) fun t44 We =>
     az t42 true (fun Zm=>af .gtr t44 (N .u8 1) fun t45=>Zm t45 We) (fun k=>k .undef We) fun Vm VX =>
     az (Bo false) false (fun YJ=>bn t42 Vm (Bo false) fun t46=>YJ t46 VX) (fun k=>k .undef VX) fun Wi G9 =>
     bn (Bo false) (Bo true) Wi fun t47=>aC t47 (Q (.tup [N .u64 0,N .i64 0,Bo false]) G9) (af .add (N .i64 (i:Int)) (N .i64 1) fun t50=>Q (.tup [N .u64 (w:Int),t50,Bo true]) G9):=fun hn=>by
    rw[bM]
    by_cases h9:i=9
    ·rw[show((i:Int) == 9)=true by simp; omega,dY]
     dsimp only
     rw[dY,lg]
     dsimp only
     rw[cZ]
     dsimp only
     rw[dK,gZ]
     refine aZ (fun hg=>bad (.inr ⟨h9, ?_⟩)) (fun hg=>VL ?_)
     ·have:(x.toNat:Int) > 1:=of_decide_eq_true hg
      omega
     ·have:¬ (x.toNat:Int) > 1:=of_decide_eq_false hg
      rintro(h | h)
      ·exact hn h
      ·omega
    ·rw[show((i:Int) == 9)=false by simp; omega,nz]
     dsimp only
     rw[nz]
     dsimp only
     rw[cZ]
     dsimp only
     rw[gZ,gZ,iI]
     refine VL ?_
     rintro(h | h)
     ·exact hn h
     ·omega
   by_cases h0:x.toNat=0
   ·rw[show((x.toNat:Int) == 0)=true by simp[h0],dY]
    dsimp only
    rw[dY,lg]
    dsimp only
    rw[dK]
    by_cases hi0:i > 0
    ·rw[show decide ((i:Int) > 0)=true by simpa using hi0,ik]
     dsimp only
     rw[ik]
     dsimp only
     rw[ik]
     dsimp only
     rw[JU]
     dsimp only
     rw[JU]
     dsimp only
     rw[ik]
     dsimp only
     rw[dK,jv]
     exact bad (.inl ⟨h0,hi0⟩)
    ·rw[show decide ((i:Int) > 0)=false by simp; omega,cZ]
     have:=second (fun h=>hi0 h.2)
     dsimp only
     rw[cZ]
     dsimp only at this ⊢
     rw[bM] at this ⊢
     rw[cZ]
     dsimp only
     exact this
   ·rw[show((x.toNat:Int) == 0)=false by simp; omega,nz]
    dsimp only
    rw[nz]
    dsimp only
    rw[gZ,cZ]
    have:=second (fun h=>h0 h.1)
    dsimp only
    rw[cZ]
    dsimp only at this ⊢
    rw[bM] at this ⊢
    rw[cZ]
    dsimp only
    exact this
 ·have he:i=ls.length:=by simp at hge; omega
  rw[he,List.drop_length,wW] at hset
  rw[hset] at hQ
  exact hQ
def iB (most:Nat) (bs:List UInt8) (f:Bool) : Nat × List UInt8 × Bool :=
 match DW bs with
 | none=>(0,bs,true)
 | some (v,n)=>if f || decide (most<v) then(0,bs,true) else(v,bs.drop n,false)
def Ry (T:Nat) (c:au) : Prop:=∀ {M:RM} {r most:Nat} {S:Nat→Prop} {bs:List UInt8} {f:Bool} {Q:ah},zH T S M r bs f→most<4294967296 →
 (∀ M',zH T S M' r (iB most bs f).2.1 (iB most bs f).2.2→aa [r] M M'→M'.next=M.next→Q (N .i64 (((iB most bs f).1:Nat) : Int)) M')→c [.ptr r 0,N .i64 (most:Int)] M Q
theorem KC {M:RM} {f ok:Bool} {v most:Nat} {K:ah} (hm:most<4294967296) (hQ:K (Bo (f || (!ok || decide (most<v)))) M) :
  az (Bo f) false (fun k'=>mQ (Bo ok) fun t21=>k' t21 M) (fun k=>k .undef M) fun Xq M_3 =>
  bn (Bo f) (Bo true) Xq fun t22 =>
  az t22 false (fun k'=>af .lss (N .i64 (most:Int)) (N .i64 0) fun t25=>k' t25 M_3) (fun k=>k .undef M_3) fun Oh M_8 =>
  bn t22 (Bo true) Oh fun t26 =>
  az t26 false (fun k'=>eD .u64 (N .i64 (most:Int)) fun t30=>af .gtr (N .u64 (v:Int)) t30 fun t31=>k' t31 M_8) (fun k=>k .undef M_8) fun KN G9 =>
  bn t26 (Bo true) KN fun t32=>K t32 G9:=by
 have tail:K (Bo true) M→az (Bo true) false (fun k'=>af .lss (N .i64 (most:Int)) (N .i64 0) fun t25=>k' t25 M) (fun k=>k .undef M) fun Oh M_8 =>
   bn (Bo true) (Bo true) Oh fun t26 =>
   az t26 false (fun k'=>eD .u64 (N .i64 (most:Int)) fun t30=>af .gtr (N .u64 (v:Int)) t30 fun t31=>k' t31 M_8) (fun k=>k .undef M_8) fun KN G9 =>
   bn t26 (Bo true) KN fun t32=>K t32 G9:=fun hK=>by
  rw[ik]
  dsimp only
  rw[dK,ik]
  dsimp only
  rw[dK]
  exact hK
 cases f with
 | true =>
   rw[ik]
   dsimp only
   rw[dK]
   exact tail hQ
 | false =>
   rw[cZ]
   dsimp only
   rw[iy]
   cases ok with
   | false =>
     rw[gZ]
     exact tail hQ
   | true =>
     rw[gZ]
     simp only[Bool.not_true]
     rw[cZ]
     dsimp only
     rw[kV,show decide ((most:Int)<0)=false by simp]
     rw[gZ,cZ]
     dsimp only
     rw[dz,bS (by omega) (by omega),lg,gZ]
     have:decide ((v:Int) > (most:Int))=decide (most<v):=by simp
     rw[this]
     exact hQ
theorem Ho {T:Nat} {M:RM} {r:Nat} {S:Nat→Prop} {bs:List UInt8} {f g:Bool} {n:Nat} {x:AV} {Z:ah} {K:RM→Prop} (h:zH T S M r bs f) (hn:n≤bs.length)
  (h1:g=true→∀ M',zH T S M' r bs true→aa [r] M M'→M'.next=M.next→Z x M')
  (h2:g=false→∀ M',zH T S M' r (bs.drop n) false→aa [r] M M'→M'.next=M.next→K M') :
  dS (.ptr r 0) fun t33=>eF t33 1 fun t34=>aR M t34 (Bo g) 1 fun OO=>dS (.ptr r 0) fun t36=>eF t36 1 fun t37=>ag OO t37 fun t38 =>
   aC t38 (Z x OO) (dS (.ptr r 0) fun t41=>eF t41 0 fun t42=>ag OO t42 fun t43=>jY (dJ 1 t43 (some (N .i64 (n:Int))) none none) fun t45 =>
    dS (.ptr r 0) fun t46=>eF t46 0 fun t47=>aR OO t47 t45 1 fun X9=>K X9):=by
 obtain⟨v,hr,hs,hc,hS⟩:=h.row
 have hrl:=h.lt
 rw[bC,vS,fP [v,Bo g] hr (by simp) rfl rfl rfl,bC,vS,aG (aF _) rfl]
 have kk:aa [r] M (M.put r (.row [v,Bo g] false T 0)):=(aa.refl _ _).put _ (.inr (by simp))
 have hh:(M.put r (.row [v,Bo g] false T 0)).heap r=some (.row [v,Bo g] false T 0):=aF _
 have nn:(M.put r (.row [v,Bo g] false T 0)).next=M.next:=rfl
 generalize M.put r (.row [v,Bo g] false T 0)=M1 at *
 have s1:Sl BY M1 v bs:=aO.keep hs kk (fun d hd hm=>by simp at hm; subst hm; exact h.nb (hS d hd))
 refine aZ (fun hg=>?_) (fun hg=>?_)
 ·subst hg
  exact h1 rfl M1 ⟨by omega,⟨v,hh,s1,hc,hS⟩,h.nb⟩ kk nn
 ·subst hg
  rw[bC,vS,aG hh rfl]
  obtain⟨v',e1,e2,e3,e4⟩:=Sz rfl s1 hc hn
  rw[e1,nE,bC,vS,fP [v',Bo false] hh (by simp) (aO.cells e2) (aO.one e2) rfl]
  have k2:aa [r] M1 (M1.put r (.row [v',Bo false] false T 0)):=(aa.refl _ _).put _ (.inr (by simp))
  exact h2 rfl _ ⟨by rw[zB]; omega,⟨v',aF _,aO.keep e2 k2 (fun d hd hm=>by simp at hm; subst hm; exact h.nb (hS d (e4 d hd))),e3,fun d hd=>hS d (e4 d hd)⟩,h.nb⟩ (kk.trans k2) (by rw[zB]; exact nn)
theorem Q6 {T:Nat} {cn:au} (hn:Ri T cn) : Ry T fun args M Q=>∃ a0 a1,args=[a0,a1]∧rU cn a0 a1 M Q:=by
 intro M r most S bs f Q h hm hQ
 refine⟨_,_,rfl, ?_⟩
 unfold rU
 simp only[rD]
 refine hn h ?_
 obtain⟨v,hr,hs,hc,hS⟩:=h.row
 unfold iB at hQ
 unfold QO
 cases hnb:DW bs with
 | none =>
   simp only[hnb] at hQ
   dsimp only
   rw[dm,dQ,lH,bC,vS,aG hr rfl]
   refine KC (v:=0) (ok:=false) hm ?_
   refine Ho (n:=0) (Z:=Q) h (Nat.zero_le _) (fun _ M' q1 q2 q3=>hQ M' q1 q2 q3) (fun hg=>by simp at hg)
 | some p =>
   obtain⟨w,n⟩:=p
   simp only[hnb] at hQ
   dsimp only
   rw[dm,dQ,lH,bC,vS,aG hr rfl]
   refine KC (v:=w) (ok:=true) hm ?_
   refine Ho (n:=n) (Z:=Q) h (Mo hnb).2.2.1 (fun hg M' q1 q2 q3=>?_) (fun hg M' q1 q2 q3=>?_)
   ·have hg:(f || decide (most<w))=true:=by simpa using hg
    rw[if_pos hg] at hQ
    exact hQ M' q1 q2 q3
   ·have hg:(f || decide (most<w))=false:=by simpa using hg
    rw[if_neg (by simp[hg])] at hQ
    have hw:w≤most:=by simp at hg; omega
    rw[dz,aM (by omega) (by omega)]
    exact hQ M' q1 q2 q3
def EI (T:Nat) (c:au) : Prop:=∀ {M:RM} {v:AV} {bs:List UInt8} {Q:ah},Sl BY M v bs→bs.length≤140737488355328 →
 (∀ r M',zH T (fun d=>M.next≤d∧d<r) M' r bs false→M.next≤r→aa [] M M'→Q (.ptr r 0) M')→c [v] M Q
theorem IA {T TB:Nat} {cc:au} (hcl:jw TB 1 1 cc) : EI T fun args M Q=>∃ a0,args=[a0]∧Jv cc T a0 M Q:=by
 intro M v bs Q h hl hQ
 refine⟨_,rfl, ?_⟩
 unfold Jv
 refine hcl h (Enc.bX _ _) (by omega) (by omega) fun b0 M1 ho hk=>?_
 rw[iR]
 refine⟨[b0,Bo false], ?_, ?_⟩
 ·have:=ho.cells
  have hkn:=ho.lN.known
  simp[kH,hkn,this]
 rw[kK (by simp[ho.one]; rfl) (by simp),aV]
 have k2:aa [] M1 (M1.push (.row [b0,Bo false] false T 0)):=(aa.refl _ _).push _
 refine hQ M1.next _ ⟨by rw[dB]; omega,⟨b0,RM.bN _,aO.keep ho.lN k2 (by simp),Own.oo ho,fun d hd=>ho.blk d hd⟩,fun h=>by omega⟩ hk.next (hk.trans k2)
def Rp (T:Nat) (c:au) : Prop:=∀ {M:RM} {r:Nat} {S:Nat→Prop} {bs:List UInt8} {f:Bool} {Q:ah},zH T S M r bs f→Q (N .i64 (if f then 14 else 0)) M→c [.ptr r 0] M Q
theorem QW {T:Nat} : Rp T fun args M Q=>∃ a0,args=[a0]∧tT a0 M Q:=by
 intro M r S bs f Q h hQ
 refine⟨_,rfl, ?_⟩
 unfold tT
 obtain⟨v,hr,hs,hc,hS⟩:=h.row
 rw[bC,vS,aG hr rfl]
 cases f with
 | true=>rw[jv]; exact hQ
 | false=>rw[iI]; exact hQ
def uE (f:(List AV→RM→Prop)→Prop) (g:List AV→RM→Prop) : Prop:=f g
theorem fF (f:(List AV→RM→Prop)→Prop) (g:List AV→RM→Prop) : fG f g=uE f g:=rfl
theorem fK {H:(List AV→RM→Prop)→Prop} {G:List AV→RM→Prop} (P:List AV→RM→Prop) (hT:∀ xs M,P xs M→G xs M)
  (hH:∀ J:List AV→RM→Prop,(∀ xs M,P xs M→J xs M)→H J) : uE H G:=hH G hT
abbrev Jf:=(Nat × Nat) × List Nat
def Pg (ps:List Pt) : Nat→List Jf
 | 0=>[]
 | i + 1=>Pg ps i++(if 0<(ps.getD i (0,[])).1∨0<(ps.getD i (0,[])).2.length then[((i,(ps.getD i (0,[])).1),(ps.getD i (0,[])).2)] else[])
def parts (ps:List Pt) : List Jf:=Pg ps 16
@[irreducible] def WV (x a:Nat) : Nat:=(x + 18446744073709551616 - a) % 18446744073709551616
def Tg:Nat→List Nat→List UInt8
 | _,[]=>[]
 | a,x :: xs=>fH (WV x a)++Tg x xs
def ZC (p:Jf) : List UInt8:=fH p.1.1++fH p.1.2++fH p.2.length++Tg p.1.2 p.2
def XX (l:List Jf) : List UInt8:=fH l.length++l.flatMap ZC
def encS (ps:List Pt) : List UInt8:=XX (parts ps)
theorem QG {v:Nat} (h:v<2 ^ 64) : (fH v).length≤10:=Ag 10 v (by omega) (by omega)
def Bd (p:Pt) : Prop:=p.1<2 ^ 64∧p.2.length≤1000000∧∀ x∈p.2,x<2 ^ 64
def UA (TS T:Nat) (c:au) : Prop:=∀ {M:RM} {b:Nat} {ps:List Pt} {S:Nat→Prop} {Q:ah},mO TS S M b ps→(∀ p∈ps,Bd p) →
 (∀ v M',Own M' M.next T 1 v (sw (encS ps)) (encS ps).length→(encS ps).length≤200000000→aa [] M M'→Q v M')→c [.ptr b 0] M Q
structure xH (T TU base:Nat) (M:RM) (b:Nat) (ps:List Pt) : Prop where
 lt:b<M.next
 len:ps.length=16
 row:∃ (l:List AV) (vs:Nat→AV),M.heap b=some (.row l false T 0)∧l.length=32∧(∀ (i:Nat) (hi:i<ps.length),l[2 * i]?=some (N .u64 (ps[i].1:Int))∧l[2 * i + 1]?=some (vs i)∧Ow dR M base TU (vs i) ps[i].2) ∧
  ∀ i j,i<16→j<16→i≠j→∀ d∈ak (vs i),d ∉ ak (vs j)
 nb:b<base
theorem xH.setH {T TU base:Nat} {M:RM} {b:Nat} {ps:List Pt} (h:xH T TU base M b ps) : mO T (fun d=>base≤d) M b ps:=by
 obtain⟨l,vs,h1,h2,h3,h4⟩:=h.row
 refine⟨h.lt,h.len,⟨l,h1,h2,fun i hi=>⟨vs i,(h3 i hi).1,(h3 i hi).2.1,(h3 i hi).2.2.lN,Own.oo (h3 i hi).2.2,fun d hd=>((h3 i hi).2.2.blk d hd).1⟩⟩,by have:=h.nb; omega⟩
theorem xH.keep {T TU base:Nat} {M M' : RM} {b:Nat} {ps:List Pt} {bs:List Nat} (h:xH T TU base M b ps) (hk:aa bs M M') (hb:b ∉ bs) (hs:∀ d∈bs,d<base) : xH T TU base M' b ps:=by
 obtain⟨l,vs,h1,h2,h3,h4⟩:=h.row
 refine⟨Nat.lt_of_lt_of_le h.lt hk.next,h.len,⟨l,vs,hk.ay h1 h.lt hb,h2,fun i hi=>⟨(h3 i hi).1,(h3 i hi).2.1,(h3 i hi).2.2.keep hk fun d hd hm=>?_⟩,h4⟩,h.nb⟩
 have:=((h3 i hi).2.2.blk d hd).1
 have:=hs d hm
 omega
theorem xH.more {T TU base:Nat} {M:RM} {b i x:Nat} {ps:List Pt} (h:xH T TU base M b ps) (hi:i<16) (hlen:(ps.getD i (0,[])).2.length≤1000000) (hbase:base≤M.next) {K:RM→Prop}
  (hK:∀ M' ks,xH T TU base M' b (ps.set i ((ps.getD i (0,[])).1,(ps.getD i (0,[])).2++[x]))→aa ks M M'→(∀ d∈ks,d=b∨base≤d)→K M') :
  ag M (.ptr b (2 * i + 1)) fun t55=>bW TU 1 [(N .u64 0)] [(0,1,N .u64 (x:Int))] fun r f=>aW r f M fun t57 Zr=>appW TU 1 8 [(N .u64 0)] false t55 t57 Zr fun t58 Yr =>
   dS (.ptr b (2 * i)) fun t59=>eF t59 1 fun t60=>aR Yr t60 t58 1 K:=by
 obtain⟨l,vs,h1,h2,h3,h4⟩:=h.row
 have hnb:=h.nb
 have hblt:=h.lt
 have hil:i<ps.length:=by rw[h.len]; exact hi
 have hpD:ps.getD i (0,[])=ps[i]:=by rw[List.getD_eq_getElem?_getD,List.getElem?_eq_getElem hil]; rfl
 rw[hpD] at hlen hK
 rw[aG h1 (h3 i hil).2.1,kF (x:=N .u64 (x:Int)) (size:=1) rfl rfl rfl,aV]
 refine iN (E:=dR) (a:=x) (h3 i hil).2.2 hbase (Nat.le_refl _) (by omega) (by omega) ?_
 intro v' M' o1 k1 n1 hv
 have hbv:∀ j,b ∉ ak (vs j)∨¬ j<16:=fun j=>by
  by_cases hj:j<16
  ·refine .inl fun hm=>?_
   have:=((h3 j (by rw[h.len]; exact hj)).2.2.blk b hm).1
   omega
  ·exact .inr hj
 have hh:M'.heap b=some (.row l false T 0):=k1.ay h1 hblt (by rcases hbv i with h | h; exact h; exact absurd hi h)
 rw[bC,iE,Al hh (by omega) o1.cells o1.one]
 have kk:aa [b] M' (M'.put b (.row (l.set (2 * i + 1) v') false T 0)):=(aa.refl _ _).put _ (.inr (by simp))
 have nbv:b ∉ ak v':=fun hm=>by have:=(o1.blk b hm).1; omega
 refine hK _ (b :: ak (vs i)) ⟨Nat.lt_of_lt_of_le hblt n1,by rw[List.length_set]; exact h.len,⟨_,fun j=>if j=i then v' else vs j,aF _,by rw[List.length_set]; exact h2,fun j hj=>?_,fun j1 j2 q1 q2 hne d hd=>?_⟩,h.nb⟩ ?_ ?_
 ·have hj' : j<ps.length:=by rw[List.length_set] at hj; exact hj
  by_cases hji:j=i
  ·subst hji
   refine⟨?_, ?_, ?_⟩
   ·rw[List.getElem?_set_ne (by omega),List.getElem_set_self]; exact(h3 j hj').1
   ·rw[List.getElem?_set_self (by omega)]; simp
   ·rw[List.getElem_set_self]; simp only[if_true]
    exact o1.keep kk fun d hd hm=>by simp at hm; subst hm; exact nbv hd
  ·have U8:j<16:=by rw[← h.len]; exact hj'
   refine⟨?_, ?_, ?_⟩
   ·rw[List.getElem?_set_ne (by omega),List.getElem_set_ne (Ne.symm hji)]; exact(h3 j hj').1
   ·rw[List.getElem?_set_ne (by omega)]; simp only[if_neg hji]; exact(h3 j hj').2.1
   ·rw[List.getElem_set_ne (Ne.symm hji)]; simp only[if_neg hji]
    refine((h3 j hj').2.2.keep k1 fun d hd hm=>h4 j i U8 hi hji d hd hm).keep kk fun d hd hm=>?_
    simp at hm; subst hm
    rcases hbv j with h | h
    ·exact h hd
    ·exact h U8
 ·simp only at hd ⊢
  by_cases e1:j1=i
  ·rw[if_pos e1] at hd
   rw[if_neg (fun e=>hne (e1.trans e.symm))]
   rcases hv with rfl | hv
   ·exact h4 i j2 hi q2 (fun e=>hne (e1.trans e)) d hd
   ·intro hm
    have:=hv d hd
    have:=((h3 j2 (by rw[h.len]; exact q2)).2.2.blk d hm).2
    omega
  ·rw[if_neg e1] at hd
   by_cases e2:j2=i
   ·rw[if_pos e2]
    rcases hv with rfl | hv
    ·exact h4 j1 i q1 hi e1 d hd
    ·intro hm
     have:=hv d hm
     have:=((h3 j1 (by rw[h.len]; exact q1)).2.2.blk d hd).2
     omega
   ·rw[if_neg e2]
    exact h4 j1 j2 q1 q2 hne d hd
 ·exact(k1.mono (fun d hd=>List.mem_cons_of_mem _ hd)).trans (kk.mono (by simp))
 ·intro d hd
  rcases List.mem_cons.1 hd with rfl | hd
  ·exact .inl rfl
  ·exact .inr ((h3 i hil).2.2.blk d hd).1
def chain:Nat→List Nat→Bool
 | _,[]=>true
 | a,x :: xs=>decide (a<x) && chain x xs
def WL (p:Pt) : Bool:=chain (p.1 + 1) p.2
theorem Own.sl {M:RM} {base T:Nat} {v:AV} {L:List UInt8} (h:Own M base T 1 v (sw L) L.length) : Sl BY M v L:=by
 have:=h.lN
 show aO M 1 v (BY.row L) L.length
 rw[mr]; exact this
@[irreducible] def xZ (bs:List UInt8) (f:Bool) : Nat × List UInt8 × Bool:=iB 18446744073709551615 bs f
def S9:Nat→Nat→List UInt8→Bool→List Nat→Option (Nat × List UInt8 × Bool × List Nat)
 | 0,a,bs,f,acc=>some (a,bs,f,acc)
 | k + 1,a,bs,f,acc =>
   if (xZ bs f).2.2=true∨1099511627776<(xZ bs f).1∨1099511627776<a then none
   else S9 k (a + (xZ bs f).1) (xZ bs f).2.1 (xZ bs f).2.2 (acc++[a + (xZ bs f).1])
def PD:Nat→List UInt8→Bool→List Pt→Option (List UInt8 × Bool × List Pt)
 | 0,bs,f,ps=>some (bs,f,ps)
 | k + 1,bs,f,ps =>
   let d:=iB 15 bs f
   let u:=xZ d.2.1 d.2.2
   let n:=iB 4096 u.2.1 u.2.2
   match S9 n.1 u.1 n.2.1 n.2.2 (ps.getD d.1 (0,[])).2 with
   | none=>none
   | some (a,bs',f',acc)=>if 1099511627776<u.1∨1099511627776<a then none else PD k bs' f' (ps.set d.1 (u.1,acc))
def decode (bs:List UInt8) : Option (List Pt) :=
 match PD (iB 16 bs false).1 (iB 16 bs false).2.1 (iB 16 bs false).2.2 rP with
 | none=>none
 | some (bs',f,ps)=>if f=true∨bs'≠[]∨ps.all WL=false∨encS ps≠bs then none else some ps
def Bi (k:Nat) (p:Pt) : Prop:=p.1≤1099511627776∧p.2.length≤k∧∀ x∈p.2,x≤4398046511104
def Uf (TS TU:Nat) (c:au) : Prop:=∀ {M:RM} {v:AV} {bs:List UInt8} {Q:ah},Sl BY M v bs→bs.length≤140737488355328 →
 (decode bs=none→∀ M',aa [] M M'→Q (.tup [.sc (.pointer none),N .i64 14]) M') →
 (∀ ps,decode bs=some ps→(∀ p∈ps,Bi 65536 p)→∀ s M',M.next≤s→xH TS TU (s + 1) M' s ps→aa [] M M'→Q (.tup [.ptr s 0,N .i64 0]) M')→c [v] M Q
def Vi (a b:aP) : Bool:=decide (a.1<b.1) || (decide (a.1=b.1) && decide (a.2<b.2))
section
variable {α:Type} {E:Enc α}
end
def XA (d:aP) (l:List aP) : Nat:=(l.takeWhile (fun x=>Vi x d)).length
def eY (l:List aP) (d:aP) : List aP:=if d∈l then l else l.take (XA d l)++d :: l.drop (XA d l)
theorem Sy (l:List aP) (d:aP) : (eY l d).length≤l.length + 1:=by
 unfold eY
 split
 ·omega
 ·simp; omega
def Ug (T:Nat) (c:au) : Prop:=∀ {M:RM} {base:Nat} {v:AV} {l:List aP} {d:aP} {Q:ah},Ow uR M base T v l→base≤M.next→l.length≤100000→(∀ v' M',Ow uR M' base T v' (eY l d)→aa [] M M'→Q v' M')→c [v,.agg (KP d)] M Q
def mf (p:List Pt × List aP) (d:aP) : List Pt × List aP:=((yY p.1 d).2,if (yY p.1 d).1=0 then eY p.2 d else p.2)
def Qo (l:List aP) : List Pt × List aP:=l.foldl mf (rP,[])
theorem SC:∀ p∈rP,Bf p:=fun p hp=>by
 simp only[rP,List.mem_replicate] at hp
 rw[hp.2]
 exact⟨.nil,fun x hx=>by simp at hx,Nat.zero_le _,fun x hx=>by simp at hx,Nat.zero_le _⟩
theorem UK {ps:List Pt} (h:∀ p∈ps,Bf p) (i:Nat) : Bf (ps.getD i (0,[])):=by
 rw[List.getD_eq_getElem?_getD]
 by_cases hj:i<ps.length
 ·rw[List.getElem?_eq_getElem hj]
  exact h _ (List.getElem_mem hj)
 ·rw[List.getElem?_eq_none (by omega)]
  exact⟨.nil,fun x hx=>by simp at hx,Nat.zero_le _,fun x hx=>by simp at hx,Nat.zero_le _⟩
theorem Uj {ps:List Pt} {d:aP} (h:∀ p∈ps,Bf p) : ∀ p∈(yY ps d).2,Bf p:=by
 unfold yY
 split
 ·rename_i hg
  split
  ·intro p hp
   rcases List.mem_or_eq_of_mem_set hp with hp | rfl
   ·exact h p hp
   ·refine Ue (UK h _) ?_
    simp only[good,Bool.and_eq_true,decide_eq_true_eq] at hg
    exact hg.2
  ·exact h
 ·exact h
def Qw (TS TD:Nat) (c:au) : Prop:=∀ {M:RM} {v:AV} {l:List aP} {Q:ah},Sl uR M v l→l.length≤10000 →
 (∀ s w M',M.next≤s→mO TS (fun e=>s<e) M' s (Qo l).1→(∀ p∈(Qo l).1,Bf p)→Ow uR M' (s + 1) TD w (Qo l).2→(Qo l).2.length≤l.length→aa [] M M'→Q (.tup [.ptr s 0,w]) M')→c [v] M Q
theorem Mi {TS TD:Nat} {cn ca cr:au} (hn:xC TS cn) (ha:Xi TS ca) (hr:Ug TD cr) : Qw TS TD fun args M Q=>∃ a0,args=[a0]∧VE cn ca cr a0 M Q:=by
 intro M v l Q hs hl hQ
 refine⟨_,rfl, ?_⟩
 unfold VE
 simp only[fF]
 refine hn fun M1 hs1 k1 n1=>?_
 generalize hsn:M.next=s at *
 refine aT (fun m ys M3=>∃ (i:Nat) (w:AV) (p:List Pt × List aP),m=l.length - i∧ys=[w,N .i64 (i:Int)]∧i≤l.length∧aa [] M M3∧s<M3.next∧mO TS (fun e=>s<e) M3 s p.1∧(∀ q∈p.1,Bf q)∧Ow uR M3 (s + 1) TD w p.2∧p.2.length≤i ∧
   Qo l=(l.drop i).foldl mf p) _
  ⟨0,bK,(rP,[]),rfl,rfl,Nat.zero_le _,k1,by omega,hs1.mono (fun _ h=>h.elim) (by omega),SC,.nil,Nat.le_refl _,rfl⟩ ?_
 rintro next m ys M3 hnext ⟨i,w,p,rfl,rfl,hi,k3,n3,hs3,hw3,ho3,hpl,hof⟩
 dsimp only[aj]
 have s3:Sl uR M3 v l:=aO.keep hs k3 (by simp)
 rw[aO.len s3,kV]
 refine aZ (fun hlt=>?_) (fun hge=>?_)
 ·have hlt:i<l.length:=by simpa using hlt
  rw[List.drop_eq_getElem_cons hlt,List.foldl_cons] at hof
  refine fK (fun zs M'=>∃ w',zs=[w']∧aa [] M M'∧s<M'.next∧mO TS (fun e=>s<e) M' s (mf p l[i]).1∧(∀ q∈(mf p l[i]).1,Bf q)∧Ow uR M' (s + 1) TD w' (mf p l[i]).2∧(mf p l[i]).2.length≤i + 1) ?_ ?_
  ·rintro zs M' ⟨w',rfl,b1,b2,b3,b4,b5,b6⟩
   dsimp only[aj]
   rw[bq,oP (by omega)]
   exact hnext _ _ _ (by omega) ⟨i + 1,w',_,rfl,rfl,by omega,b1,b2,b3,b4,b5,b6,hof⟩
  intro J hJ
  obtain⟨b1,o1,_,_,hidx,hld⟩:=Sl.at (E:=uR) (i:=i) s3 2 (i:Int) hlt rfl rfl
  rw[hidx,Bu]
  refine⟨_,hld, ?_⟩
  refine ha hs3 hw3 fun M4 hs4 k4=>?_
  have n4:=k4.next
  have k34:aa [] M M4:=k3.eX k4 (by simp; omega)
  have Vj:mO TS (fun e=>s<e) M4 s (yY p.1 l[i]).2:=hs4.mono (fun e h=>by rcases h with h | h <;> omega) (by omega)
  have ho4:=ho3.keep k4 (fun b hb hm=>by have:=(ho3.blk b hb).1; simp at hm; omega)
  have hw4:=Uj (d:=l[i]) hw3
  rw[bM]
  refine aZ (fun he=>?_) (fun he=>?_)
  ·have he:(yY p.1 l[i]).1=0:=by simpa using he
   have s4:Sl uR M4 v l:=aO.keep hs k34 (by simp)
   obtain⟨b2,o2,_,_,Xt,ZG⟩:=Sl.at (E:=uR) (i:=i) s4 2 (i:Int) hlt rfl rfl
   rw[Xt,Bu]
   refine⟨_,ZG, ?_⟩
   refine hr ho4 (by omega) (by omega) fun w' M5 ho5 k5=>?_
   have n5:=k5.next
   refine hJ _ _ ⟨w',rfl,k34.trans k5,by omega, ?_,hw4, ?_, ?_⟩
   ·exact Vj.keep k5 (by simp) (by simp)
   ·rw[mf]; simp only[he,if_true]; exact ho5
   ·rw[mf]; simp only[he,if_true]
    have:=Sy p.2 l[i]
    omega
  ·have he:¬ (yY p.1 l[i]).1=0:=by simpa using he
   refine hJ _ _ ⟨w,rfl,k34,by omega,Vj,hw4, ?_, ?_⟩
   ·rw[mf]; simp only[he,if_false]; exact ho4
   ·rw[mf]; simp only[he,if_false]; omega
 ·have he:i=l.length:=by simp at hge; omega
  subst he
  rw[List.drop_length,List.foldl_nil] at hof
  subst hof
  exact hQ s w M3 (Nat.le_refl _) hs3 hw3 ho3 hpl k3
theorem Ij {f g:Prop→Prop} {k:Prop} : Jn (Bo true) true f g k=f k:=rfl
def Bn (c:au) : Prop:=∀ {M:RM} {v:AV} {bs:List UInt8} {Q:ah},Sl BY M v bs→bs.length≤140737488355328→(∀ M',aa [] M M'→Q (Bo true) M')→c [v] M Q
theorem NH {bs:List UInt8} {ps:List Pt} (h:decode bs=some ps) : encS ps=bs:=by
 unfold decode at h
 split at h
 ·cases h
 ·split at h
  ·cases h
  ·rename_i h2
   cases h
   exact Classical.byContradiction fun hn=>h2 (.inr (.inr (.inr hn)))
theorem Fh {TS TU TB:Nat} {cd ce:au} (hd:Uf TS TU cd) (he:UA TS TB ce) : Bn fun args M Q=>∃ a0,args=[a0]∧Ms cd ce a0 M Q:=by
 intro M v bs Q hs hl hQ
 refine⟨_,rfl, ?_⟩
 unfold Ms
 simp only[rD,O5,JW,KO]
 refine hd hs hl (fun hnone M1 k1=>?_) fun ps hsome hbi s M1 hs0 hso k1=>?_
 ·rw[dm,dQ,dH,show((14:Int) != 0)=true from rfl,jv,bM,show((14:Int) == 14)=true from rfl,dY]
  dsimp only
  rw[uy,dK]
  exact hQ M1 k1
 ·rw[dm,dQ,dH,show((0:Int) != 0)=false from rfl,iI,wC]
  have s1:Sl BY M1 v bs:=aO.keep hs k1 (by simp)
  rw[dC]
  dsimp only
  rw[dC]
  dsimp only
  rw[dC,Sl.str s1]
  dsimp only
  rw[dY]
  dsimp only
  refine he hso.setH (fun p hp=>⟨by have:=(hbi p hp).1; omega,by have:=(hbi p hp).2.1; omega,fun x hx=>by have:=(hbi p hp).2.2 x hx; omega⟩) fun w M2 ho2 hl2 k2=>?_
  have k12:=k1.trans k2
  have s2:Sl BY M2 v bs:=aO.keep hs k12 (by simp)
  rw[Ij,Sl.str s2]
  refine⟨rfl, ?_⟩
  rw[dC,Sl.str (Own.sl ho2),sM,NH hsome]
  dsimp only
  rw[dK,show(bs == bs)=true by simp]
  exact hQ M2 k12
theorem Own.U2 {M:RM} {base el size n:Nat} {v:AV} {cs:List AV} (h:Own M base el size v cs n) (hn:0<n) : ∃ b,v=.slc b 0 n (.op size)∧base≤b∧b<M.next∧M.heap b=some (.row cs true el 0)∧cs.length=n * size:=by
 cases h with
 | nil=>omega
 | ex0=>omega
 | op b n cs h1 h2 h3 h4=>exact⟨b,rfl,h1,h2,h3,h4⟩
theorem oG {M:RM} {b o:Nat} {x:AV} {K:AV→Prop} (h:M.cell b o=some x) : ag M (.ptr b o) K=K x:=by
 rw[iX,h]; simp
section
variable {ps:List Pt} {d:aP}
end
def Xz (T:Nat) (M:RM) (base:Nat) (v:AV) (L:List UInt8) : Prop :=
 Own M base T 1 v (sw L) L.length∨∃ b,v=.slc b 0 L.length (.ex L.length)∧base≤b∧b<M.next∧M.heap b=some (.row (sw L) false T 0)
theorem Xz.sl {T base:Nat} {M:RM} {v:AV} {L:List UInt8} (h:Xz T M base v L) : Sl BY M v L:=by
 rcases h with h | ⟨b,rfl,h1,h2,h3⟩
 ·exact Own.sl h
 ·show aO M 1 _ (BY.row L) L.length
  rw[mr]
  refine .slc _ _ _ _ _ h2 ?_
  rw[RM.iW h3 (by simp),Nat.mul_one,List.drop_zero,List.take_of_length_le (by simp)]
def PM (M:RM) (b T:Nat) (d:Array Nat) : RM:=M.put b (.row (dR.row d.toList) true T 0)
abbrev vv (b n:Nat) : AV:=.slc b 0 n (.op 1)
section
variable {M:RM} {b T n i j:Nat} {d:Array Nat} {K:AV→Prop}
theorem PM.heap:(PM M b T d).heap b=some (.row (dR.row d.toList) true T 0):=RM.yG _ _
theorem PM.Re:(dR.row d.toList).length=d.size:=by rw[Enc.gP]; simp[dR]
theorem RH (hi:i<d.size) : d[i]! = d[i]:=getElem!_pos d i hi
theorem PM.cellAt (hi:i<d.size) : (dR.row d.toList)[i]?=some (N .u64 ((d[i]! : Nat) : Int)):=by
 rw[mW,List.getElem?_map,Array.getElem?_toList,RH hi,Array.getElem?_eq_getElem hi]; rfl
theorem PM.idx {kd:IntKind} (hi:i<n) : bf (vv b n) (N kd (i:Int)) 1 K=K (.ptr b i):=by
 rw[sJ]
 simp only[Int.toNat_natCast]
 rw[show 0 + i * 1=i by omega]
 exact propext ⟨fun h=>h.2.2,fun h=>⟨by omega,by omega,h⟩⟩
theorem PM.rd {kd:IntKind} (hn:n=d.size) (hi:i<d.size) : (bf (vv b n) (N kd (i:Int)) 1 fun p=>ag (PM M b T d) p K)=K (N .u64 ((d[i]! : Nat) : Int)):=by
 rw[PM.idx (by omega),aG PM.heap (PM.cellAt hi)]
theorem PM.put {x:Nat} (hi:i<d.size) {K:RM→Prop} : aR (PM M b T d) (.ptr b i) (N .u64 (x:Int)) 1 K=K (PM M b T (d.setIfInBounds i x)):=by
 rw[Al PM.heap (by rw[PM.Re]; exact hi) rfl rfl]
 congr 1
 have e:(dR.row d.toList).set i (N .u64 (x:Int))=dR.row (d.setIfInBounds i x).toList:=by rw[mW,mW,Array.toList_setIfInBounds,List.map_set]
 rw[e,PM,PM]
 unfold RM.put
 congr 1
 funext c
 by_cases h:c=b <;> simp[h]
theorem addN (h:i + j<4611686018427387904) : af .add (N .i64 (i:Int)) (N .i64 (j:Int)) K=K (N .i64 ((i + j:Nat) : Int)):=by
 rw[bq,aM (by omega) (by omega),Int.natCast_add]
theorem NM (h:j≤i) (hb:i<4611686018427387904) : af .sub (N .i64 (i:Int)) (N .i64 (j:Int)) K=K (N .i64 ((i - j:Nat) : Int)):=by
 rw[fM,aM (by omega) (by omega),show(i:Int) - (j:Int)=((i - j:Nat) : Int) by omega]
theorem lU:af .lss (N .i64 (i:Int)) (N .i64 (j:Int)) K=K (Bo (decide (i<j))):=by rw[kV,show decide ((i:Int)<(j:Int))=decide (i<j) by simp]
end
section
variable {body:(List AV→RM→Prop)→List AV→RM→Prop} {p:Nat→Bool} {d:Array Nat} {M:RM}
end
theorem andM {c p:Bool} {f:ah→Prop} {M:RM} {G:AV→RM→Prop} (hf:c=true→∀ k:ah,k (Bo p) M→f k) (hG:G (Bo (c && p)) M) :
  az (Bo c) true f (fun k=>k .undef M) (fun t M'=>bn (Bo c) t (Bo false) fun u=>G u M'):=by
 cases c with
 | false=>rw[nz]; dsimp only; rw[gZ]; exact hG
 | true=>rw[dY]; exact hf rfl _ (by rw[dK]; exact hG)
end Go.Ab.aP
namespace Go.Ab
open Go Go.RowKit
abbrev Fp (r:Option Nat) : Fence := { Fence.wide with round:=r }
def wd (ds:List Deferred) (a:Act) : Act := { a with defers:=ds }
theorem AO (ds:List Deferred) (a:Act) (d:Option Tmp) (v:Value) : (wd ds a).put d v=wd ds (a.put d v):=by cases d <;> rfl
theorem GG (ds:List Deferred) (a:Act) : (wd ds a).eval=a.eval:=by funext x; cases x <;> rfl
theorem put_defers (a:Act) (d:Option Tmp) (v:Value) : (a.put d v).defers=a.defers:=by cases d <;> rfl
def Cu (o:Oper) : Bool:=match o.op with | .defer _=>false | _=>true
theorem Rn {o:Oper} (h:Cu o=true) : ∀ c,o.op≠.defer c:=by
 intro c e; unfold Cu at h; rw[e] at h; cases h
def Qn (Q0:Act→World→Prop) : Exit→Act→World→Prop:=fun e a w=>e=.normal∧a.defers=[]∧Q0 a w
section
variable {P:Program} {Q0:Act→World→Prop} {K K' : Act→World→Prop} {Q' : Exit→Act→World→Prop} {r:Option Nat} {n:Nat} {ds:List Deferred}
theorem UH {row:String} {args:Array Value} {w:World} {R:Value→World→Prop} (h:Rows P row args w R) : RowsIn (Fp r) n P row args w R :=
 fun c cs _=>let ⟨v,w',q,s⟩:=h c cs; ⟨v,w',q,(stepsIn_wide (P:=P)).2 s⟩
theorem KH {f:FuncId} {args:Array Value} {w:World} {R:Ending→World→Prop} (h:Calls P f args w R) : CallsIn (Fp r) n P f args w R :=
 (callsIn_wide (n:=n)).2 h
theorem LF {o:Oper} (hKd:∀ a w,a.defers≠[]→¬ K a w) {a:Act} (ha:a.defers≠[]) {res:Result Next} (h:o.upon P a K (Qn Q0) res) : False:=by
 unfold Oper.upon at h
 split at h
 ·exact hKd _ _ (by rw[put_defers]; exact ha) h
 ·exact hKd _ _ (by rw[put_defers]; exact ha) h
 ·exact hKd _ _ (by rw[put_defers]; simp) h
 ·obtain⟨e,w',fr,hR,_⟩:=h []
  cases e with
  | returned v=>exact hKd _ _ (by rw[put_defers]; exact ha) hR
  | panicked c=>cases hR.1
  | outgrown=>obtain⟨a,w,h⟩:=hR; cases h.1
 ·obtain⟨v,w',hR,_⟩:=h default []
  exact hKd _ _ (by rw[put_defers]; exact ha) hR
 ·cases h.1
 ·exact h
theorem Ud {o:Oper} (hK:∀ a w,a.defers=[]→K a w→K' (wd ds a) w) (hKd:∀ a w,a.defers≠[]→¬ K a w) {a:Act} (ha:a.defers=[]) {res:Result Next} (h:o.upon P a K (Qn Q0) res) :
  o.uponIn (Fp r) n P (wd ds a) K' Q' res:=by
 unfold Oper.upon at h
 split at h
 ·rw[Oper.uponIn_value,AO]
  exact hK _ _ (by rw[put_defers]; exact ha) h
 ·rw[Oper.uponIn_skip,AO]
  exact hK _ _ (by rw[put_defers]; exact ha) h
 ·exact absurd h (hKd _ _ (by rw[put_defers]; simp))
 ·rw[Oper.uponIn_enter]
  refine⟨fun h=>(by cases h),KH (h.mono ?_)⟩
  intro e w'' hR
  cases e with
  | returned v=>simp only at hR ⊢; rw[AO]; exact hK _ _ (by rw[put_defers]; exact ha) hR
  | panicked c=>cases hR.1
  | outgrown=>obtain⟨a,w,h⟩:=hR; cases h.1
 ·rw[Oper.uponIn_row]
  refine⟨fun h=>(by cases h),UH (h.mono ?_)⟩
  intro v w'' hR
  rw[AO]; exact hK _ _ (by rw[put_defers]; exact ha) hR
 ·cases h.1
 ·exact h.elim
theorem Py {o:Oper} (hKd:∀ a w,a.defers≠[]→¬ K a w) {a:Act} {w:World} (ha:a.defers≠[]) (h:o.wp P a w K (Qn Q0)) : False:=LF hKd ha h
theorem WZ {o:Oper} (hd:Cu o=true) (hK:∀ a w,a.defers=[]→K a w→K' (wd ds a) w) (hKd:∀ a w,a.defers≠[]→¬ K a w) {a:Act} {w:World} (ha:a.defers=[]) (h:o.wp P a w K (Qn Q0)) :
  o.wpIn (Fp r) n P (wd ds a) w K' Q':=by
 refine⟨fun _ _=>trivial, ?_⟩
 rw[Oper.semAt_eq _ _ _ (Rn hd),GG]
 exact Ud hK hKd ha h
theorem Ht {Q0:Act→World→Prop} : ¬ LetsOut (Qn Q0):=fun⟨_,_,h⟩=>by cases h.1
theorem nK {ops:Array Oper} : ∀ (l:List Nat) (a:Act) (w:World),a.defers≠[]→¬ wpOps P ops (Qn Q0) l a w
 | [],a,w,ha,h=>ha h.2.1
 | i :: l,a,w,ha,h=>by
   rw[wpOps_cons] at h
   unfold wpOp at h
   split at h
   ·exact nK l a w ha h
   ·split at h
    ·rcases h with h | h
     ·exact Py (fun a w=>nK l a w) ha h
     ·exact Ht h.2
    ·exact nK l _ w (by rw[put_defers]; exact ha) h
theorem tq {ops:Array Oper} (hd:ops.toList.all Cu=true) (hQ:∀ a w,a.defers=[]→Q0 a w→Q' .normal (wd ds a) w) : ∀ (l:List Nat) (a:Act) (w:World),a.defers=[]→wpOps P ops (Qn Q0) l a w→wpOpsIn (Fp r) n P ops Q' l (wd ds a) w
 | [],a,w,ha,h=>hQ a w ha h.2.2
 | i :: l,a,w,ha,h=>by
   rw[wpOps_cons] at h
   rw[wpOpsIn_cons]
   unfold wpOp at h
   unfold wpOpIn
   cases ho:ops[i]? with
   | none=>rw[ho] at h; exact tq hd hQ l a w ha h
   | some o =>
     rw[ho] at h
     simp only at h ⊢
     have hdo:Cu o=true:=List.all_eq_true.1 hd o (by
      have:ops.toList[i]?=some o:=by rw[Array.getElem?_toList]; exact ho
      exact List.mem_of_getElem? this)
     have hy:yielded ops (wd ds a).tmps=yielded ops a.tmps:=rfl
     rw[hy]
     split at h
     ·rename_i hw
      rw[if_pos hw]
      rcases h with h | h
      ·exact WZ hdo (fun a w=>tq hd hQ l a w) (fun a w=>nK l a w) ha h
      ·exact absurd h.2 Ht
     ·rename_i hw
      rw[if_neg hw]
      exact⟨fun _ _=>trivial,by rw[AO]; exact tq hd hQ l _ w (by rw[put_defers]; exact ha) h⟩
end
section
variable {P:Program} {nt:Nat} {ops:Array Oper} {M0:RM} {ρ0 ρ:Ren} {w0 w:World} {a:Act}
theorem LM (hP:qI P) {T:Tree AV} {M:RM} {K:Tree AV→RM→Prop} {Q:Exit→Act→World→Prop} (hM:After P M0 ρ0 w0 M ρ w) (hA:bL ρ nt T a)
  (hQ:∀ T' M' ρ' a' w',After P M0 ρ0 w0 M' ρ' w'→bL ρ' nt T' a'→K T' M'→(∀ t,(∀ o∈ops.toList,o.dst≠some t)→T'.get t=T.get t)→Q .normal a' w') (h:CB P nt ops T M K) (t:Nat) :
  wpOps P ops Q (Region.schedule (P.follows .mixedOrders) ops t) a { w with drawn:=w.drawn + 1 } := by
 simp only[Region.schedule,hP.mixed,Bool.true_or,if_true]
 unfold CB at h
 split at h
 ·exact wpAny_sound ops.size t _ a _ (zY hP hM hA hQ h)
 ·split at h
  ·exact h.elim
  ·rename_i x y p _
   split at h
   ·exact h.elim
   ·rename_i hc
    simp only[Bool.and_eq_true,Bool.not_eq_true'] at hc
    obtain⟨⟨c1,c2⟩,c3⟩:=hc
    have p1:=pU c1
    have p2:=pU c2
    have hxy:x≠y:=fun e=>by subst e; rw[Nat.beq_refl] at c3; cases c3
    have go:∀ (q:List Nat) (x y:Nat),Perm q ops.size→ru P nt (gz q x y ops) T M K→wpAny P .any (gz q x y ops) Q ops.size (Array.replicate ops.size false) a { w with drawn:=w.drawn + 1 } := by
     intro q x y hq hd
     have:=zY hP hM hA (Q:=Q) (fun T' M' ρ' a' w' k1 k2 k3 k4=>hQ T' M' ρ' a' w' k1 k2 k3 fun t ht=>k4 t fun o' ho'=>?_) hd
     ·rw[qN hq] at this; exact this
     ·obtain⟨k,hk⟩:=List.mem_iff_getElem?.1 ho'
      rw[Array.getElem?_toList] at hk
      obtain⟨i,o,hi,_,rfl⟩:=xU hq hk
      exact ht o (by rw[← Array.getElem?_toList] at hi; exact List.mem_of_getElem? hi)
    have hv:=AU ops ops.size t (Array.replicate ops.size false)
    have rel:∀ q:List Nat,Gu q ops.size (Array.replicate ops.size false) (Array.replicate ops.size false):=fun q=>⟨by simp,by simp,fun z=>by
     simp only[Array.getD_eq_getD_getElem?,Array.getElem?_replicate]
     split <;> split <;> rfl⟩
    rcases Gy hxy ops.size _ _ (by simp) hv with ho | ho
    ·exact pY p1 ops.size _ _ _ a _ hv ho (rel _) (go _ _ _ p1 h.1)
    ·exact pY p2 ops.size _ _ _ a _ hv ho (rel p) (go _ _ _ p2 h.2)
end
theorem aS.far {P:Program} {base:Base} {ρ:Ren} {A:AW} {w w' : World} (h:aS P base ρ A w) (hs:w.heap.size≤w'.heap.size) (hf:∀ b i,ρ b=some i→w'.heap[i.cb]?=w.heap[i.cb]?) (hl:∀ c,c<base.n→w'.heap[c]?=w.heap[c]?) : aS P base ρ A w' where
 dom b i hb:=⟨(h.dom b i hb).1,Nat.lt_of_lt_of_le (h.dom b i hb).2 hs⟩
 blk b i x hb hx:=by obtain⟨o,h1,h2⟩:=h.blk b i x hb hx; exact⟨o,by rw[hf b i hb]; exact h1,h2⟩
 sep:=h.sep
 top:=h.top
 lo:=h.lo
 inv:=base.low _ _ hl h.inv
theorem bg.far {P:Program} {ρ:Ren} {M:RM} {w w' : World} (h:bg P ρ M w) (hs:w.heap.size≤w'.heap.size) (hf:∀ b i,ρ b=some i→w'.heap[i.cb]?=w.heap[i.cb]?) (hl:∀ c,c<M.lo→w'.heap[c]?=w.heap[c]?) : bg P ρ M w':=by
 obtain⟨A,hA⟩:=h
 refine⟨A,hA.next,hA.rel.far hs hf hl,Nat.le_trans hA.size hs,fun b x hx=>?_,hA.old⟩
 rcases hA.blk b x hx with h1 | ⟨c,e,hlt,elem,fr,hh⟩
 ·exact .inl h1
 ·exact .inr ⟨c,e,hlt,elem,fr,by rw[hl b hlt]; exact hh⟩
theorem bg.GU {P:Program} {ρ:Ren} {M:RM} {w:World} (h:bg P ρ M w) : M.lo≤w.heap.size:=by
 obtain⟨A,hA⟩:=h; exact hA.size
def uI (ρ:Ren) (c:Nat) : Prop:=∀ b i,ρ b=some i→i.cb≠c
theorem bg.mG {P:Program} {ρ:Ren} {M:RM} {w:World} (h:bg P ρ M w) {c:Nat} (hc:w.heap.size≤c) : uI ρ c:=fun b i hb e=>by
 have:=(h.lt hb).2; omega
theorem bg.putObj {P:Program} {ρ:Ren} {M:RM} {w:World} (h:bg P ρ M w) {l:Nat} (o:Obj) (hn:uI ρ l) (hl:M.lo≤l) : bg P ρ M (w.putObj l o) :=
 h.far (by simp) (fun b i hb=>World.putObj_heap_other (hn b i hb)) (fun c hc=>World.putObj_heap_other (by omega))
theorem alloc_old {w:World} {o:Obj} {c:Nat} (hc:c<w.heap.size) : (w.alloc o).heap[c]?=w.heap[c]?:=by
 show(w.heap.push o)[c]?=w.heap[c]?
 rw[Array.getElem?_push,if_neg (by omega)]
theorem bg.alloc {P:Program} {ρ:Ren} {M:RM} {w:World} (h:bg P ρ M w) (o:Obj) : bg P ρ M (w.alloc o) :=
 h.far (by simp) (fun b i hb=>alloc_old (h.lt hb).2) (fun c hc=>alloc_old (by have:=h.GU; omega))
theorem Step.alloc {lo n:Nat} {ρ ρ' : Ren} {w w' : World} (h:Step lo n ρ w ρ' w') (hlo:lo≤w.heap.size) (o:Obj) : Step lo n ρ w ρ' (w'.alloc o) where
 os:=h.os
 tape:=h.tape
 output:=h.output
 size:=by simp only[World.size_alloc]; have:=h.size; omega
 frame c hc hu:=by rw[alloc_old (by have:=h.size; omega)]; exact h.frame c hc hu
 ext:=h.ext
 fresh:=h.fresh
 low c hc:=by rw[alloc_old (by have:=h.size; omega)]; exact h.low c hc
theorem Step.putObj {lo n:Nat} {ρ ρ' : Ren} {w w' : World} (h:Step lo n ρ w ρ' w') {l:Nat} (hlo:lo≤w.heap.size) (hl:w.heap.size≤l) (o:Obj) : Step lo n ρ w ρ' (w'.putObj l o) where
 os:=h.os
 tape:=h.tape
 output:=h.output
 size:=by simp only[World.putObj_size]; exact h.size
 frame c hc hu:=by rw[World.putObj_heap_other (by omega)]; exact h.frame c hc hu
 ext:=h.ext
 fresh:=h.fresh
 low c hc:=by rw[World.putObj_heap_other (by omega)]; exact h.low c hc
theorem Step.turned {lo n:Nat} {ρ ρ' : Ren} {w w' : World} {l:Nat} {o o' : Obj} (hlo:lo≤l) (hw:w.heap[l]?=some o) (h:Step lo n ρ (w.putObj l o') ρ' w') : Step lo n ρ w ρ' (w'.putObj l o) where
 os:=h.os
 tape:=h.tape
 output:=h.output
 size:=by simp only[World.putObj_size]; have:=h.size; simpa using this
 frame c hc hu:=by
  have hl:=(Array.getElem?_eq_some_iff.1 hw).1
  have hs:=h.size
  simp only[World.putObj_size] at hs
  by_cases e:c=l
  ·subst e; rw[World.putObj_heap_same (by omega),hw]
  ·rw[World.putObj_heap_other e,h.frame c (by simpa using hc) hu,World.putObj_heap_other e]
 ext:=h.ext
 fresh b i hb:=by
  rcases h.fresh b i hb with k | k
  ·exact .inl k
  ·exact .inr (by simpa using k)
 low c hc:=by
  rw[World.putObj_heap_other (by omega),h.low c hc,World.putObj_heap_other (by omega)]
theorem Step.mG {lo n:Nat} {ρ ρ' : Ren} {w w' : World} (h:Step lo n ρ w ρ' w') {c:Nat} (hn:uI ρ c) (hc:c<w.heap.size) : uI ρ' c:=fun b i hb e=>by
 rcases h.fresh b i hb with⟨b0,i0,h0,e0⟩ | k
 ·exact hn b0 i0 h0 (by rw[e0,e])
 ·omega
theorem Step.kept {lo n:Nat} {ρ ρ' : Ren} {w w' : World} (h:Step lo n ρ w ρ' w') {c:Nat} {o:Obj} (hn:uI ρ c) (hc:w.heap[c]?=some o) : w'.heap[c]?=some o:=by
 rw[h.frame c (Array.getElem?_eq_some_iff.1 hc).1 hn]; exact hc
def xP (D:Nat) : Deferred := { target:=.collected D,args := #[] }
structure uB (n0:Nat) (ρ:Ren) (w:World) (Ds:List Nat) : Prop where
 nodup:Ds.Nodup
 all:∀ D∈Ds,n0≤D∧w.heap[D]?=some (.deferred (some []))∧uI ρ D
theorem uB.step {lo n n0:Nat} {ρ ρ' : Ren} {w w' : World} {Ds:List Nat} (h:uB n0 ρ w Ds) (hs:Step lo n ρ w ρ' w') : uB n0 ρ' w' Ds :=
 ⟨h.nodup,fun D hD=>by
  obtain⟨h1,h2,h3⟩:=h.all D hD
  exact⟨h1,hs.kept h3 h2,hs.mG h3 (Array.getElem?_eq_some_iff.1 h2).1⟩⟩
def Mr (P:Program) (gf:FuncId) : Prop :=
 ∀ (l:Nat) (J:Nat→World→Prop) (p2 p3:Addr) (a:Option Addr) (len cap n:Nat),0<n→n<2 ^ 40→len≤cap→len<2 ^ 48→(a=none→len=0)→(a=none→cap=0) →
   (∀ k W,J k W→W.cell? p2=some (.slice a len cap)∧W.cell? p3=some (.int .i64 n))→(∀ k W,J k W→J k W.drew) →
   (∀ k W,k * n<len→J k W→YieldAt Fence.wide 0 P l #[.slice (a.map fun a=>a.add (k * n)) (min n (len - k * n)) (min n (len - k * n))] W (fun e W'=>e=.returned (.bool true)∧J (k + 1) W')) →
   ∀ W,J 0 W→CallsIn Fence.wide 0 P gf #[.func (.yield l) #[] #[],.pointer (some p2),.pointer (some p3)] W (fun e W'=>(∃ v,e=.returned v)∧∃ k,len≤k * n∧J k W')
inductive Head:AV→Nat→Prop
 | nil:Head (.sc (.slice none 0 0)) 0
 | emp (b:Nat) : Head (.emp b) 0
 | ex (b o len c:Nat) : len≤c→Head (.slc b o len (.ex c)) len
 | op (b o len:Nat) : Head (.slc b o len (.op 1)) len
def Cj:AV→Nat→Nat→AV
 | .slc b o _ _,i,h=>.slc b (o + i) h (.ex h)
 | _,_,_=>.top
def oZ (P:Program) (gf:FuncId) : Prop:=Mr P gf∧GN P gf
def Bz (C:FuncId→Prop) (x:AV) (M:RM) (round:AV→RM→(RM→Prop)→Prop) (fin:RM→Prop) : Prop :=
 ∃ (gf:FuncId) (b2 o2 b3 o3:Nat) (s:AV) (len n:Nat) (I:Nat→RM→Prop),x=.fn (.func gf) [] [.ptr b2 o2,.ptr b3 o3]∧C gf∧0<n∧n<2 ^ 40∧len<2 ^ 48∧Head s len∧I 0 M ∧
   (∀ k M',I k M'→M'.loads b2 o2 1=some [s]∧M'.loads b3 o3 1=some [N .i64 n]) ∧
   (∀ k M',k * n<len→I k M'→round (Cj s (k * n) (min n (len - k * n))) M' (fun M''=>I (k + 1) M'')) ∧
   (∀ k M',len≤k * n→I k M'→fin M')
def mU (P:Program) (nt ret:Nat) : Nat→Bool→Code→List (Nat × Nat)→Nat→Tree AV→RM→K3→Prop
 | 0,_,_,_,_,_,_,_=>False
 | f + 1,rg,c,env,L,T,M,K=>match c with
   | .skip=>K .normal T M
   | .region _ ops d=>match ops.toList.all Cu with
     | true=>match d with
       | false=>Ey P nt ops ops.toList T M (fun T' M'=>K .normal T' M')
       | true=>CB P nt ops T M (fun T' M'=>K .normal T' M')
     | false=>False
   | .seq a b=>match Nat.ble (qi f a) 1 with
     | true=>mU P nt ret f rg a env (dP ret f env b L) T M (fun e T' M'=>match e with
       | .normal=>mU P nt ret f rg b env L T' M' K
       | e=>K e T' M')
     | false=>fG (fun J=>mU P nt ret f rg a env (dP ret f env b L) T M (fun e T' M'=>match e with
       | .normal=>J (tN T' (bitsOf (bT f a &&& dP ret f env b L) nt)) M'
       | e=>K e T' M'))
       (fun xs M'=>mU P nt ret f rg b env L (uo T (bitsOf (bT f a) nt) (bitsOf (bT f a &&& dP ret f env b L) nt) xs) M' K)
   | .cond c a b=>aC (ic T c) (mU P nt ret f rg a env L T M K) (mU P nt ret f rg b env L T M K)
   | .block id c=>mU P nt ret f rg c ((id,L) :: env) L T M (fun e T' M'=>match e with
     | .exit i=>match Nat.beq i id with
       | true=>K .normal T' M'
       | false=>K (.exit i) T' M'
     | e=>K e T' M')
   | .exit id=>K (.exit id) T M
   | .ret=>K .ret T M
   | .label _=>K .normal T M
   | .rangeFunc g ps assign body=>match rg with
     | false=>False
     | true=>match ps.toList with
       | [p]=>match Nat.ble (p + 1) nt with
         | false=>False
         | true=>Bz (oZ P) (ic T g) M (fun v M' next=>mU P nt ret f false assign [] (dP ret f [] body 0) (T.set p v) M' (fun e T2 M2=>match e with
           | .normal=>mU P nt ret f false body [] 0 T2 M2 (fun e T3 M3=>match e with
             | .normal=>next M3
             | _=>False)
           | _=>False)) (fun M'=>K .normal T M')
       | _=>False
   | _=>False
section
variable {P:Program} {nt ret:Nat}
def nX (P:Program) (nt n0:Nat) (rg:Bool) (Ds:List Nat) (M:RM) (ρ:Ren) (w:World) (T:Tree AV) (asg:Nat) (K:K3) (e:Exit) (a' : Act) (w' : World) : Prop :=
 ∃ x T' M' ρ' a0 Ds',e=vK x∧a'=wd (Ds'.map xP) a0∧(rg=false→Ds'=Ds)∧uB n0 ρ' w' Ds'∧After P M ρ w M' ρ' w'∧bL ρ' nt T' a0∧(∀ t,Nat.testBit asg t=false→T'.get t=T.get t)∧K x T' M'
theorem nX.trans {n0:Nat} {rg:Bool} {Ds Ds1:List Nat} {M M1:RM} {ρ ρ1:Ren} {w w1:World} {T T1:Tree AV} {asg VC:Nat} {K:K3} (h:After P M ρ w M1 ρ1 w1) (hds:rg=false→Ds1=Ds) (hk:∀ t,Nat.testBit asg t=false→Nat.testBit VC t=false∧T1.get t=T.get t) {e:Exit} {a' : Act} {w' : World}
  (q:nX P nt n0 rg Ds1 M1 ρ1 w1 T1 VC K e a' w') : nX P nt n0 rg Ds M ρ w T asg K e a' w':=by
 obtain⟨x,T',M',ρ',a0,Ds',h1,h2,hx,h3,h4,h5,h6,h7⟩:=q
 exact⟨x,T',M',ρ',a0,Ds',h1,h2,fun hr=>(hx hr).trans (hds hr),h3,h.trans h4,h5,fun t ht=>by obtain⟨k1,k2⟩:=hk t ht; rw[h6 t k1,k2],h7⟩
theorem PV (ρ ρ' : Ren) (x:AV) (hx:ae ρ x undef) : ae ρ' x undef:=by
 unfold undef at hx ⊢
 cases hx with
 | top=>exact .top _
 | sc v p=>exact .sc _ p
 | tup xs vs a=>cases a; exact .tup _ _ .nil
theorem Hm {ρ:Ren} {b o len:Nat} {v:Value} (hv:ae ρ (.slc b o len (.op 1)) v) : ∃ i,ρ b=some i∧o + len≤i.dh∧v=.slice (some ⟨i.cb,i.sh + o,none⟩) len (i.dh - o):=by
 generalize hq:AV.slc b o len (.op 1)=q at hv
 cases hv <;> first | (cases hq; done) | skip
 rename_i b' k l i e hk
 injection hq with h1 h2 h3 h4
 injection h4 with h4
 subst h1; subst h3
 rw[← h4,Nat.mul_one] at h2
 subst h2
 exact⟨i,e,hk,by rw[← h4,Nat.mul_one]⟩
theorem QR {s:AV} {len:Nat} (h:Head s len) {ρ:Ren} {v:Value} (hv:ae ρ s v) :
  ∃ (a:Option Addr) (cap:Nat),v=.slice a len cap∧len≤cap∧(a=none→len=0)∧(a=none→cap=0)∧(0<len→∀ ρ' u,ρ.le ρ'→ae ρ' s u→u=v) ∧
    (0<len→∀ i h,ae ρ (Cj s i h) (.slice (a.map fun a=>a.add i) h h)):=by
 cases h with
 | nil =>
   obtain⟨rfl,_⟩:=aD hv
   exact⟨none,0,rfl,Nat.le_refl _,fun _=>rfl,fun _=>rfl,fun h=>absurd h (Nat.lt_irrefl _),fun h=>absurd h (Nat.lt_irrefl _)⟩
 | emp b =>
   cases hv with
   | emp _ a c=>exact⟨some a,c,rfl,Nat.zero_le _,fun _=>rfl,fun e=>(by cases e),fun h=>absurd h (Nat.lt_irrefl _),fun h=>absurd h (Nat.lt_irrefl _)⟩
 | ex b o len c hc =>
   cases hv with
   | dZ _ _ _ _ i e =>
     refine⟨some ⟨i.cb,i.sh + o,none⟩,c,rfl,hc,fun e=>(by cases e),fun e=>(by cases e),fun _ ρ' u hle hu=>?_,fun _ k h=>?_⟩
     ·cases hu with
      | dZ _ _ _ _ i' e'=>rw[hle _ _ e] at e'; cases e'; rfl
     ·simp only[Cj,Option.map_some,dG]
      have:=ae.dZ (ρ:=ρ) b (o + k) h h i e
      rw[← Nat.add_assoc] at this; exact this
 | op b o len =>
   obtain⟨i,e,hk,rfl⟩:=Hm hv
   refine⟨some ⟨i.cb,i.sh + o,none⟩,i.dh - o,rfl,by omega,fun e=>(by cases e),fun e=>(by cases e),fun _ ρ' u hle hu=>?_,fun _ m h=>?_⟩
   ·obtain⟨i2,e2,_,rfl⟩:=Hm hu
    rw[hle _ _ e] at e2; cases e2
    rfl
   ·simp only[Cj,Option.map_some,dG]
    have:=ae.dZ (ρ:=ρ) b (o + m) h h i e
    rw[← Nat.add_assoc] at this; exact this
theorem Et {ρ:Ren} {M:RM} {w:World} (hw:bg P ρ M w) {b o:Nat} {i:dU} {x:AV} (hb:ρ b=some i) (h:M.loads b o 1=some [x]) : ∃ v,ae ρ x v∧w.cell? ⟨i.cb,i.sh + o,none⟩=some v:=by
 obtain⟨vs,h1,h2,h3⟩:=RM.eH hw hb h
 cases h1 with
 | cons _ v _ _ hv ht =>
   have:=h3 0 v rfl
   rw[dG] at this
   exact⟨v,hv,this⟩
theorem LJ {n0 n:Nat} {g:Operand} {p:Tmp} {assign body:Code} {T:Tree AV} {M:RM} {K:K3} {round:AV→RM→(RM→Prop)→Prop} {ρ:Ren} {a:Act} {w:World} {Ds:List Nat}
  (h:Bz (oZ P) (ic T g) M round (fun M'=>K .normal T M')) (hw:bg P ρ M w) (hA:bL ρ nt T a) (hD:uB n0 ρ w Ds) (hn0:n0≤w.heap.size) (hP:qI P)
  (hr:∀ (l:Nat) (v:AV) (u:Value) (M1:RM) (ρ1:Ren) (W1:World) (next:RM→Prop),round v M1 next→bg P ρ1 M1 W1→ae ρ1 v u→ρ.le ρ1→assign.wpIn (Fp (some l)) 0 P (Exit.then (fun a2 W2=>∃ (T2:Tree AV) (M2:RM) (ρ2:Ren),After P M1 ρ1 W1 M2 ρ2 W2 ∧
      ∀ W2',bg P ρ2 M2 W2'→body.wpIn (Fp (some l)) 0 P (fun e a3 W3=>e=.normal∧∃ M3 ρ3,After P M2 ρ2 W2' M3 ρ3 W3∧next M3) a2 W2') (fun _ _ _=>False))
      { tmps:=a.tmps.setIfInBounds p u,defers:=[] } W1) :
  (Code.rangeFunc g #[p] assign body).wpIn (Fp none) n P (nX P nt n0 true Ds M ρ w T 0 K) (wd (Ds.map xP) a) w:=by
 obtain⟨gf,b2,o2,b3,o3,s,len,m,I,hx,⟨hC,hB⟩,hm0,hm1,hlen,hh,h0,hI,hR,hF⟩:=h
 have hg:=mX hA g
 rw[hx] at hg
 generalize hgv:a.eval g=gv at hg
 obtain⟨i2,i3,e2,e3,rfl⟩ : ∃ i2 i3,ρ b2=some i2∧ρ b3=some i3∧gv=.func (.func gf) #[] #[.pointer (some ⟨i2.cb,i2.sh + o2,none⟩),.pointer (some ⟨i3.cb,i3.sh + o3,none⟩)]:=by
  cases hg with
  | fn f xs ys us vs hpl hxs hys =>
    cases hxs
    cases hys with
    | cons x1 v1 xs1 vs1 hp2 ht =>
      cases ht with
      | cons x2 v2 xs2 vs2 hp3 ht2 =>
        cases ht2
        cases hp2 with
        | ptr _ _ i2 e2 =>
          cases hp3 with
          | ptr _ _ i3 e3=>exact⟨i2,i3,e2,e3,rfl⟩
 have eg:∀ args w,(callFunc gf args).run P w=.ok (.enter gf args) w:=fun args w=>by
  obtain⟨fn,c,h1,h2⟩:=hB
  exact ED h1 (hP.ng _ _ h1) h2 w
 refine wpIn_rangeFunc fun fn _=>?_
 obtain⟨rec,hrec⟩ : ∃ rec:LoopState→Option Code→Loop,rec=fun st pe => { state:=st,pending:=pe,fn,tmps:=a.tmps,params := #[p],assign,body,defers:=w.heap.size } := ⟨_,rfl⟩
 obtain⟨W1,hW1⟩ : ∃ W1,(w.alloc (.deferred (some []))).alloc (.loop (rec .ready none))=W1:=⟨_,rfl⟩
 have hsz:W1.heap.size=w.heap.size + 2:=by rw[← hW1]; simp
 have hL1:W1.heap[w.heap.size + 1]?=some (.loop (rec .ready none)):=by
  rw[← hW1]; have:=World.alloc_heap_new (w.alloc (.deferred (some []))) (.loop (rec .ready none)); rwa [World.size_alloc] at this
 have hK1:W1.heap[w.heap.size]?=some (.deferred (some [])):=by
  rw[← hW1,alloc_old (by simp)]; exact World.alloc_heap_new w _
 have hw1:bg P ρ M W1:=by rw[← hW1]; exact(hw.alloc _).alloc _
 have hlo:=hw.GU
 have hS1:Step M.lo M.next ρ w ρ W1:=by rw[← hW1]; exact((Step.refl _ _ _).alloc hlo _).alloc hlo _
 have hnl:uI ρ (w.heap.size + 1):=hw.mG (by omega)
 have hnd:uI ρ w.heap.size:=hw.mG (by omega)
 obtain⟨v0,hv0,hc0⟩:=Et hw1 e2 (hI 0 M h0).1
 obtain⟨ad,cap,rfl,hcap,hz1,hz2,hsame,uC⟩:=QR hh hv0
 refine⟨w.heap.size + 1,[{ target:=.collected w.heap.size,args := #[] }],W1,{ target:=.fn (.func gf) #[.pointer (some ⟨i2.cb,i2.sh + o2,none⟩),.pointer (some ⟨i3.cb,i3.sh + o3,none⟩)],args := #[.func (.yield (w.heap.size + 1)) #[] #[]] },W1,gf,
  #[.func (.yield (w.heap.size + 1)) #[] #[],.pointer (some ⟨i2.cb,i2.sh + o2,none⟩),.pointer (some ⟨i3.cb,i3.sh + o3,none⟩)],W1, ?_, ?_,fun _ _=>trivial, ?_,fun h=>(by cases h), ?_⟩
 ·rw[← hW1,hrec]; exact run_enterLoop_outer _ _ _ _ _
 ·have:(wd (Ds.map xP) a).eval g=.func (.func gf) #[] #[.pointer (some ⟨i2.cb,i2.sh + o2,none⟩),.pointer (some ⟨i3.cb,i3.sh + o3,none⟩)]:=by rw[GG]; exact hgv
  simp only[resolve,this]
  simp[go_sem]
 ·simp[invoke,go_sem,eg]
 ·refine KH (callsIn_wide.1 ((hC (w.heap.size + 1) (fun k W=>(∃ M' ρ',After P M ρ W1 M' ρ' W∧I k M')∧W.cell? ⟨i2.cb,i2.sh + o2,none⟩=some (.slice ad len cap)) _ ⟨i3.cb,i3.sh + o3,none⟩ ad len cap m hm0 hm1 hcap hlen hz1 hz2 ?_ ?_ ?_ W1 ⟨⟨M,ρ,After.refl hw1,h0⟩,hc0⟩).mono ?_))
  ·rintro k W ⟨⟨M',ρ',k1,k2⟩,k3⟩
   refine⟨k3, ?_⟩
   obtain⟨v,hv,hc⟩:=Et k1.rel (k1.le hw1 _ _ e3) (hI k M' k2).2
   obtain⟨rfl,_⟩:=aD hv
   exact hc
  ·rintro k W ⟨⟨M',ρ',k1,k2⟩,k3⟩
   exact⟨⟨M',ρ',⟨k1.step.trans (Step.drew (n:=M.next)) (Nat.le_refl _),k1.rel.drew,k1.base,k1.next⟩,k2⟩,k3⟩
  ·rintro k W hk ⟨⟨M',ρ',k1,k2⟩,k3⟩
   have hl1:=k1.step.kept hnl hL1
   have hn1:=k1.step.mG hnl (by omega)
   refine⟨fn,a.tmps.setIfInBounds p (.slice (ad.map fun a=>a.add (k * m)) (min m (len - k * m)) (min m (len - k * m))),assign,body, ?_,roundIn_of_wpIn (n:=0) trivial ?_⟩
   ·generalize Value.slice (ad.map fun a=>a.add (k * m)) (min m (len - k * m)) (min m (len - k * m))=uu
    have:=run_yield (P:=P) (args := #[uu]) hl1 (by rw[hrec]; rfl)
    rw[hrec] at this
    simpa using this
   ·have hu:=(uC (by omega) (k * m) (min m (len - k * m))).mono (k1.le hw1)
    refine wpIn_mono (hr (w.heap.size + 1) _ _ M' ρ' W _ (hR k M' hk k2) k1.rel hu (k1.le hw1)) fun e a2 W2 hp=>?_
    cases e with
    | normal =>
      obtain⟨T2,M2,ρ2,q1,q2⟩:=hp
      have hl2:=q1.step.kept hn1 hl1
      have hn2:=q1.step.mG hn1 (Array.getElem?_eq_some_iff.1 hl1).1
      have hlo2:M2.lo≤w.heap.size:=by rw[q1.lo,k1.lo]; exact hlo
      refine⟨_,run_beginRound hl2 (by rw[hrec]), ?_⟩
      have hm2:bg P ρ2 M2 (W2.putObj (w.heap.size + 1) (.loop { rec .ready none with state:=.busy })):=q1.rel.putObj _ hn2 (by omega)
      refine wpIn_mono (q2 _ hm2) fun e a3 W3 hp=>?_
      obtain⟨rfl,M3,ρ3,r1,r2⟩:=hp
      have hs2:=(Array.getElem?_eq_some_iff.1 hl2).1
      have hl3:=r1.step.kept (o:=.loop { rec .ready none with state:=.busy }) hn2 (World.putObj_heap_same hs2)
      have hn3:=r1.step.mG hn2 (by simp only[World.putObj_size]; exact hs2)
      have hend:=run_endRound (P:=P) none hl3
      rw[hrec] at hend
      refine⟨_,_,hend,rfl, ?_⟩
      have hst:Step M2.lo M2.next ρ2 W2 ρ3 (W3.putObj (w.heap.size + 1) (.loop (rec .ready none))):=Step.turned (by omega) hl2 r1.step
      have hlo3:M3.lo≤w.heap.size:=by rw[r1.lo]; exact hlo2
      have hA3:After P M2 ρ2 W2 M3 ρ3 (W3.putObj (w.heap.size + 1) (.loop (rec .ready none))):=⟨hst,r1.rel.putObj _ hn3 (by omega),r1.base,r1.next⟩
      have hA4:=(k1.trans q1).trans hA3
      have e0:(W3.putObj (w.heap.size + 1) (.loop (rec .ready none)))=W3.putObj (w.heap.size + 1) (.loop { state:=if (none:Option Code).isNone then .ready else .done,pending:=none,fn,tmps:=a.tmps,params := #[p],assign,body,defers:=w.heap.size }):=by rw[hrec]; rfl
      rw[hrec] at e0
      rw[← hrec] at e0
      rw[hrec] at hA4
      refine⟨⟨M3,ρ3,hA4,r2⟩, ?_⟩
      obtain⟨v,hv,hc⟩:=Et hA4.rel (hA4.le hw1 _ _ e2) (hI (k + 1) M3 r2).1
      have:=hsame (by omega) ρ3 v (hA4.le hw1) hv
      subst this
      exact hc
    | exit id=>exact hp.elim
    | goto t=>exact hp.elim
    | ret=>exact hp.elim
    | panic c=>exact hp.elim
    | outgrown=>exact hp.elim
  ·rintro e W ⟨⟨v,rfl⟩,k,hk,⟨M',ρ',k1,k2⟩,k3⟩
   have hl1:=k1.step.kept hnl hL1
   have hn1:=k1.step.mG hnl (by omega)
   have hd1:=k1.step.kept hnd hK1
   have Yh:=k1.step.mG hnd (by omega)
   refine⟨none,_,by have:=run_endLoop (P:=P) hl1 (by rw[hrec]; simp); rw[hrec] at this; exact this, ?_⟩
   have hA5:After P M ρ w M' ρ' W:=⟨(hS1.trans k1.step (Nat.le_refl _)),k1.rel,k1.base,k1.next⟩
   refine⟨.normal,T,M',ρ',a,w.heap.size :: Ds,rfl,rfl,fun h=>(by cases h),⟨?_, ?_⟩,⟨hA5.step.putObj hlo (by omega) _,k1.rel.putObj _ hn1 (by rw[k1.lo]; omega),k1.base,k1.next⟩,hA.mono (k1.le hw1),fun _ _=>rfl,hF k M' hk k2⟩
   ·refine List.nodup_cons.2 ⟨fun hin=>?_,hD.nodup⟩
    have:=(Array.getElem?_eq_some_iff.1 (hD.all _ hin).2.1).1
    omega
   ·intro D hin
    rcases List.mem_cons.1 hin with rfl | hin
    ·exact⟨hn0,by rw[World.putObj_heap_other (by omega)]; exact hd1,Yh⟩
    ·obtain⟨g1,g2,g3⟩:=hD.all D hin
     have hDs:=(Array.getElem?_eq_some_iff.1 g2).1
     exact⟨g1,by rw[World.putObj_heap_other (by omega)]; exact hA5.step.kept g3 g2,hA5.step.mG g3 hDs⟩
theorem Qi {ops:Array Oper} {t:Nat} (h:Nat.testBit (Ay ops.toList) t=false) : ∀ o∈ops.toList,o.dst≠some t:=qV _ h
theorem Qg (hP:qI P) : ∀ (f:Nat) (rg:Bool) (c:Code) (env:List (Nat × Nat)) (L:Nat) (T:Tree AV) (M:RM) (K:K3),mU P nt ret f rg c env L T M K →
  ∀ (n0:Nat) (r:Option Nat) (n:Nat) (Ds:List Nat) (ρ:Ren) (a:Act) (w:World),(rg=true→r=none)→n0≤w.heap.size→bg P ρ M w→bL ρ nt T a→uB n0 ρ w Ds→c.wpIn (Fp r) n P (nX P nt n0 rg Ds M ρ w T (bT f c) K) (wd (Ds.map xP) a) w:=by
 intro f
 induction f with
 | zero=>intro rg c env L T M K h; exact h.elim
 | succ f ih =>
   intro rg c env L T M K h n0 r n Ds ρ a w hr hn0 hM hA hD
   have fin:∀ (x:Ex) (asg:Nat),K x T M→nX P nt n0 rg Ds M ρ w T asg K (vK x) (wd (Ds.map xP) a) w:=fun x asg h=>⟨x,T,M,ρ,a,Ds,rfl,rfl,fun _=>rfl,hD,After.refl hM,hA,fun _ _=>rfl,h⟩
   cases c with
   | skip=>exact wpIn_skip (fin .normal _ h)
   | region id ops d =>
     simp only[mU] at h
     split at h
     ·rename_i hnd
      have hQ:∀ a' w',a'.defers=[]→(∃ T' M' ρ',After P M ρ w M' ρ' w'∧bL ρ' nt T' a'∧K .normal T' M'∧(∀ t,(∀ o∈ops.toList,o.dst≠some t)→T'.get t=T.get t)) →
        nX P nt n0 rg Ds M ρ w T (bT (f + 1) (.region id ops d)) K .normal (wd (Ds.map xP) a') w':=by
       rintro a' w' - ⟨T',M',ρ',k1,k2,k3,k4⟩
       exact⟨.normal,T',M',ρ',a',Ds,rfl,rfl,fun _=>rfl,hD.step k1.step,k1,k2,fun t ht=>k4 t (Qi ht),k3⟩
      split at h
      ·refine wpIn_region ?_
       have:=rA (nt:=nt) hP (ops:=ops) (Q:=Qn fun a' w'=>∃ T' M' ρ',After P M ρ w M' ρ' w'∧bL ρ' nt T' a'∧K .normal T' M'∧(∀ t,(∀ o∈ops.toList,o.dst≠some t)→T'.get t=T.get t)) (K:=fun T' M'=>K .normal T' M') (M0:=M) (ρ0:=ρ) (w0:=w) (T0:=T)
        (fun T' M' ρ' a' w' k1 k2 k3 k4=>⟨rfl,k2.defers,T',M',ρ',k1,k2,k3,k4⟩) ops.toList 0 (by simp) hA (After.refl hM) (fun _ _=>rfl) h
       rw[Array.length_toList,← List.range_eq_range'] at this
       exact tq hnd hQ _ _ _ hA.defers this
      ·refine wpIn_region_draw fun t=>?_
       exact tq hnd hQ _ _ _ hA.defers (LM (nt:=nt) (T:=T) (Q:=Qn fun a' w'=>∃ T' M' ρ',After P M ρ w M' ρ' w'∧bL ρ' nt T' a'∧K .normal T' M'∧(∀ t,(∀ o∈ops.toList,o.dst≠some t)→T'.get t=T.get t)) hP (After.refl hM) hA
        (fun T' M' ρ' a' w' k1 k2 k3 k4=>⟨rfl,k2.defers,T',M',ρ',k1,k2,k3,k4⟩) h t)
     ·exact h.elim
   | seq c1 c2 =>
     simp only[mU] at h
     refine wpIn_seq ?_
     split at h
     ·refine wpIn_mono (ih _ c1 _ _ _ _ _ h n0 r n Ds ρ a w hr hn0 hM hA hD) fun e a' w' hp=>?_
      obtain⟨x,T1,M1,ρ1,a1,Ds1,rfl,rfl,hds,g,k1,k2,k3,k4⟩:=hp
      have bits:∀ t,Nat.testBit (bT (f + 1) (.seq c1 c2)) t=false→Nat.testBit (bT f c1) t=false∧Nat.testBit (bT f c2) t=false:=fun t ht=>by
       simpa only[bT,Nat.testBit_or,Bool.or_eq_false_iff] using ht
      cases x with
      | normal =>
        refine wpIn_mono (ih _ c2 _ _ _ _ _ k4 n0 r n Ds1 ρ1 a1 w' hr (Nat.le_trans hn0 k1.step.size) k1.rel k2 g) fun e a2 w2 hp=>?_
        exact nX.trans k1 hds (fun t ht=>⟨(bits t ht).2,k3 t (bits t ht).1⟩) hp
      | exit i=>exact⟨.exit i,T1,M1,ρ1,a1,Ds1,rfl,rfl,hds,g,k1,k2,fun t ht=>k3 t (bits t ht).1,k4⟩
      | ret=>exact⟨.ret,T1,M1,ρ1,a1,Ds1,rfl,rfl,hds,g,k1,k2,fun t ht=>k3 t (bits t ht).1,k4⟩
     ·unfold fG at h
      refine wpIn_mono (ih _ c1 _ _ _ _ _ h n0 r n Ds ρ a w hr hn0 hM hA hD) fun e a' w' hp=>?_
      obtain⟨x,T1,M1,ρ1,a1,Ds1,rfl,rfl,hds,g,k1,k2,k3,k4⟩:=hp
      have bits:∀ t,Nat.testBit (bT (f + 1) (.seq c1 c2)) t=false→Nat.testBit (bT f c1) t=false∧Nat.testBit (bT f c2) t=false:=fun t ht=>by
       simpa only[bT,Nat.testBit_or,Bool.or_eq_false_iff] using ht
      have hge:∀ t,nt≤t→ae ρ1 ((T.get t).getD .top) undef:=fun t ht=>PV _ _ _ (hA.ge t ht)
      cases x with
      | normal =>
        refine wpIn_mono (ih _ c2 _ _ _ _ _ k4 n0 r n Ds1 ρ1 a1 w' hr (Nat.le_trans hn0 k1.step.size) k1.rel (uH k2 hge k3) g) fun e a2 w2 hp=>?_
        refine nX.trans k1 hds (fun t ht=>⟨(bits t ht).2,yX (fun t' ht'=>?_) t (bits t ht).1⟩) hp
        have:=(nT.1 ht').2
        rw[Nat.testBit_and,Bool.and_eq_true] at this
        exact this.1
      | exit i=>exact⟨.exit i,T1,M1,ρ1,a1,Ds1,rfl,rfl,hds,g,k1,k2,fun t ht=>k3 t (bits t ht).1,k4⟩
      | ret=>exact⟨.ret,T1,M1,ρ1,a1,Ds1,rfl,rfl,hds,g,k1,k2,fun t ht=>k3 t (bits t ht).1,k4⟩
   | cond cnd c1 c2 =>
     simp only[mU] at h
     have bits:∀ t,Nat.testBit (bT (f + 1) (.cond cnd c1 c2)) t=false→Nat.testBit (bT f c1) t=false∧Nat.testBit (bT f c2) t=false:=fun t ht=>by
      simpa only[bT,Nat.testBit_or,Bool.or_eq_false_iff] using ht
     obtain⟨b,hb,h1,h2⟩:=HY h (mX hA cnd)
     rw[← GG (Ds.map xP)] at hb
     cases b with
     | true =>
       refine wpIn_cond_true hb (wpIn_mono (ih _ c1 _ _ _ _ _ (h1 rfl) n0 r n Ds ρ a w hr hn0 hM hA hD) fun e a' w' hp=>?_)
       exact nX.trans (After.refl hM) (fun _=>rfl) (fun t ht=>⟨(bits t ht).1,rfl⟩) hp
     | false =>
       refine wpIn_cond_false hb (wpIn_mono (ih _ c2 _ _ _ _ _ (h2 rfl) n0 r n Ds ρ a w hr hn0 hM hA hD) fun e a' w' hp=>?_)
       exact nX.trans (After.refl hM) (fun _=>rfl) (fun t ht=>⟨(bits t ht).2,rfl⟩) hp
   | block id c1 =>
     simp only[mU] at h
     refine wpIn_block (wpIn_mono (ih _ c1 _ _ _ _ _ h n0 r n Ds ρ a w hr hn0 hM hA hD) fun e a' w' hp=>?_)
     obtain⟨x,T1,M1,ρ1,a1,Ds1,rfl,rfl,hds,g,k1,k2,k3,k4⟩:=hp
     cases x with
     | normal=>exact⟨.normal,T1,M1,ρ1,a1,Ds1,rfl,rfl,hds,g,k1,k2,k3,k4⟩
     | ret=>exact⟨.ret,T1,M1,ρ1,a1,Ds1,rfl,rfl,hds,g,k1,k2,k3,k4⟩
     | exit i =>
       simp only at k4
       split at k4
       ·rename_i he
        have he:=aQ he
        subst he
        simp only[vK,Exit.inBlock,if_true]
        exact⟨.normal,T1,M1,ρ1,a1,Ds1,rfl,rfl,hds,g,k1,k2,k3,k4⟩
       ·rename_i he
        have he:=qR he
        simp only[vK,Exit.inBlock,if_neg he]
        exact⟨.exit i,T1,M1,ρ1,a1,Ds1,rfl,rfl,hds,g,k1,k2,k3,k4⟩
   | loop c1=>simp[mU] at h
   | exit id=>exact wpIn_exit (fin (.exit id) _ h)
   | ret=>exact wpIn_ret (fin .ret _ h)
   | rangeFunc g ps assign body =>
     simp only[mU] at h
     split at h
     ·exact h.elim
     ·have hr:=hr rfl
      subst hr
      split at h
      ·rename_i p hp
       have hps:ps = #[p]:=Array.ext' hp
       subst hps
       split at h
       ·exact h.elim
       ·rename_i hb
        refine LJ h hM hA hD hn0 hP ?_
        intro l v u M1 ρ1 W1 next VG hM1 hu hle
        have hA1:bL ρ1 nt (T.set p v) { tmps:=a.tmps.setIfInBounds p u,defers:=[] } := by
         have:=wH (hA.mono hle) (d:=some p) (T':=T.set p v) hu (by simp only[Dr,hb])
         have e:a.put (some p) u = { tmps:=a.tmps.setIfInBounds p u,defers:=[] } := by rw[← hA.defers]; rfl
         rw[e] at this; exact this
        have hD1:uB 0 ρ1 W1 []:=⟨List.nodup_nil,fun _ h=>by cases h⟩
        have:=ih false assign [] _ _ _ _ VG 0 (some l) 0 [] ρ1 _ W1 (fun h=>by cases h) (Nat.zero_le _) hM1 hA1 hD1
        refine wpIn_mono this fun e a' w' hp=>?_
        obtain⟨x,T2,M2,ρ2,a2,Ds2,rfl,rfl,hds,g,k1,k2,k3,k4⟩:=hp
        cases hds rfl
        cases x with
        | normal =>
          refine⟨T2,M2,ρ2,k1,fun W2' hM2=>?_⟩
          refine wpIn_mono (ih false body [] _ _ _ _ k4 0 (some l) 0 [] ρ2 _ W2' (fun h=>by cases h) (Nat.zero_le _) hM2 k2 ⟨List.nodup_nil,fun _ h=>by cases h⟩) fun e a3 w3 hp=>?_
          obtain⟨x,T3,M3,ρ3,a3,Ds3,rfl,rfl,_,_,q1,_,_,q4⟩:=hp
          cases x with
          | normal=>exact⟨rfl,M3,ρ3,q1,q4⟩
          | exit i=>exact q4.elim
          | ret=>exact q4.elim
        | exit i=>exact k4.elim
        | ret=>exact k4.elim
      ·exact h.elim
   | scope c1=>simp[mU] at h
   | label l=>exact wpIn_label (fin .normal _ h)
   | goto=>simp[mU] at h
   | refuse=>simp[mU] at h
theorem Aq {n:Nat} {fn:Func} {tmps:Array Value} {R:Ending→World→Prop} {M0 M:RM} {ρ0 ρ:Ren} {w0:World} (hlo:M0.lo≤w0.heap.size) (hres:∀ w',After P M0 ρ0 w0 M ρ w'→LeavesIn Fence.wide n P fn tmps R [] .returning w') :
  ∀ (Ds:List Nat) (w:World),uB w0.heap.size ρ w Ds→After P M0 ρ0 w0 M ρ w→LeavesInM Fence.wide n P fn tmps R (Ds.map xP) .returning w
 | [],w,_,hA=>hres w hA
 | D :: Ds,w,hD,hA=>by
   obtain⟨h1,h2,h3⟩:=hD.all D (List.mem_cons_self ..)
   refine⟨by simp,.inl ⟨D,_,rfl,run_takeDeferred h2,Aq hlo hres Ds _ ⟨(List.nodup_cons.1 hD.nodup).2,fun D' hD'=>?_⟩ ⟨hA.step.putObj hlo h1 _,hA.rel.putObj _ h3 (by rw[hA.lo]; omega),hA.base,hA.next⟩⟩⟩
   obtain⟨g1,g2,g3⟩:=hD.all D' (List.mem_cons_of_mem _ hD')
   refine⟨g1, ?_,g3⟩
   have hne:D'≠D:=fun e=>(List.nodup_cons.1 hD.nodup).1 (by rw[e] at hD'; exact hD')
   rw[World.putObj_heap_other hne]
   exact g2
def Mq (P:Program) (fn:Func) (c:Code) (args:List AV) (M:RM) (Q:ah) : Prop :=
 mU P (args.length + (fn.ntmps - args.length)) (Cc fn.results.toList) 1000 true c [] 0 (Tree.ofList args 0 .leaf) M
  (fun e T M'=>match e with
   | .exit _=>False
   | _=>MW P T M' fn.results.toList (OD Q M'))
theorem FN (hP:qI P) {f:FuncId} {fn:Func} {c:Code} {args:List AV} {M:RM} {Q:ah} (hfn:P.funcs[f]?=some fn) (hbody:fn.body=some c) (h:Mq P fn c args M Q) : fD P f args M Q:=by
 refine⟨⟨fn,c,hfn,hbody⟩,fun ρ w us hargs hw=>?_⟩
 have hlen:=hargs.length
 have hA:bL ρ (args.length + (fn.ntmps - args.length)) (Tree.ofList args 0 .leaf) { tmps:=⟨us⟩++Array.replicate (fn.ntmps - (⟨us⟩ : Array Value).size) undef,defers:=[] } := by
  refine⟨by simp[hlen],fun t=>?_,rfl⟩
  rw[Tree.gH]
  by_cases ht:t<args.length
  ·rw[if_pos (by omega),Nat.sub_zero]
   obtain⟨u,hu,hv⟩:=hargs.get (n:=t) (x:=args[t]) (by simp[ht])
   rw[List.getElem?_eq_getElem ht]
   simp only[Option.getD_some]
   have:((⟨us⟩ : Array Value)++Array.replicate (fn.ntmps - (⟨us⟩ : Array Value).size) undef).getD t undef=u:=by
    rw[Array.getD_eq_getD_getElem?,Array.getElem?_append_left (by simp; omega)]
    simp[hu]
   rw[this]; exact hv
  ·rw[if_neg (by omega)]
   exact .top _
 refine(callsIn_wide (n:=0)).1 (callsIn_of_wp_marks hfn hbody trivial ?_)
 have:=Qg hP 1000 true c [] 0 _ M _ h w.heap.size none 0 [] ρ _ w (fun _=>rfl) (Nat.le_refl _) hw hA ⟨List.nodup_nil,fun _ h=>by cases h⟩
 refine wpIn_mono this fun e a w' hp=>?_
 obtain⟨x,T',M',ρ',a,Ds,rfl,rfl,_,g,k1,k2,k3,k4⟩:=hp
 have key:(∀ w',bg P ρ' M' w'→∃ vs us,(fn.results.toList.mapM (lJ a.tmps)).run P w'=.ok us w'∧aH ρ' vs us∧OD Q M' vs) →
   LeavesInM Fence.wide 0 P fn a.tmps (fun e w'=>∃ v' v M' ρ',e=.returned v'∧After P M ρ w M' ρ' w'∧ae ρ' v v'∧Q v M') (Ds.map xP) .returning w':=by
  intro hr
  refine Aq hw.GU (fun w2 hA2=>?_) Ds w' g k1
  obtain⟨vs,us,h1,h2,h3⟩:=hr w2 hA2.rel
  have hres:(results fn a.tmps).run P w2=.ok (if h:(⟨us⟩ : Array Value).size=1 then(⟨us⟩ : Array Value)[0] else .tuple ⟨us⟩) w2:=by
   have e:results fn a.tmps=(fn.results.mapM (lJ a.tmps) >>= fun vs=>pure (if h:vs.size=1 then vs[0] else .tuple vs)):=rfl
   rw[e,Array.mapM_eq_mapM_toList]
   simp only[Sem.run_bind,Sem.run_map,h1,Result.andThen_ok,Sem.run_pure]
  refine⟨_,hres, ?_⟩
  cases h2 with
  | nil=>exact⟨_,_,M',ρ',rfl,hA2,.tup _ _ .nil,h3⟩
  | cons x v xs vs2 hv htl =>
    cases htl with
    | nil=>exact⟨_,x,M',ρ',rfl,hA2,hv,h3⟩
    | cons y u ys us2 hu Rz=>exact⟨_,_,M',ρ',rfl,hA2,.tup _ _ (.cons _ _ _ _ hv (.cons _ _ _ _ hu Rz)),h3⟩
 cases x with
 | normal=>exact key fun w' hw'=>nY k2 hw' _ _ k4
 | ret=>exact key fun w' hw'=>nY k2 hw' _ _ k4
 | exit id=>exact k4.elim
def Cz (P:Program) (fn:Func) (args:List AV) (M:RM) (Q:ah) : Prop :=
 match fn.body with
 | some c=>Mq P fn c args M Q
 | none=>False
theorem EZ (hP:qI P) {f:FuncId} {fn:Func} {args:List AV} {M:RM} {Q:ah} (hfn:P.funcs[f]?=some fn) (h:Cz P fn args M Q) : fD P f args M Q:=by
 unfold Cz at h
 split at h
 ·rename_i c hc; exact FN hP hfn hc h
 ·cases h
end
end Go.Ab
