/- Part 4 of the ground of the proofs of this seat (texts R10 to D9). By an AI agent. -/
import Derived.Test.YtlhlnchhaminjaaGreatByt3
import Derived.ChangeShapes
import Derived.OpenShut
import Derived.WideKeyArgs
import GoSem.ClaimJoined
set_option linter.unusedVariables false
set_option linter.unusedSimpArgs false
namespace Go.Ab
open Go Go.RowKit
def RM.cell (M:RM) (b o:Nat) : Option AV:=(M.cells b).bind (·[o]?)
section
variable {M M' : RM} {K:AV→Prop} {KQ:ak}
theorem OW {b o:Nat} {v:AV} : M.loads b o 1=some [v]↔M.cell b o=some v:=by
 unfold RM.loads RM.cell
 cases hc:M.cells b with
 | none=>simp
 | some l =>
   simp only[Option.bind_some]
   constructor
   ·intro h
    split at h
    ·rename_i hlt
     have h1:=Option.some.inj h
     have:((l.drop o).take 1)[0]?=some v:=by rw[h1]; rfl
     rw[List.getElem?_take,if_pos (by omega),List.getElem?_drop] at this
     simpa using this
    ·cases h
   ·intro h
    have hlt:=(List.getElem?_eq_some_iff.1 h).1
    rw[if_pos (by omega)]
    congr 1
    rw[List.drop_eq_getElem_cons hlt]
    simp only[List.take_succ_cons,List.take_zero]
    congr 1
    exact(List.getElem?_eq_some_iff.1 h).2
@[go_sem] theorem gI (b o:Nat) : ai M (.ptr b o) K=∃ v,M.cell b o=some v∧K v:=by
 apply propext; unfold ai
 constructor
 ·rintro⟨b',o',v,h,hl,hk⟩; cases h; exact⟨v,OW.1 hl,hk⟩
 ·rintro⟨v,hl,hk⟩; exact⟨b,o,v,rfl,OW.2 hl,hk⟩
@[go_sem] theorem kV (b o n:Nat) : aF M (.ptr b o) n K=∃ vs,M.loads b o n=some vs∧K (.agg vs):=by
 apply propext; unfold aF
 constructor
 ·rintro⟨b',o',v,h,hl,hk⟩; cases h; exact⟨v,hl,hk⟩
 ·rintro⟨v,hl,hk⟩; exact⟨b,o,v,rfl,hl,hk⟩
@[go_sem] theorem vW (b p:Nat) (x:AV) (n:Nat) (K:RM→Prop) : aC M (.ptr b p) x n K=(x.cells.length=n∧∃ M',M.stores b p x.cells=some M'∧K M'):=by
 apply propext; unfold aC
 constructor
 ·rintro⟨b',o',M',h,h1,h2,hk⟩; cases h; exact⟨h1,M',h2,hk⟩
 ·rintro⟨h1,M',h2,hk⟩; exact⟨b,p,M',rfl,h1,h2,hk⟩
def QE (k:IntKind) (a b:Int) : Int:=k.wrap (BitVec.ofInt k.bits a &&& BitVec.ofInt k.bits b).toNat
def orI (k:IntKind) (a b:Int) : Int:=k.wrap (BitVec.ofInt k.bits a ||| BitVec.ofInt k.bits b).toNat
def Xg (k:IntKind) (a b:Int) : Int:=k.wrap (BitVec.ofInt k.bits a ^^^ BitVec.ofInt k.bits b).toNat
def akj (k:IntKind) (a b:Int) : Int:=k.wrap (BitVec.ofInt k.bits a &&& ~~~BitVec.ofInt k.bits b).toNat
def ab2 (k:IntKind) (a b:Int) : Int:=k.wrap (a * 2 ^ (min b.toNat k.bits))
def P5 (k:IntKind) (a b:Int) : Int:=a.fdiv (2 ^ (min b.toNat k.bits))
section
variable (k:IntKind) (a b:Int)
theorem jq {op:BinOp} {v:Value} (h:Bb op k a b=some v) : ae op (N k a) (N k b) K=K (.sc v):=by
 apply propext; unfold ae
 constructor
 ·rintro⟨k',a',b',u,h1,h2,h3,hk⟩; cases h1; cases h2; rw[h] at h3; cases h3; exact hk
 ·intro hk; exact⟨k,a,b,v,rfl,rfl,h,hk⟩
@[go_sem] theorem bS:ae .add (N k a) (N k b) K=K (N k (k.wrap (a + b))):=jq k a b rfl
@[go_sem] theorem jG:ae .sub (N k a) (N k b) K=K (N k (k.wrap (a - b))):=jq k a b rfl
@[go_sem] theorem uE:ae .mul (N k a) (N k b) K=K (N k (k.wrap (a * b))):=jq k a b rfl
@[go_sem] theorem E8:ae .and (N k a) (N k b) K=K (N k (QE k a b)):=jq k a b rfl
@[go_sem] theorem ajM:ae .or (N k a) (N k b) K=K (N k (orI k a b)):=jq k a b rfl
@[go_sem] theorem uM:ae .xor (N k a) (N k b) K=K (N k (Xg k a b)):=jq k a b rfl
@[go_sem] theorem aru:ae .andNot (N k a) (N k b) K=K (N k (akj k a b)):=jq k a b rfl
@[go_sem] theorem bT:ae .eql (N k a) (N k b) K=K (Bo (a == b)):=jq k a b rfl
@[go_sem] theorem fM:ae .neq (N k a) (N k b) K=K (Bo (a != b)):=jq k a b rfl
@[go_sem] theorem bZ:ae .lss (N k a) (N k b) K=K (Bo (decide (a<b))):=jq k a b rfl
@[go_sem] theorem lF:ae .leq (N k a) (N k b) K=K (Bo (decide (a≤b))):=jq k a b rfl
@[go_sem] theorem dF:ae .gtr (N k a) (N k b) K=K (Bo (decide (a > b))):=jq k a b rfl
@[go_sem] theorem iR:ae .geq (N k a) (N k b) K=K (Bo (decide (a ≥ b))):=jq k a b rfl
@[go_sem] theorem ql:ae .quo (N k a) (N k b) K=(b≠0∧K (N k (k.wrap (a.tdiv b)))):=by
 apply propext; unfold ae Bb
 constructor
 ·rintro⟨k',a',b',u,h1,h2,h3,hk⟩; cases h1; cases h2
  simp only at h3
  split at h3
  ·cases h3
  ·cases h3; exact⟨‹_›,hk⟩
 ·rintro⟨h0,hk⟩; exact⟨k,a,b,_,rfl,rfl,by simp only[if_neg h0],hk⟩
@[go_sem] theorem Nq:ae .rem (N k a) (N k b) K=(b≠0∧K (N k (a.tmod b))):=by
 apply propext; unfold ae Bb
 constructor
 ·rintro⟨k',a',b',u,h1,h2,h3,hk⟩; cases h1; cases h2
  simp only at h3
  split at h3
  ·cases h3
  ·cases h3; exact⟨‹_›,hk⟩
 ·rintro⟨h0,hk⟩; exact⟨k,a,b,_,rfl,rfl,by simp only[if_neg h0],hk⟩
variable (l:IntKind)
@[go_sem] theorem xn:zh .shl (N k a) (N l b) K=(0≤b∧K (N k (ab2 k a b))):=by
 apply propext; unfold zh O6
 constructor
 ·rintro⟨k',a',l',b',u,h1,h2,h3,hk⟩; cases h1; cases h2
  split at h3
  ·cases h3
  ·cases h3; exact⟨by omega,hk⟩
 ·rintro⟨h0,hk⟩; exact⟨k,a,l,b,_,rfl,rfl,by rw[if_neg (by omega)]; rfl,hk⟩
@[go_sem] theorem Ko:zh .shr (N k a) (N l b) K=(0≤b∧K (N k (P5 k a b))):=by
 apply propext; unfold zh O6
 constructor
 ·rintro⟨k',a',l',b',u,h1,h2,h3,hk⟩; cases h1; cases h2
  split at h3
  ·cases h3
  ·cases h3; exact⟨by omega,hk⟩
 ·rintro⟨h0,hk⟩; exact⟨k,a,l,b,_,rfl,rfl,by rw[if_neg (by omega)]; rfl,hk⟩
@[go_sem] theorem ax2 {l:IntKind} {a:Int} {K:AV→Prop} : ZG (N l a) K=K (St (Utf8.encode a).data.toList):=by
 apply propext; unfold ZG
 constructor
 ·rintro⟨l',n,h,hk⟩; cases h; exact hk
 ·intro h; exact⟨_,_,rfl,h⟩
@[go_sem] theorem dY:fG k (N l a) K=K (N k (k.wrap a)):=by
 apply propext; unfold fG
 constructor
 ·rintro⟨l',n,h,hk⟩; cases h; exact hk
 ·intro hk; exact⟨l,a,rfl,hk⟩
@[go_sem] theorem V4 (mx:Bool) : MR mx (N k a) (N k b) K=K (N k (if mx then(if b > a then b else a) else(if b<a then b else a))):=by
 apply propext; unfold MR
 constructor
 ·rintro⟨k',a',b',h1,h2,hk⟩; cases h1; cases h2; exact hk
 ·intro hk; exact⟨k,a,b,rfl,rfl,hk⟩
@[go_sem] theorem ayd:ahx (N k a) K=K (N k (k.wrap (0 - a))):=by
 apply propext; unfold ahx
 constructor
 ·rintro⟨k',a',h1,hk⟩; cases h1; exact hk
 ·intro hk; exact⟨k,a,rfl,hk⟩
end
@[go_sem] theorem aY (b:Bool) : dG (Bo b) K=K (Bo (!b)):=by
 apply propext; unfold dG
 constructor
 ·rintro⟨b',h,hk⟩; cases h; exact hk
 ·intro hk; exact⟨b,rfl,hk⟩
@[go_sem] theorem atI (neg a b:Bool) : Ka neg (Bo a) (Bo b) K=K (Bo ((a == b) != neg)):=by
 apply propext; unfold Ka
 constructor
 ·rintro⟨a',b',h,h',hk⟩; cases h; cases h'; exact hk
 ·intro hk; exact⟨a,b,rfl,rfl,hk⟩
@[go_sem] theorem Xz (t:Bool) (a b:AV) : aH (Bo t) a b K=K (if t then a else b):=by
 apply propext; unfold aH
 constructor
 ·rintro⟨t',h,hk⟩; cases h; exact hk
 ·intro hk; exact⟨t,rfl,hk⟩
@[go_sem] theorem Wu (b:Bool) (p q:Prop) : az (Bo b) p q=((b=true→p)∧(b=false→q)):=rfl
@[go_sem] theorem auD {α:Type} (b want:Bool) (f g:α→Prop) (k:α) : nJ (Bo b) want f g k=if b=want then f k else g k:=rfl
@[go_sem] theorem apw {α:Type} (want:Bool) (f g:α→Prop) (k:α) : nJ .undef want f g k=g k:=rfl
@[go_sem] theorem aI (b o:Nat) : bF (.ptr b o) K=K (.ptr b o):=by
 apply propext; unfold bF
 constructor
 ·rintro⟨b',o',h,hk⟩; cases h; exact hk
 ·intro hk; exact⟨b,o,rfl,hk⟩
@[go_sem] theorem aO (b o n:Nat) : aB (.ptr b o) n K=K (.ptr b (o + n)):=by
 apply propext; unfold aB
 constructor
 ·rintro⟨b',o',h,hk⟩; cases h; exact hk
 ·intro hk; exact⟨b,o,rfl,hk⟩
@[go_sem] theorem qo (b p len:Nat) (cap:Cap) (k:IntKind) (n:Int) (size:Nat) : aA (.slc b p len cap) (N k n) size K=(0≤n∧n<len∧K (.ptr b (p + n.toNat * size))):=by
 apply propext; unfold aA
 constructor
 ·rintro⟨b',p',l',c',k',n',h,h',h0,h1,hk⟩; cases h; cases h'; exact⟨h0,h1,hk⟩
 ·rintro⟨h0,h1,hk⟩; exact⟨b,p,len,cap,k,n,rfl,rfl,h0,h1,hk⟩
@[go_sem] theorem xg (b p:Nat) (k:IntKind) (n:Int) (len size:Nat) : GD (.ptr b p) (N k n) len size K=(0≤n∧n<len∧K (.ptr b (p + n.toNat * size))):=by
 apply propext; unfold GD
 constructor
 ·rintro⟨b',p',k',n',h,h',h0,h1,hk⟩; cases h; cases h'; exact⟨h0,h1,hk⟩
 ·rintro⟨h0,h1,hk⟩; exact⟨b,p,k,n,rfl,rfl,h0,h1,hk⟩
@[go_sem] theorem aun (cs:List AV) (off:Nat) : aay (.agg cs) off K=∃ v,cs[off]?=some v∧K v:=by
 apply propext; unfold aay
 constructor
 ·rintro⟨cs',v,h,h1,hk⟩; cases h; exact⟨v,h1,hk⟩
 ·rintro⟨v,h1,hk⟩; exact⟨cs,v,rfl,h1,hk⟩
@[go_sem] theorem aut (cs:List AV) (off n:Nat) : ZB (.agg cs) off n K=(off + n≤cs.length∧K (.agg ((cs.drop off).take n))):=by
 apply propext; unfold ZB
 constructor
 ·rintro⟨cs',h,h1,hk⟩; cases h; exact⟨h1,hk⟩
 ·rintro⟨h1,hk⟩; exact⟨cs,rfl,h1,hk⟩
@[go_sem] theorem aup (cs:List AV) (k:IntKind) (n:Int) (len:Nat) : aaC (.agg cs) (N k n) len K=(0≤n∧n<len∧∃ v,cs[n.toNat]?=some v∧K v):=by
 apply propext; unfold aaC
 constructor
 ·rintro⟨cs',k',n',v,h,h',h0,h1,h2,hk⟩; cases h; cases h'; exact⟨h0,h1,v,h2,hk⟩
 ·rintro⟨h0,h1,v,h2,hk⟩; exact⟨cs,k,n,v,rfl,rfl,h0,h1,h2,hk⟩
@[go_sem] theorem I7 (cs:List AV) (k:IntKind) (n:Int) (len size:Nat) : Kb (.agg cs) (N k n) len size K=(0≤n∧n<len∧n.toNat * size + size≤cs.length∧K (.agg ((cs.drop (n.toNat * size)).take size))):=by
 apply propext; unfold Kb
 constructor
 ·rintro⟨cs',k',n',h,h',h0,h1,h2,hk⟩; cases h; cases h'; exact⟨h0,h1,h2,hk⟩
 ·rintro⟨h0,h1,h2,hk⟩; exact⟨cs,k,n,rfl,rfl,h0,h1,h2,hk⟩
@[go_sem] theorem aje (s:List UInt8) (k:IntKind) (n:Int) : WR (St s) (N k n) K=(0≤n∧∃ b,s[n.toNat]?=some b∧K (N .u8 b.toNat)):=by
 apply propext; unfold WR
 constructor
 ·rintro⟨s',k',n',b,h,h',h0,h1,hk⟩; cases h; cases h'; exact⟨h0,b,h1,hk⟩
 ·rintro⟨h0,b,h1,hk⟩; exact⟨s,k,n,b,rfl,rfl,h0,h1,hk⟩
@[go_sem] theorem Mc (vs:List AV) (i:Nat) : bV (.tup vs) i K=∃ v,vs[i]?=some v∧K v:=by
 apply propext; unfold bV
 constructor
 ·rintro⟨cs',v,h,h1,hk⟩; cases h; exact⟨v,h1,hk⟩
 ·rintro⟨v,h1,hk⟩; exact⟨vs,v,rfl,h1,hk⟩
@[go_sem] theorem dN (v:AV) : iE (some v) K=K v:=by
 apply propext; unfold iE
 constructor
 ·rintro⟨v',h,hk⟩; cases h; exact hk
 ·intro hk; exact⟨v,rfl,hk⟩
@[go_sem] theorem oC (b o n:Nat) (c:Cap) : dh (.slc b o n c) K=K (N .i64 n):=by
 apply propext; unfold dh
 constructor
 ·rintro⟨n',h,hk⟩; cases h; exact hk
 ·intro hk; exact⟨n,rfl,hk⟩
@[go_sem] theorem agd (b:Nat) : dh (.emp b) K=K (N .i64 0):=by
 apply propext; unfold dh
 constructor
 ·rintro⟨n',h,hk⟩; cases h; exact hk
 ·intro hk; exact⟨0,rfl,hk⟩
@[go_sem] theorem MI:dh (.sc (.slice none 0 0)) K=K (N .i64 0):=by
 apply propext; unfold dh
 constructor
 ·rintro⟨n',h,hk⟩; cases h; exact hk
 ·intro hk; exact⟨0,rfl,hk⟩
@[go_sem] theorem mh (s:List UInt8) : oO (St s) K=K (N .i64 s.length):=by
 apply propext; unfold oO
 constructor
 ·rintro⟨s',h,hk⟩; cases h; exact hk
 ·intro hk; exact⟨s,rfl,hk⟩
@[go_sem] theorem ajs (b o n c:Nat) : Db (.slc b o n (.ex c)) K=K (N .i64 c):=by
 apply propext; unfold Db
 constructor
 ·rintro⟨n',h,hk⟩; cases h; exact hk
 ·intro hk; exact⟨c,rfl,hk⟩
@[go_sem] theorem axS:Db (.sc (.slice none 0 0)) K=K (N .i64 0):=by
 apply propext; unfold Db
 constructor
 ·rintro⟨n',h,hk⟩; cases h; exact hk
 ·intro hk; exact⟨0,rfl,hk⟩
@[go_sem] theorem axp (s:List UInt8) : isStr (St s) K=K (St s):=by
 apply propext; unfold isStr
 constructor
 ·rintro⟨s',h,hk⟩; cases h; exact hk
 ·intro hk; exact⟨s,rfl,hk⟩
@[go_sem] theorem X3 {x:AV} {s:List UInt8} (h:Fw M x=some s) : jY M x K=K (St s):=by
 apply propext; unfold jY
 constructor
 ·rintro⟨s',h',hk⟩; rw[h] at h'; cases h'; exact hk
 ·intro hk; exact⟨s,h,hk⟩
theorem uY {op:BinOp} {a b:List UInt8} {v:AV} (h:Gl op a b=some v) : kg op (St a) (St b) K=K v:=by
 apply propext; unfold kg
 constructor
 ·rintro⟨a',b',u,h1,h2,h3,hk⟩; cases h1; cases h2; rw[h] at h3; cases h3; exact hk
 ·intro hk; exact⟨a,b,v,rfl,rfl,h,hk⟩
@[go_sem] theorem qV (a b:List UInt8) : kg .eql (St a) (St b) K=K (Bo (a == b)):=by rw[← kQ]; exact uY rfl
@[go_sem] theorem uN (a b:List UInt8) : kg .neq (St a) (St b) K=K (Bo (a != b)):=by rw[bne,← kQ]; exact uY rfl
@[go_sem] theorem aft (a b:List UInt8) : kg .lss (St a) (St b) K=K (Bo (Op.bytesLess a b)):=uY rfl
@[go_sem] theorem awJ (a b:List UInt8) : kg .leq (St a) (St b) K=K (Bo (Op.bytesLess a b || a == b)):=by rw[← kQ]; exact uY rfl
@[go_sem] theorem ae9 (a b:List UInt8) : kg .gtr (St a) (St b) K=K (Bo (!(Op.bytesLess a b || a == b))):=by rw[← kQ]; exact uY rfl
@[go_sem] theorem axQ (a b:List UInt8) : kg .geq (St a) (St b) K=K (Bo (!Op.bytesLess a b)):=uY rfl
@[go_sem] theorem au2 (a b:List UInt8) : kg .add (St a) (St b) K=(a.length + b.length≤9223372036854775807∧K (St (a++b))):=by
 apply propext; unfold kg
 constructor
 ·rintro⟨a',b',u,h1,h2,h3,hk⟩; cases h1; cases h2
  simp only[Gl] at h3
  split at h3
  ·rename_i hb; cases h3; exact⟨bL hb,hk⟩
  ·cases h3
 ·rintro⟨h0,hk⟩; exact⟨a,b,_,rfl,rfl,by simp only[Gl,bH.2 h0],hk⟩
theorem og {neg:Bool} {tag:Nat} {x y:AV} {r:Bool} (ht:Tv x=tag) (h:Kr x y=some r) : jJ neg tag x y K=K (Bo (r != neg)):=by
 apply propext; unfold jJ
 constructor
 ·rintro⟨_,r',h',hk⟩; rw[h] at h'; cases h'; exact hk
 ·intro hk; exact⟨ht,r,h,hk⟩
@[go_sem] theorem Rq (neg:Bool) : jJ neg 2 (.sc (.slice none 0 0)) (.sc (.slice none 0 0)) K=K (Bo (!neg)):=(og (tag:=2) (r:=true) rfl rfl).trans (by cases neg <;> rfl)
@[go_sem] theorem Rc (neg:Bool) (b:Nat) : jJ neg 2 (.emp b) (.sc (.slice none 0 0)) K=K (Bo neg):=(og (tag:=2) (r:=false) rfl rfl).trans (by cases neg <;> rfl)
@[go_sem] theorem PW (neg:Bool) (b o n:Nat) (c:Cap) : jJ neg 2 (.slc b o n c) (.sc (.slice none 0 0)) K=K (Bo neg):=(og (tag:=2) (r:=false) rfl rfl).trans (by cases neg <;> rfl)
@[go_sem] theorem ajb (neg:Bool) (b o:Nat) : jJ neg 1 (.ptr b o) (.sc (.pointer none)) K=K (Bo neg):=(og (tag:=1) (r:=false) rfl rfl).trans (by cases neg <;> rfl)
@[go_sem] theorem iq (neg:Bool) : jJ neg 1 (.sc (.pointer none)) (.sc (.pointer none)) K=K (Bo (!neg)):=(og (tag:=1) (r:=true) rfl rfl).trans (by cases neg <;> rfl)
@[go_sem] theorem ai2 (neg:Bool) (b:Nat) : jJ neg 3 (.map b) (.sc (.map none)) K=K (Bo neg):=(og (tag:=3) (r:=false) rfl rfl).trans (by cases neg <;> rfl)
@[go_sem] theorem akk (neg:Bool) (f:Fn) (xs ys:List AV) : jJ neg 4 (.fn f xs ys) (.sc .nilFunc) K=K (Bo neg):=(og (tag:=4) (r:=false) rfl rfl).trans (by cases neg <;> rfl)
@[go_sem] theorem aaO (neg:Bool) (ks:List Nat) (cs ds:List AV) : oU neg ks (.agg cs) (.agg ds) K=(cs.length=ks.length∧ds.length=ks.length∧∃ r,dX ks cs ds=some r∧K (Bo (r != neg))):=by
 apply propext; unfold oU
 constructor
 ·rintro⟨a',b',r,h1,h2,h3,h4,h5,hk⟩; cases h1; cases h2; exact⟨h3,h4,r,h5,hk⟩
 ·rintro⟨h3,h4,r,h5,hk⟩; exact⟨cs,ds,r,rfl,rfl,h3,h4,h5,hk⟩
@[go_sem] theorem av7 (C:FuncId→au) (g:FuncId) (first cap args:List AV) : gq C (.fn (.func g) first cap) args M KQ=C g (first++args++cap) M KQ:=by
 apply propext; unfold gq
 constructor
 ·rintro⟨g',f',c',h,hk⟩; cases h; exact hk
 ·intro hk; exact⟨g,first,cap,rfl,hk⟩
@[go_sem] theorem eY (cs:List AV) (parts:List (Nat × Nat × AV)) : iM cs parts K=∃ cs',wN cs parts=some cs'∧K (.agg cs'):=rfl
@[go_sem] theorem bn (x:RB) (mk:Nat→AV) : dx x mk M KQ=KQ (mk M.next) (M.push x):=rfl
@[go_sem] theorem pF (x:RB) (mk:Nat→AV) (k:KR) : wB x mk M k=k (mk M.next) (M.push x) (some M.next):=rfl
@[go_sem] theorem ul (f:(List AV→RM→Prop)→Prop) (g:List AV→RM→Prop) : ek f g=f g:=rfl
@[go_sem] theorem auJ (x:AV) (xs:List AV) : aa (x :: xs) 0=x:=rfl
@[go_sem] theorem auw (x:AV) (xs:List AV) (n:Nat) : aa (x :: xs) (n + 1)=aa xs n:=rfl
@[go_sem] theorem abz (b:Nat) (x:RB) (mk:Nat→AV) (v:AV) : zm (some b) M x mk v=(M.heap b=some x∧mk b=v):=rfl
end
theorem acA {body:(List AV→RM→Prop)→List AV→RM→Prop} {xs:List AV} {M:RM} (I:Nat→List AV→RM→Prop) (n:Nat) (h0:I n xs M)
  (hb:∀ m ys M',I m ys M'→body (fun zs M''=>∃ m',m'<m∧I m' zs M'') ys M') : bu body xs M:=⟨I,n,h0,hb⟩
section
variable {M M' : RM}
theorem RM.Ca {b:Nat} {l:List AV} {opn:Bool} {el fz:Nat} (h:M.heap b=some (.row l opn el fz)) : M.cells b=some l:=by simp[RM.cells,h]
theorem RM.aeZ {b o:Nat} {l:List AV} {opn:Bool} {el fz:Nat} (h:M.heap b=some (.row l opn el fz)) : M.cell b o=l[o]?:=by simp[RM.cell,RM.Ca h]
theorem RM.dO {b o k:Nat} {l:List AV} {opn:Bool} {el fz:Nat} (h:M.heap b=some (.row l opn el fz)) (hk:o + k≤l.length) : M.loads b o k=some ((l.drop o).take k):=by
 simp[RM.loads,RM.Ca h,hk]
theorem RM.Gb {b o:Nat} {l vs:List AV} {opn:Bool} {el fz:Nat} (h:M.heap b=some (.row l opn el fz)) (h1:o + vs.length≤l.length) (h2:fz≤o) (h3:vs.all oneCell=true) :
  M.stores b o vs=some (M.put b (.row (l.take o++vs++l.drop (o + vs.length)) opn el fz)):=by
 simp only[RM.stores,h]
 rw[if_pos ⟨h1,h2,h3⟩]
structure ag (bs:List Nat) (M M' : RM) : Prop where
 base:M'.base=M.base
 next:M.next≤M'.next
 heap:∀ c,c<M.next→c ∉ bs→M'.heap c=M.heap c
theorem ag.refl (bs:List Nat) (M:RM) : ag bs M M:=⟨rfl,Nat.le_refl _,fun _ _ _=>rfl⟩
theorem ag.trans {bs:List Nat} {M1 M2:RM} (h:ag bs M M1) (k:ag bs M1 M2) : ag bs M M2 :=
 ⟨k.base.trans h.base,Nat.le_trans h.next k.next,fun c hc hb=>(k.heap c (Nat.lt_of_lt_of_le hc h.next) hb).trans (h.heap c hc hb)⟩
theorem ag.push {bs:List Nat} (h:ag bs M M') (x:RB) : ag bs M (M'.push x) :=
 ⟨h.base,Nat.le_succ_of_le h.next,fun c hc hb=>by
  have:=h.next
  simp only[RM.push]; rw[if_neg (by omega)]; exact h.heap c hc hb⟩
theorem ag.put {bs:List Nat} (h:ag bs M M') {b:Nat} (x:RB) (hb:M.next≤b∨b∈bs) : ag bs M (M'.put b x) :=
 ⟨h.base,h.next,fun c hc hcb=>by
  simp only[RM.put]; rw[if_neg]
  ·exact h.heap c hc hcb
  ·rintro rfl; rcases hb with hb | hb
   ·omega
   ·exact hcb hb⟩
theorem ag.del {bs:List Nat} (h:ag bs M M') {b:Nat} (hb:M.next≤b∨b∈bs) : ag bs M (M'.del b) :=
 ⟨h.base,h.next,fun c hc hcb=>by
  simp only[RM.del]; rw[if_neg]
  ·exact h.heap c hc hcb
  ·rintro rfl; rcases hb with hb | hb
   ·omega
   ·exact hcb hb⟩
theorem ag.mono {bs cs:List Nat} (h:ag bs M M') (hs:∀ b∈bs,b∈cs) : ag cs M M':=⟨h.base,h.next,fun c hc hb=>h.heap c hc fun h=>hb (hs c h)⟩
theorem ag.bG {bs:List Nat} {M1 M2:RM} {cs:List Nat} (h:ag bs M M1) (k:ag cs M1 M2) (hn:∀ c∈cs,M.next≤c∨c∈bs) : ag bs M M2 :=
 ⟨k.base.trans h.base,Nat.le_trans h.next k.next,fun c hc hb=>by
  rw[k.heap c (Nat.lt_of_lt_of_le hc h.next) (fun hm=>by rcases hn c hm with h1 | h1; omega; exact hb h1),h.heap c hc hb]⟩
theorem ag.cells {bs:List Nat} (h:ag bs M M') {b:Nat} (hlt:b<M.next) (hb:b ∉ bs) : M'.cells b=M.cells b:=by
 simp only[RM.cells,h.heap b hlt hb,RM.lo,h.base]
theorem ag.cell {bs:List Nat} (h:ag bs M M') {b o:Nat} (hlt:b<M.next) (hb:b ∉ bs) : M'.cell b o=M.cell b o:=by
 simp only[RM.cell,h.cells hlt hb]
theorem ag.loads {bs:List Nat} (h:ag bs M M') {b o k:Nat} (hlt:b<M.next) (hb:b ∉ bs) : M'.loads b o k=M.loads b o k:=by
 simp only[RM.loads,h.cells hlt hb]
@[go_sem] theorem RM.auG (x:RB) : (M.push x).next=M.next + 1:=rfl
@[go_sem] theorem RM.axD (b:Nat) (x:RB) : (M.put b x).next=M.next:=rfl
@[go_sem] theorem RM.awE (b:Nat) : (M.del b).next=M.next:=rfl
@[go_sem] theorem RM.aT (x:RB) : (M.push x).heap M.next=some x:=by simp[RM.push]
theorem RM.ae1 {x:RB} {c:Nat} (h:c≠M.next) : (M.push x).heap c=M.heap c:=by simp[RM.push,h]
@[go_sem] theorem RM.xB (b:Nat) (x:RB) : (M.put b x).heap b=some x:=by simp[RM.put]
end
abbrev aZ:AV:=.sc (.slice none 0 0)
inductive aL (M:RM) (size:Nat) : AV→List AV→Nat→Prop
 | nil:aL M size aZ [] 0
 | emp (b:Nat) : aL M size (.emp b) [] 0
 | slc (b o n:Nat) (cap:Cap) (cs:List AV) : b<M.next→M.loads b o (n * size)=some cs→aL M size (.slc b o n cap) cs n
section
variable {M M' : RM} {size:Nat} {v:AV} {cs:List AV} {n:Nat}
theorem Ir {b o k:Nat} {cs:List AV} (h:M.loads b o k=some cs) : cs.length=k:=by
 unfold RM.loads at h
 split at h <;> first | (cases h; done) | skip
 split at h <;> first | (cases h; done) | skip
 rename_i hle
 have:=Option.some.inj h
 rw[← this,List.length_take,List.length_drop]; omega
theorem adY {b o k:Nat} {cs:List AV} (h:M.loads b o k=some cs) (i:Nat) (hi:i<k) : M.cell b (o + i)=cs[i]?:=by
 unfold RM.loads at h
 unfold RM.cell
 split at h <;> first | (cases h; done) | skip
 rename_i l hl
 split at h <;> first | (cases h; done) | skip
 cases h
 simp only[hl,Option.bind_some]
 rw[List.getElem?_take,if_pos hi,List.getElem?_drop]
theorem pQ {b o k:Nat} {cs:List AV} (h:M.loads b o k=some cs) (i j:Nat) (hij:i + j≤k) : M.loads b (o + i) j=some ((cs.drop i).take j):=by
 unfold RM.loads at h ⊢
 cases hl:M.cells b with
 | none=>rw[hl] at h; cases h
 | some l =>
   rw[hl] at h
   simp only at h ⊢
   split at h
   ·rename_i hle
    have h:=Option.some.inj h
    subst h
    rw[if_pos (by omega),List.drop_take,List.drop_drop,List.take_take]
    congr 2
    omega
   ·cases h
theorem Pp {b o:Nat} {l:List AV} (h:M.cells b=some l) (ho:o≤l.length) : M.loads b o 0=some []:=by
 simp[RM.loads,h,ho]
theorem aL.length (h:aL M size v cs n) : cs.length=n * size:=by
 cases h with
 | nil=>exact(Nat.zero_mul _).symm
 | emp=>exact(Nat.zero_mul _).symm
 | slc b o n cap cs hb0 hl=>exact Ir hl
theorem aL.len (h:aL M size v cs n) {K:AV→Prop} : dh v K=K (N .i64 n):=by
 cases h with
 | nil=>exact MI
 | emp b=>exact agd b
 | slc b o n cap cs hb0 hl=>exact oC b o n cap
theorem aL.nZ (h:aL M size v cs n) (zs:List AV) : nZ M size zs false v=some (n,cs):=by
 cases h with
 | nil=>rfl
 | emp b=>rfl
 | slc b o n cap cs hb0 hl=>simp only[Go.Ab.nZ,hl]
theorem aL.pos (h:aL M size v cs n) (hn:0<n) : ∃ b o cap,v=.slc b o n cap∧b<M.next∧M.loads b o (n * size)=some cs:=by
 cases h with
 | nil=>omega
 | emp b=>omega
 | slc b o n cap cs hb0 hl=>exact⟨b,o,cap,rfl,hb0,hl⟩
theorem aL.Fw (h:aL M 1 v cs n) {l:List UInt8} (hb:eQ byteOf cs=some l) : Fw M v=some l:=by
 cases h with
 | nil=>simp[eQ] at hb; subst hb; rfl
 | emp b=>simp[eQ] at hb; subst hb; rfl
 | slc b o n cap cs hb0 hl =>
   rw[Nat.mul_one] at hl
   simp only[Go.Ab.Fw,hl]; exact hb
def aG:AV→List Nat
 | .slc b _ _ _=>[b]
 | _=>[]
theorem aL.keep {bs:List Nat} (h:aL M size v cs n) (hk:ag bs M M') (hb:∀ b∈aG v,b ∉ bs) : aL M' size v cs n:=by
 cases h with
 | nil=>exact .nil
 | emp b=>exact .emp b
 | slc b o n cap cs hb0 hl =>
   exact .slc b o n cap cs (Nat.lt_of_lt_of_le hb0 hk.next) (by rw[hk.loads hb0 (hb b (by simp[aG]))]; exact hl)
inductive Own (M:RM) (base el size:Nat) : AV→List AV→Nat→Prop
 | nil:Own M base el size aZ [] 0
 | ex0 (b o:Nat) : base≤b→b<M.next→(∃ l,M.cells b=some l∧o≤l.length)→Own M base el size (.slc b o 0 (.ex 0)) [] 0
 | op (b n:Nat) (cs:List AV) : base≤b→b<M.next→M.heap b=some (.row cs true el 0)→cs.length=n * size→Own M base el size (.slc b 0 n (.op size)) cs n
theorem Own.jm {base el:Nat} (h:Own M base el size v cs n) : aL M size v cs n:=by
 cases h with
 | nil=>exact .nil
 | ex0 b o hb hlt hc =>
   obtain⟨l,hl,ho⟩:=hc
   exact .slc b o 0 _ [] hlt (by rw[Nat.zero_mul]; exact Pp hl ho)
 | op b n cs hb hlt hh hl =>
   refine .slc b 0 n _ cs hlt ?_
   rw[RM.dO hh (by omega)]
   simp[← hl]
theorem Own.blk {base el:Nat} (h:Own M base el size v cs n) : ∀ b∈aG v,base≤b∧b<M.next:=by
 cases h with
 | nil=>intro b hb; simp[aG] at hb
 | ex0 b o hb hlt hc=>intro c hc; simp[aG] at hc; subst hc; exact⟨hb,hlt⟩
 | op b n cs hb hlt hh hl=>intro c hc; simp[aG] at hc; subst hc; exact⟨hb,hlt⟩
theorem Own.keep {base el:Nat} {bs:List Nat} (h:Own M base el size v cs n) (hk:ag bs M M') (hb:∀ b∈aG v,b ∉ bs) : Own M' base el size v cs n:=by
 cases h with
 | nil=>exact .nil
 | ex0 b o h1 hlt hc=>exact .ex0 b o h1 (Nat.lt_of_lt_of_le hlt hk.next) (by rw[hk.cells hlt (hb b (by simp[aG]))]; exact hc)
 | op b n cs h1 hlt hh hl=>exact .op b n cs h1 (Nat.lt_of_lt_of_le hlt hk.next) (by rw[hk.heap b hlt (hb b (by simp[aG]))]; exact hh) hl
theorem Own.mono {base base' el:Nat} (h:Own M base el size v cs n) (hb:base'≤base) : Own M base' el size v cs n:=by
 cases h with
 | nil=>exact .nil
 | ex0 b o h1 hlt hc=>exact .ex0 b o (Nat.le_trans hb h1) hlt hc
 | op b n cs h1 hlt hh hl=>exact .op b n cs (Nat.le_trans hb h1) hlt hh hl
theorem vg {base el bytes:Nat} {zs:List AV} {zeros:Bool} {x:AV} {m:Nat} {ds:List AV} {K:ak} (h:Own M base el size v cs n) (hbase:base≤M.next) (hs:1≤size) (hx:nZ M size zs zeros x=some (m,ds)) (hd:ds.length=m * size)
  (h1:ds.all oneCell=true) (hb:(n + m) * bytes≤140737488355328) (hb2:n + m≤140737488355328)
  (hK:∀ v' M',Own M' base el size v' (cs++ds) (n + m)→ag (aG v) M M'→M.next≤M'.next→(v'=v∨∀ b∈aG v',M.next≤b)→K v' M') : appW el size bytes zs zeros v x M K:=by
 have hmb:m * bytes≤140737488355328:=Nat.le_trans (Nat.mul_le_mul_right _ (by omega)) hb
 refine⟨m,ds,hx,hmb,by omega, ?_⟩
 cases h with
 | nil =>
   by_cases hm:m=0
   ·subst hm
    have:ds=[]:=List.eq_nil_of_length_eq_zero (by simpa using hd)
    subst this
    exact⟨aZ,M,by simp[pV],hK _ _ .nil (ag.refl _ _) (Nat.le_refl _) (.inl rfl)⟩
   ·refine⟨.slc M.next 0 m (.op size),M.push (.row ds true el 0),by simp only[pV,if_neg hm,h1,if_true],hK _ _ ?_ ((ag.refl _ _).push _) (by simp[RM.push]) (.inr fun b hb=>by simp[aG] at hb; omega)⟩
    simp only[List.nil_append,Nat.zero_add]
    exact .op _ _ _ hbase (by simp[RM.push]) (RM.aT _) hd
 | ex0 b o hb0 hlt hc =>
   obtain⟨l,hl,ho⟩:=hc
   by_cases hm:m=0
   ·subst hm
    have:ds=[]:=List.eq_nil_of_length_eq_zero (by simpa using hd)
    subst this
    exact⟨_,M,by simp[pV],hK _ _ (.ex0 b o hb0 hlt ⟨l,hl,ho⟩) (ag.refl _ _) (Nat.le_refl _) (.inl rfl)⟩
   ·refine⟨.slc M.next 0 m (.op size),M.push (.row ds true el 0), ?_,hK _ _ ?_ ((ag.refl _ _).push _) (by simp[RM.push]) (.inr fun b hb=>by simp[aG] at hb; omega)⟩
    ·have hl0:M.loads b o (0 * size)=some []:=by rw[Nat.zero_mul]; exact Pp hl ho
     simp only[pV,if_neg hm]
     rw[if_neg (by omega),hl0]
     simp only[Nat.zero_add,List.nil_append]
     rw[if_pos ⟨hmb,by omega,h1⟩]
    ·simp only[List.nil_append,Nat.zero_add]
     exact .op _ _ _ hbase (by simp[RM.push]) (RM.aT _) hd
 | op b n cs hb0 hlt hh hl =>
   by_cases hm:m=0
   ·subst hm
    have:ds=[]:=List.eq_nil_of_length_eq_zero (by simpa using hd)
    subst this
    exact⟨_,M,by simp[pV],hK _ _ (by simpa using .op b n cs hb0 hlt hh hl) (ag.refl _ _) (Nat.le_refl _) (.inl rfl)⟩
   ·have hpos:1≤m * size:=Nat.mul_pos (by omega) hs
    have hsum:(n + m) * size=n * size + m * size:=Nat.add_mul _ _ _
    refine⟨.slc M.next 0 (n + m) (.op size),(M.del b).push (.row (cs++ds) true el 0), ?_,hK _ _ ?_ (((ag.refl _ _).del (.inr (by simp[aG]))).push _) (by simp[RM.push,RM.del]) (.inr fun b hb=>by simp[aG] at hb; omega)⟩
    ·simp only[pV,if_neg hm,hh,and_self,if_true]
     rw[if_neg (by omega),if_pos ⟨trivial,hb,hb2,trivial,hl,Nat.zero_le _,h1⟩]
    ·exact .op _ _ _ (show base≤M.next from hbase) (by simp[RM.push,RM.del]) (by simp[RM.push,RM.del]) (by rw[List.length_append,hl,hd,hsum])
theorem aL.Kr (h:aL M size v cs n) (neg:Bool) : (v=aZ∧∀ K:AV→Prop,jJ neg 2 v aZ K=K (Bo (!neg)))∨(v≠aZ∧∀ K:AV→Prop,jJ neg 2 v aZ K=K (Bo neg)):=by
 cases h with
 | nil=>exact .inl ⟨rfl,fun _=>Rq neg⟩
 | emp b=>exact .inr ⟨by(intro h; cases h),fun _=>Rc neg b⟩
 | slc b o n cap cs hb0 hl=>exact .inr ⟨by(intro h; cases h),fun _=>PW neg b o n cap⟩
theorem Own.lit {base el T:Nat} (M:RM) (h:base≤M.next) : Own (M.push (.row [] false T 0)) base el size (.slc M.next 0 0 (.ex 0)) [] 0 :=
 .ex0 _ _ h (by simp[RM.push]) ⟨[],by simp[RM.cells,RM.push],Nat.le_refl _⟩
end
end Go.Ab
set_option maxRecDepth 4000
namespace Go.Ab
open Go
theorem wrap_u8 (n:Nat) : IntKind.wrap .u8 (n:Int)=((n % 256:Nat) : Int):=by
 simp only[IntKind.wrap,IntKind.bits,IntKind.signed,IntKind.max,IntKind.min]
 simp
theorem wrap_u64 (n:Nat) : IntKind.wrap .u64 (n:Int)=((n % 18446744073709551616:Nat) : Int):=by
 simp only[IntKind.wrap,IntKind.bits,IntKind.signed,IntKind.max,IntKind.min]
 simp
theorem GY {n:Int} (h0:0≤n) (h:n<256) : IntKind.wrap .u8 n=n:=by
 obtain⟨m,rfl⟩:=Int.eq_ofNat_of_zero_le h0
 rw[wrap_u8,Nat.mod_eq_of_lt (by omega)]
theorem dw {n:Int} (h0:0≤n) (h:n<18446744073709551616) : IntKind.wrap .u64 n=n:=by
 obtain⟨m,rfl⟩:=Int.eq_ofNat_of_zero_le h0
 rw[wrap_u64,Nat.mod_eq_of_lt (by omega)]
theorem bB {n:Int} (h0 : -9223372036854775808≤n) (h:n<9223372036854775808) : IntKind.wrap .i64 n=n:=by
 rw[IntKind.wrap_i64]; omega
theorem ala (k:Nat) (a b:Nat) : (BitVec.ofInt k (a:Int) ||| BitVec.ofInt k (b:Int)).toNat=(a ||| b) % 2 ^ k:=by
 rw[BitVec.toNat_or,BitVec.ofInt_natCast,BitVec.ofInt_natCast,BitVec.toNat_ofNat,BitVec.toNat_ofNat,← Nat.or_mod_two_pow]
theorem aiT (k:Nat) (a b:Nat) : (BitVec.ofInt k (a:Int) &&& BitVec.ofInt k (b:Int)).toNat=(a &&& b) % 2 ^ k:=by
 rw[BitVec.toNat_and,BitVec.ofInt_natCast,BitVec.ofInt_natCast,BitVec.toNat_ofNat,BitVec.toNat_ofNat,← Nat.and_mod_two_pow]
theorem ajB (k:Nat) (a b:Nat) : (BitVec.ofInt k (a:Int) ^^^ BitVec.ofInt k (b:Int)).toNat=(a ^^^ b) % 2 ^ k:=by
 rw[BitVec.toNat_xor,BitVec.ofInt_natCast,BitVec.ofInt_natCast,BitVec.toNat_ofNat,BitVec.toNat_ofNat,← Nat.xor_mod_two_pow]
theorem ae3 (a b:Nat) : ((a:Int).fdiv (b:Int))=((a / b:Nat) : Int):=by
 rw[Int.fdiv_eq_ediv_of_nonneg _ (by omega)]; rfl
def qI:IntKind→Nat
 | .u8=>8 | .u16=>16 | .u32=>32 | _=>64
def BL:IntKind→Bool
 | .u8 | .u16 | .u32 | .u64=>true
 | _=>false
theorem Gp {k:IntKind} (h:BL k=true) (n:Nat) : k.wrap (n:Int)=((n % 2 ^ qI k:Nat) : Int):=by
 cases k <;> simp[BL] at h <;> (simp only[IntKind.wrap,IntKind.bits,IntKind.signed,qI]; simp)
theorem Mv (k:IntKind) (h:BL k=true) : k.bits=qI k:=by cases k <;> simp[BL] at h <;> rfl
theorem Zi {k:IntKind} (h:BL k=true) (a b:Nat) : orI k a b=(((a ||| b) % 2 ^ qI k:Nat) : Int):=by
 unfold orI
 rw[ala,Gp h,Mv k h,Nat.mod_mod]
theorem Mw {k:IntKind} (h:BL k=true) (a b:Nat) : QE k a b=(((a &&& b) % 2 ^ qI k:Nat) : Int):=by
 unfold QE
 rw[aiT,Gp h,Mv k h,Nat.mod_mod]
theorem Xh {k:IntKind} (h:BL k=true) (a b:Nat) : Xg k a b=(((a ^^^ b) % 2 ^ qI k:Nat) : Int):=by
 unfold Xg
 rw[ajB,Gp h,Mv k h,Nat.mod_mod]
theorem Gi (k:IntKind) (a b:Nat) (hb:b≤k.bits) : P5 k a b=((a / 2 ^ b:Nat) : Int):=by
 unfold P5
 rw[Int.toNat_natCast,Nat.min_eq_left hb,← ae3,Int.natCast_pow]; rfl
theorem GK {k:IntKind} (h:BL k=true) (a b:Nat) (hb:b≤k.bits) : ab2 k a b=((a * 2 ^ b % 2 ^ qI k:Nat) : Int):=by
 unfold ab2
 rw[Int.toNat_natCast,Nat.min_eq_left hb,← Gp h,Int.natCast_mul,Int.natCast_pow]
 rfl
theorem apg {x:Nat} (h:x<256) : x ||| 128=x % 128 + 128:=by
 have:∀ x:Fin 256,x.val ||| 128=x.val % 128 + 128:=by decide
 exact this ⟨x,h⟩
theorem OC (n:Nat) : (UInt8.ofNat n).toNat=n % 256:=by simp
end Go.Ab
namespace Go.Ab.ay
open Go Go.Ab
theorem JM {T size bytes:Nat} {zs:List AV} {M0:RM} {a0:AV} {cs:List AV} {n:Nat} (h:aL M0 size a0 cs n) (h1:cs.all oneCell=true) (hs:1≤size) (hn:n * bytes≤140737488355328) (hn2:n≤140737488355328) {Q:ak}
  (hQ:∀ v M',Own M' M0.next T size v cs n→ag [] M0 M'→Q v M') :
  jJ false 2 a0 aZ fun t4=>az t4 (Q aZ M0) (fO T 0 zs [] fun r f=>dx r f M0 fun t5 M=>appW T size bytes zs false t5 a0 M fun t7 M_0=>Q t7 M_0):=by
 rcases h.Kr false with⟨rfl,e⟩ | ⟨hne,e⟩
 ·rw[e]
  cases h
  exact⟨fun _=>hQ _ _ .nil (ag.refl _ _),fun h=>by simp at h⟩
 ·rw[e]
  refine⟨fun h=>by simp at h,fun _=>⟨[],rfl, ?_⟩⟩
  have hk:ag [] M0 (M0.push (.row [] false T 0)):=(ag.refl _ _).push _
  refine vg (base:=M0.next) (Own.lit M0 (Nat.le_refl _)) (by simp[RM.push]) hs ((h.keep hk (by simp)).nZ _) h.length h1 (by rw[Nat.zero_add]; exact hn) (by omega) ?_
  intro v' M' ho hk' hnx hv
  exact hQ v' M' (by simpa using ho) (hk.bG hk' (by simp[aG]))
def EA (T size bytes:Nat) (c:au) : Prop:=∀ {M0:RM} {a0:AV} {cs:List AV} {n:Nat},aL M0 size a0 cs n→cs.all oneCell=true→n * bytes≤140737488355328→n≤140737488355328→∀ {Q:ak},
 (∀ v M',Own M' M0.next T size v cs n→ag [] M0 M'→Q v M')→c [a0] M0 Q
def bE (v:Nat) : List UInt8:=if v<128 then[UInt8.ofNat v] else UInt8.ofNat (v % 128 + 128) :: bE (v / 128)
 termination_by v
 decreasing_by omega
theorem Gw {v:Nat} (h:v<128) : bE v=[UInt8.ofNat v]:=by rw[bE,if_pos h]
theorem Gx {v:Nat} (h:¬ v<128) : bE v=UInt8.ofNat (v % 128 + 128) :: bE (v / 128):=by rw[bE,if_neg h]
theorem JH:∀ (k v:Nat),1≤k→v<128 ^ k→(bE v).length≤k
 | 0,_,h,_=>by omega
 | k + 1,v,_,h=>by
   by_cases hv:v<128
   ·rw[Gw hv]; simp
   ·rw[Gx hv]
    simp only[List.length_cons]
    have:1≤k:=by
     rcases k with _ | k
     ·simp at h; omega
     ·omega
    have:=JH k (v / 128) this (by rw[Nat.pow_succ] at h; omega)
    omega
abbrev dL (l:List UInt8) : List AV:=l.map fun b=>N .u8 b.toNat
theorem lW (l:List UInt8) : (dL l).all oneCell=true:=by simp[oneCell]
def BV (T:Nat) (c:au) : Prop:=∀ {M0:RM} {a0:AV} {cs:List AV} {n v:Nat},aL M0 1 a0 cs n→cs.all oneCell=true→n + 10≤140737488355328→v<2 ^ 64→∀ {Q:ak},
 (∀ r M',Own M' M0.next T 1 r (cs++dL (bE v)) (n + (bE v).length)→ag [] M0 M'→Q r M')→c [a0,N .u64 v] M0 Q
theorem UB {T base:Nat} {M:RM} {b:AV} {cs:List AV} {n:Nat} {x:AV} {K:ak} (ho:Own M base T 1 b cs n) (hb:base≤M.next) (hx:oneCell x=true) (hc:x.cells=[x]) (hn:n + 1≤140737488355328)
  (hK:∀ v' M',Own M' base T 1 v' (cs++[x]) (n + 1)→ag (aG b) M M'→K v' M') : fO T 1 [N .u8 0] [(0,1,x)] fun r f=>dx r f M fun t M1=>appW T 1 1 [N .u8 0] false b t M1 K:=by
 refine⟨[x],by simp[zD,cZ,hc,hx], ?_⟩
 dsimp only
 rw[bn]
 have hk:ag [] M (M.push (.row [x] false T 0)):=(ag.refl _ _).push _
 have hs:aL (M.push (.row [x] false T 0)) 1 (.slc M.next 0 1 (.ex 1)) [x] 1:=.slc _ _ _ _ _ (by simp[RM.push]) (RM.dO (RM.aT _) (by simp))
 refine vg (ho.keep hk (by simp)) (Nat.le_trans hb hk.next) (Nat.le_refl _) (hs.nZ _) (by simp) (by simpa using hx) (by omega) (by omega) ?_
 intro v' M' h1 h2 h3 h4
 exact hK v' M' h1 ((hk.mono (by simp)).trans h2)
theorem ajg (m:Nat) : N .u8 (orI .u8 (IntKind.u8.wrap (m:Int)) 128)=N .u8 ((UInt8.ofNat (m % 128 + 128)).toNat:Int):=by
 have e1:(128:Int)=((128:Nat) : Int):=rfl
 rw[e1,wrap_u8,Zi rfl,OC,apg (by omega)]
 simp only[qI]
 congr 2
 omega
theorem Zb {m:Nat} (h:m<128) : N .u8 (IntKind.u8.wrap (m:Int))=N .u8 ((UInt8.ofNat m).toNat:Int):=by
 rw[wrap_u8,OC]
theorem aw0 (m:Nat) : N .u64 (P5 .u64 (m:Int) 7)=N .u64 ((m / 128:Nat) : Int):=by
 rw[show(7:Int)=((7:Nat) : Int) from rfl,Gi _ _ _ (by decide)]
theorem adW {T:Nat} {c:au} (hc:EA T 1 1 c) : BV T fun args M Q=>∃ a0 a1,args=[a0,a1]∧Xe c T a0 a1 M Q:=by
 intro M0 a0 cs n v h h1 hn hv Q hQ
 refine⟨a0,_,rfl, ?_⟩
 unfold Xe
 refine hc h h1 (by omega) (by omega) fun b0 M ho hk=>?_
 refine acA (fun m xs M=>∃ b w done,m=w∧xs=[b,N .u64 (w:Nat)]∧Own M M0.next T 1 b (cs++dL done) (n + done.length)∧ag [] M0 M∧done++bE w=bE v∧w<2 ^ 64) v ⟨b0,v,[],rfl,rfl,by simpa using ho,hk,rfl,hv⟩ ?_
 rintro m ys M1 ⟨b,w,done,rfl,rfl,ho,hk,hd,hw⟩
 have hlen:=JH 10 v (by omega) (by omega)
 rw[← hd,List.length_append] at hlen
 dsimp only
 simp only[go_sem,aa]
 refine⟨fun hge=>?_,fun hlt=>?_⟩
 ·have hge:¬ m<128:=by simp at hge; omega
  rw[Gx hge,List.length_cons] at hlen
  refine UB ho hk.next rfl rfl (by omega) fun b' M' ho' hk'=>?_
  refine⟨by omega,m / 128,by omega,b',m / 128,done++[UInt8.ofNat (m % 128 + 128)],rfl, ?_, ?_,hk.bG hk' (fun c hc=>.inl (ho.blk c hc).1), ?_,by omega⟩
  ·rw[aw0]
  ·rw[ajg] at ho'
   simpa [Nat.add_assoc] using ho'
  ·rw[← hd,Gx hge]; simp
 ·have hlt:m<128:=by simp at hlt; omega
  refine UB ho hk.next rfl rfl (by rw[Gw hlt] at hlen; simp at hlen; omega) fun b' M' ho' hk'=>?_
  refine hQ b' M' ?_ (hk.bG hk' (fun c hc=>.inl (ho.blk c hc).1))
  rw[← hd,Gw hlt]
  rw[Zb hlt] at ho'
  simpa [Nat.add_assoc] using ho'
end Go.Ab.ay
namespace Go.Ab
open Go Go.RowKit
section
variable {P:Program}
theorem eX.opened {ρ:Ren} {M:RM} {w:World} {b n:Nat} {l:List AV} {el:Nat} {u:Value} (hw:eX P ρ M w) (hh:M.heap b=some (.row l true el 0)) (hl:l.length=n) (hv:ax ρ (.slc b 0 n (.op 1)) u) :
  ∃ c,n≤c∧ax ρ (.slc b 0 n (.ex c)) u∧eX P ρ (M.put b (.row (l++List.replicate (c - n) .top) true el 0)) w:=by
 obtain⟨A,hA⟩:=hw
 obtain⟨k,i,hb,hp,he,hk,rfl⟩:=AZ hv
 rcases hA.blk b _ hh with⟨y,hy,hle⟩ | ⟨_,e0,_⟩
 ·cases y <;> first | exact hle.elim | skip
  rename_i nn tree zs opn elem fz
  obtain⟨r1,rfl,rfl,rfl,r5⟩:=hle
  obtain⟨ob,hob,cs,fr,rfl,hrow⟩:=hA.rel.blk b i _ hb hy
  obtain⟨h0,hcs,hels⟩:=hrow.opn rfl
  have hk0:k=0:=by
   rcases Nat.eq_zero_or_pos k with e | e
   ·exact e
   ·have:0<k * i.esz:=Nat.mul_pos e h0
    omega
  subst hk0
  have hsh:=hrow.sh0
  rw[← he,Nat.mul_one,hsh,Nat.zero_add] at hcs
  refine⟨i.fU,by omega, ?_,⟨{ A with heap:=A.heap.set b (.row i.fU (Tree.ofList (l++List.replicate (i.fU - n) .top) 0 .leaf) [] true elem 0) },hA.next,⟨hA.rel.dom,fun b' i' x hb' hx=>?_,fun b1 b2 i1 i2 x1 x2 p1 p2 g1 g2 e=>?_,fun b' x hx=>?_,fun b' i' x hb' hx=>?_,hA.rel.inv⟩,hA.size,fun c x hx=>?_,hA.old⟩⟩
  ·have:=ax.jd (ρ:=ρ) b 0 n i.fU i hb
   rw[Nat.zero_mul] at *
   simpa using this
  ·simp only[Tree.bR] at hx
   by_cases e:b'=b
   ·subst e
    rw[if_pos rfl] at hx
    cases hx
    rw[hb] at hb'; cases hb'
    refine⟨_,hob,cs,fr,rfl,⟨by rw[hsh]; omega,fun j x hj=>?_,fun j h1 h2=>hrow.free j h1 h2,hrow.mark,fun _=>⟨h0,by rw[hsh,← he]; omega,hels⟩,hsh⟩⟩
    obtain⟨hjlt,hj2⟩:=mr hj
    rw[Tree.lZ] at hj2
    split at hj2
    ·rename_i hlt
     rw[Nat.sub_zero] at hj2
     by_cases hjl:j<l.length
     ·rw[List.getElem?_append_left hjl] at hj2
      exact hrow.val j x (r5 j x hj2)
     ·rw[List.getElem?_append_right (by omega),List.getElem?_replicate] at hj2
      split at hj2
      ·cases hj2
       exact⟨cs[j]'(by omega),by rw[hsh,Nat.zero_add]; simp,.top _⟩
      ·cases hj2
    ·simp[Tree.get] at hj2
   ·rw[if_neg e] at hx
    exact hA.rel.blk b' i' x hb' hx
  ·have q:∀ {b1 x1},(A.heap.set b (dz.row i.fU (Tree.ofList (l++List.replicate (i.fU - n) .top) 0 .leaf) [] true elem 0)).get b1=some x1→∃ y,A.heap.get b1=some y:=by
    intro b1 x1 h
    rw[Tree.bR] at h
    by_cases e:b1=b
    ·subst e; exact⟨_,hy⟩
    ·rw[if_neg e] at h; exact⟨_,h⟩
   obtain⟨y1,e1⟩:=q g1
   obtain⟨y2,e2⟩:=q g2
   exact hA.rel.sep _ _ _ _ _ _ p1 p2 e1 e2 e
  ·simp only[Tree.bR] at hx
   by_cases e:b'=b
   ·subst e; exact hA.rel.top _ _ hy
   ·rw[if_neg e] at hx; exact hA.rel.top _ _ hx
  ·simp only[Tree.bR] at hx
   by_cases e:b'=b
   ·subst e; exact hA.rel.lo _ _ _ hb' hy
   ·rw[if_neg e] at hx; exact hA.rel.lo _ _ _ hb' hx
  ·simp only[RM.put] at hx
   simp only[Tree.bR]
   by_cases e:c=b
   ·subst e
    rw[if_pos rfl] at hx ⊢
    cases hx
    refine .inl ⟨_,rfl,by simp; omega,rfl,rfl,rfl,fun j v hj=>?_⟩
    have hjl:=(List.getElem?_eq_some_iff.1 hj).1
    exact yg (by simp at hjl; omega) (by rw[Tree.lZ,if_pos (by omega)]; simpa using hj)
   ·rw[if_neg e] at hx ⊢
    exact hA.blk c x hx
 ·cases e0
theorem jv.ahv {f:FuncId} {b n:Nat} {l:List AV} {el:Nat} {rest:List AV} {M:RM} {Q:ak} (hP:KI P f) (hh:M.heap b=some (.row l true el 0)) (hl:l.length=n)
  (h:∀ c,n≤c→jv P f (.slc b 0 n (.ex c) :: rest) (M.put b (.row (l++List.replicate (c - n) .top) true el 0)) Q) : jv P f (.slc b 0 n (.op 1) :: rest) M Q:=by
 refine⟨hP,fun ρ w us hargs hw=>?_⟩
 cases hargs with
 | cons _ u _ us hv hr =>
 obtain⟨c,hc,hv',hw'⟩:=hw.opened hh hl hv
 refine((h c hc).2 ρ w (u :: us) (.cons _ _ _ _ hv' hr) hw').mono fun e w' hR=>?_
 obtain⟨v',v,M',ρ',rfl,k1,k2,k3⟩:=hR
 exact⟨v',v,M',ρ',rfl,⟨k1.step,k1.rel,k1.base,k1.next⟩,k2,k3⟩
end
def RM.old (base:Base) (w:World) : RM where
 next:=base.n
 heap:=fun b=>if b<base.n then(match w.heap[b]? with | some (.cells c _ _)=>some (.ro c) | _=>none) else none
 base:=base
def VH (n:Nat) : Ren:=fun b=>if b<n then some ⟨b,0,0,0⟩ else none
theorem aeD {P:Program} {base:Base} {w:World} (hn:base.n=w.heap.size) (hi:base.inv w) : eX P (VH base.n) (RM.old base w) w:=by
 refine⟨{ next:=base.n,heap:=.leaf },rfl,⟨fun b i h=>?_,fun b i x _ h=>by simp[Tree.get] at h,fun b _ i _ x _ _ _ h=>by simp[Tree.get] at h,fun b x h=>by simp[Tree.get] at h,fun b i x _ h=>by simp[Tree.get] at h,hi⟩,by simp[RM.old,RM.lo,hn],fun b x h=>.inr ?_,fun c hc=>by have hc' : c<base.n:=hc; simp only[VH]; rw[if_pos hc']⟩
 ·simp only[VH] at h
  split at h <;> first | (cases h; done) | skip
  cases h
  exact⟨by assumption,by rw[← hn]; assumption⟩
 ·simp only[RM.old] at h
  split at h <;> first | (cases h; done) | skip
  rename_i hlt
  split at h <;> first | (cases h; done) | skip
  rename_i c el fr hh
  cases h
  exact⟨c,rfl,hlt,el,fr,hh⟩
theorem RM.adr {base:Base} {w:World} {b:Nat} {c:Array Value} {el:TypeId} {fr:_} (hb:b<base.n) (h:w.heap[b]?=some (.cells c el fr)) : (RM.old base w).cells b=some (c.toList.map (sM base.n)):=by
 simp only[RM.cells,RM.old,if_pos hb,h]
def mO (lo:Nat) : Value→AV
 | .agg cs=>.agg (cs.toList.map (sM lo))
 | v=>sM lo v
theorem Vo {ρ:Ren} {lo:Nat} (h:∀ c,c<lo→ρ c=some ⟨c,0,0,0⟩) : ∀ (vs:List Value),bD ρ (vs.map (sM lo)) vs
 | []=>.nil
 | v :: vs=>.cons _ _ _ _ (Ml h v) (Vo h vs)
theorem afn {ρ:Ren} {lo:Nat} (h:∀ c,c<lo→ρ c=some ⟨c,0,0,0⟩) (v:Value) : ax ρ (mO lo v) v:=by
 unfold mO
 split
 ·exact .agg _ _ (Vo h _)
 ·exact Ml h v
theorem Sn {ρ:Ren} {lo:Nat} (h:∀ c,c<lo→ρ c=some ⟨c,0,0,0⟩) : ∀ (vs:List Value),bD ρ (vs.map (mO lo)) vs
 | []=>.nil
 | v :: vs=>.cons _ _ _ _ (afn h v) (Sn h vs)
theorem jv.close {P:Program} {f:FuncId} {base:Base} {w:World} {us:Array Value} (hn:base.n=w.heap.size) (hi:base.inv w)
  (h:jv P f (us.toList.map (mO base.n)) (RM.old base w) fun v _=>v=Bo true) :
  Calls P f us w fun e w'=>e=.returned (.bool true)∧Below w.heap.size w w':=by
 have hr:=aeD (P:=P) hn hi
 refine((h.2 (VH base.n) w us.toList (Sn (fun c hc=>by simp only[VH]; rw[if_pos hc]) _) hr)).mono fun e w' hR=>?_
 obtain⟨v',v,M',ρ',rfl,k1,k2,rfl⟩:=hR
 obtain⟨rfl,_⟩:=bf k2
 refine⟨rfl,k1.step.os,k1.step.tape,k1.step.output,k1.step.size,fun k hk=>k1.step.low k ?_⟩
 show k<base.n
 rw[hn]; exact hk
def Ed:Option TypeDesc→Bool
 | some .bool | some (.int _) | some .string | some (.slice _) | some (.struct _) | some (.array _ _)=>false
 | _=>true
inductive Fits (P:Program) (M:RM) : TypeId→List AV→Prop
 | bool (t:TypeId) (b:Bool) : P.underlying t=some .bool→Fits P M t [Bo b]
 | int (t:TypeId) (k:IntKind) (n:Int) : P.underlying t=some (.int k)→k.min≤n→n≤k.max→Fits P M t [N k n]
 | str (t:TypeId) (s:List UInt8) : P.underlying t=some .string→s.length≤reachBytes→Fits P M t [St s]
 | agw (t e:TypeId) : P.underlying t=some (.slice e)→Fits P M t [aZ]
 | emp (t e:TypeId) (b:Nat) : P.underlying t=some (.slice e)→Fits P M t [.emp b]
 | slc (t e:TypeId) (b o n c:Nat) (cs:List AV) : P.underlying t=some (.slice e)→b<M.next→n≤c→c * P.bytesOf e≤reachBytes→M.loads b o (n * P.cellsOf e)=some cs →
   (∀ i,i<n→Fits P M e ((cs.drop (i * P.cellsOf e)).take (P.cellsOf e)))→Fits P M t [.slc b o n (.ex c)]
 | struct (t:TypeId) (fs:Array Field) (cs:List AV) : P.underlying t=some (.struct fs)→cs.length=P.cellsOf t →
   (∀ (i:Nat) (f:Field),fs[i]?=some f→Fits P M f.type ((cs.drop f.offset).take (P.cellsOf f.type)))→Fits P M t cs
 | array (t e:TypeId) (n:Nat) (cs:List AV) : P.underlying t=some (.array n e)→cs.length=P.cellsOf t →
   (∀ i,i<n→Fits P M e ((cs.drop (i * P.cellsOf e)).take (P.cellsOf e)))→Fits P M t cs
 | other (t:TypeId) (cs:List AV) : Ed (P.underlying t)=true→Fits P M t cs
 | zero (t e:TypeId) (cs:List AV) : P.underlying t=some (.slice e)→P.cellsOf e=0→Fits P M t cs
theorem G6 (a:Addr) : a.add 0=a:=by simp[Addr.add]
theorem zt {w:World} {base:Nat} {a:Addr} {n:Nat} {cs:List Value} (h:w.cells? base a n=some cs) : cs.length=n∧∀ i,i<n→w.cell? (a.add i)=cs[i]?:=by
 unfold World.cells? at h
 split at h
 ·exact⟨by simpa using mapM_some_length h,fun i hi=>mapM_some_get h i i (by simp[hi])⟩
 ·cases h
theorem cell?_at {w:World} {a:Addr} {v:Value} (h:w.cell? a=some v) : ∃ c el fr,w.heap[a.block]?=some (.cells c el fr)∧a.spot=none∧a.off<c.size∧c[a.off]?=some v:=by
 unfold World.cell? at h
 split at h
 ·rename_i c el fr hh
  split at h
  ·cases h
  ·rename_i hs
   exact⟨c,el,fr,hh,by simpa using hs,(Array.getElem?_eq_some_iff.1 h).1,h⟩
 ·cases h
section
variable {H:Type} {enc:TypeId × Value→H} {P:Program} {base:Base} {w:World}
theorem xC {e:TypeId} {ds:List (DataW H)} {d:DataW H} (hd:d∈ds) {x:Nat} (hx:x∈d.weights P e) : x∈DataW.weightsAll P e ds:=by
 induction ds with
 | nil=>cases hd
 | cons y ys ih =>
   simp only[DataW.weightsAll,List.mem_append]
   rcases List.mem_cons.1 hd with rfl | hd
   ·exact .inl hx
   ·exact .inr (ih hd)
theorem BM {x:Nat} : ∀ (ts:List TypeId) (ds:List (DataW H)) (i:Nat) (t:TypeId) (d:DataW H),ts[i]?=some t→ds[i]?=some d→x∈d.weights P t→x∈DataW.weightsEach P ts ds
 | [],_,_,_,_,h,_,_=>by simp at h
 | _ :: _,[],_,_,_,_,h,_=>by simp at h
 | t :: ts,d :: ds,0,t',d',h,h',hx=>by
   simp at h h'; subst h h'
   simp only[DataW.weightsEach,List.mem_append]; exact .inl hx
 | t :: ts,d :: ds,i + 1,t',d',h,h',hx=>by
   simp only[DataW.weightsEach,List.mem_append]
   exact .inr (BM ts ds i t' d' (by simpa using h) (by simpa using h') hx)
theorem Uk (hn:base.n=w.heap.size) {held:Bool} : ∀ (fuel:Nat) (t:TypeId) (cs:List Value) (x:DataW H × List MemPlace),DataW.trod enc P w 0 (fun _=>true) held fuel t cs=some x →
  (∀ y∈x.1.weights P t,y≤reachBytes)→Fits P (RM.old base w) t (cs.map (sM base.n)):=by
 intro fuel
 induction fuel with
 | zero=>intro t cs x h; simp[DataW.trod] at h
 | succ m ih =>
   intro t cs x h hw
   cases hu:P.underlying t with
   | none=>exact .other _ _ (by rw[hu]; rfl)
   | some d =>
     cases d with
     | bool =>
       obtain⟨b,rfl,rfl⟩:=DataW.trod_bool hu h
       exact .bool t b hu
     | int k =>
       obtain⟨n,rfl,rfl,hwf⟩:=DataW.trod_int hu h
       simp only[Lit.wf,Bool.and_eq_true,decide_eq_true_eq] at hwf
       exact .int t k n hu hwf.1 hwf.2
     | string =>
       obtain⟨s,rfl,rfl,_⟩:=DataW.trod_string hu h
       exact .str t s.data.toList hu (hw _ (by simp[DataW.weights]))
     | slice e =>
       rcases DataW.trod_slice hu h with⟨rfl,rfl⟩ | ⟨a,len,cap,elems,rest,n,hm,rfl,rfl,_,hlc,_,hel,hget,hrest,_⟩
       ·exact .agw t e hu
       ·cases hm
        rcases Nat.eq_zero_or_pos (P.cellsOf e) with hz | hz
        ·exact .zero t e _ hu hz
        rcases Nat.eq_zero_or_pos cap with hc | hc
        ·have hl0:len=0:=by omega
         subst hc hl0
         exact .emp t e 0 hu
        ·obtain⟨hr1,hr2⟩:=hrest rfl
         have every:∀ i,i<cap→∃ es y,w.cells? 0 (a.add (i * P.cellsOf e)) (P.cellsOf e)=some es∧DataW.trod enc P w 0 (fun _=>true) held m e es=some y∧(y∈elems∨y∈rest):=by
          intro i hi
          by_cases hil:i<len
          ·have h1:=hget i hil
           have h2:elems[i]?=some (elems[i]'(by omega)):=by simp[hel,hil]
           rw[h2] at h1
           obtain⟨es,e1,e2⟩:=Option.bind_eq_some_iff.1 h1
           exact⟨es,_,e1,e2,.inl (List.getElem_mem _)⟩
          ·have h1:=hr2 (i - len) (by omega)
           rw[show len + (i - len)=i by omega] at h1
           have h2:rest[i - len]?=some (rest[i - len]'(by omega)):=by
            rw[List.getElem?_eq_getElem]
           rw[h2] at h1
           obtain⟨es,e1,e2⟩:=Option.bind_eq_some_iff.1 h1
           exact⟨es,_,e1,e2,.inr (List.getElem_mem _)⟩
         obtain⟨es0,_,k0,_,_⟩:=every 0 hc
         obtain⟨kl0,kg0⟩:=zt k0
         have hc0:=kg0 0 hz
         rw[List.getElem?_eq_getElem (by omega)] at hc0
         obtain⟨c,el,fr,hh,hsp,_,_⟩:=cell?_at hc0
         obtain⟨b,o,sp⟩:=a
         rw[Nat.zero_mul,G6,G6] at hh hsp
         simp only at hh hsp
         subst hsp
         have hblt:b<base.n:=by rw[hn]; exact(Array.getElem?_eq_some_iff.1 hh).1
         have hlast:o + cap * P.cellsOf e≤c.size:=by
          obtain⟨es1,_,k1,_,_⟩:=every (cap - 1) (by omega)
          obtain⟨kl1,kg1⟩:=zt k1
          have hc1:=kg1 (P.cellsOf e - 1) (by omega)
          rw[List.getElem?_eq_getElem (by omega)] at hc1
          obtain⟨c',el',fr',hh',_,hlt,_⟩:=cell?_at hc1
          rw[fV,fV] at hh' hlt
          simp only at hh' hlt
          rw[hh] at hh'
          cases hh'
          have:cap * P.cellsOf e=(cap - 1) * P.cellsOf e + P.cellsOf e:=by
           rw[← Nat.succ_mul]; congr 1; omega
          omega
         have avC:sM base.n (.slice (some ⟨b,o,none⟩) len cap)=.slc b o len (.ex cap):=by
          obtain⟨cap,rfl⟩ : ∃ k,cap=k + 1:=⟨cap - 1,by omega⟩
          simp only[sM,if_pos hblt]
         have hcells:=RM.adr hblt hh
         have hle:len * P.cellsOf e≤cap * P.cellsOf e:=Nat.mul_le_mul_right _ hlc
         have hload:(RM.old base w).loads b o (len * P.cellsOf e)=some (((c.toList.map (sM base.n)).drop o).take (len * P.cellsOf e)):=by
          simp only[RM.loads,hcells]
          rw[if_pos (by simp; omega)]
         simp only[List.map_cons,List.map_nil,avC]
         refine .slc t e b o len cap _ hu hblt hlc ?_ hload fun i hi=>?_
         ·have:=hw ((elems.length + rest.length) * P.bytesOf e) (by simp[DataW.weights,hu])
          rwa [hel,hr1,show len + (cap - len)=cap by omega] at this
         ·obtain⟨es,y,k1,k2,k3⟩:=every i (by omega)
          have hlen:=(zt k1).1
          have hes:((((c.toList.map (sM base.n)).drop o).take (len * P.cellsOf e)).drop (i * P.cellsOf e)).take (P.cellsOf e)=es.map (sM base.n):=by
           have hii:i * P.cellsOf e + P.cellsOf e≤len * P.cellsOf e:=by rw[← Nat.succ_mul]; exact Nat.mul_le_mul_right _ hi
           apply List.ext_getElem?
           intro j
           by_cases hj:j<P.cellsOf e
           ·have hg:=(zt k1).2 j hj
            rw[List.getElem?_take,if_pos hj,List.getElem?_drop,List.getElem?_take,if_pos (by omega),List.getElem?_drop,List.getElem?_map,List.getElem?_map,← hg]
            rw[fV,fV]
            simp only[World.cell?,hh]
            rw[Array.getElem?_toList]
            simp[Nat.add_assoc]
           ·rw[List.getElem?_eq_none (by simp; omega),List.getElem?_eq_none (by simp; omega)]
          rw[hes]
          refine ih e es y k2 fun z hz=>hw z ?_
          simp only[DataW.weights,hu,List.mem_cons,List.mem_append]
          rcases k3 with k3 | k3
          ·exact .inr (.inl (xC (List.mem_map_of_mem k3) hz))
          ·exact .inr (.inr (xC (List.mem_map_of_mem k3) hz))
     | struct fs =>
       obtain⟨xs,n,hm,rfl,hl,hxl,hget⟩:=DataW.trod_struct hu h
       cases hm
       refine .struct t fs _ hu (by simpa using hl) fun i f hf=>?_
       have h1:=hget i f hf
       have hi:i<fs.size:=(Array.getElem?_eq_some_iff.1 hf).1
       rw[List.getElem?_eq_getElem (by omega)] at h1
       rw[← List.map_drop,← List.map_take]
       refine ih _ _ _ h1 fun z hz=>hw z ?_
       simp only[DataW.weights,hu]
       refine BM _ _ i f.type _ (by simp[hf]) (by rw[List.getElem?_map,List.getElem?_eq_getElem (by omega)]; rfl) hz
     | array n e =>
       obtain⟨xs,m',hm,rfl,hl,hxl,hget⟩:=DataW.trod_array hu h
       cases hm
       refine .array t e n _ hu (by simpa using hl) fun i hi=>?_
       have h1:=hget i hi
       rw[List.getElem?_eq_getElem (by omega)] at h1
       rw[← List.map_drop,← List.map_take]
       refine ih _ _ _ h1 fun z hz=>hw z ?_
       simp only[DataW.weights,hu]
       exact xC (List.mem_map_of_mem (List.getElem_mem _)) hz
     | _=>exact .other _ _ (by rw[hu]; rfl)
end
section
variable {P:Program} {M:RM} {t:TypeId} {cs:List AV}
theorem Fits.Ei (h:Fits P M t cs) {k:IntKind} (hu:P.underlying t=some (.int k)) : ∃ n:Int,cs=[N k n]∧k.min≤n∧n≤k.max:=by
 cases h with
 | int _ k' n h1 h2 h3=>rw[hu] at h1; cases h1; exact⟨n,rfl,h2,h3⟩
 | _=>simp_all [Ed]
theorem Fits.QA (h:Fits P M t cs) (hu:P.underlying t=some .string) : ∃ s,cs=[St s]∧s.length≤reachBytes:=by
 cases h with
 | str _ s h1 h2=>exact⟨s,rfl,h2⟩
 | _=>simp_all [Ed]
theorem Fits.NC (h:Fits P M t cs) {fs:Array Field} (hu:P.underlying t=some (.struct fs)) : cs.length=P.cellsOf t∧∀ (i:Nat) (f:Field),fs[i]?=some f→Fits P M f.type ((cs.drop f.offset).take (P.cellsOf f.type)):=by
 cases h with
 | struct _ fs' _ h1 h2 h3=>rw[hu] at h1; cases h1; exact⟨h2,h3⟩
 | _=>simp_all [Ed]
theorem Fits.I1 (h:Fits P M t cs) {e:TypeId} (hu:P.underlying t=some (.slice e)) (hz:0<P.cellsOf e) :
  ∃ v n ds,cs=[v]∧aL M (P.cellsOf e) v ds n∧n * P.bytesOf e≤reachBytes∧∀ i,i<n→Fits P M e ((ds.drop (i * P.cellsOf e)).take (P.cellsOf e)):=by
 cases h with
 | agw _ e' h1=>exact⟨_,0,[],rfl,.nil,by simp,fun i hi=>absurd hi (by omega)⟩
 | emp _ e' b h1=>exact⟨_,0,[],rfl,.emp b,by simp,fun i hi=>absurd hi (by omega)⟩
 | slc _ e' b o n c ds h1 h2 h3 h4 h5 h6 =>
   rw[hu] at h1; cases h1
   exact⟨_,n,ds,rfl,.slc b o n _ ds h2 h5,Nat.le_trans (Nat.mul_le_mul_right _ h3) h4,h6⟩
 | zero _ e' _ h1 h2=>rw[hu] at h1; cases h1; omega
 | _=>simp_all [Ed]
theorem Je {α:Type} {size:Nat} (enc:α→List AV) (p:α→Prop) (hs:∀ a,(enc a).length=size) : ∀ (n:Nat) (ds:List AV),ds.length=n * size→(∀ i,i<n→∃ a,p a∧(ds.drop (i * size)).take size=enc a) →
  ∃ xs:List α,xs.length=n∧ds=xs.flatMap enc∧∀ x∈xs,p x
 | 0,ds,hl,_=>⟨[],rfl,by simpa using hl,by simp⟩
 | n + 1,ds,hl,h=>by
   obtain⟨a,pa,ha⟩:=h 0 (by omega)
   simp only[Nat.zero_mul,List.drop_zero] at ha
   have hl' : (ds.drop size).length=n * size:=by rw[List.length_drop,hl,Nat.succ_mul]; omega
   obtain⟨xs,h1,h2,h3⟩:=Je enc p hs n (ds.drop size) hl' fun i hi=>by
    obtain⟨b,pb,hb⟩:=h (i + 1) (by omega)
    refine⟨b,pb, ?_⟩
    rw[List.drop_drop,← hb,Nat.succ_mul,Nat.add_comm]
   refine⟨a :: xs,by simp[h1], ?_,fun x hx=>?_⟩
   ·rw[List.flatMap_cons,← h2,← ha,List.take_append_drop]
   ·rcases List.mem_cons.1 hx with rfl | hx
    ·exact pa
    ·exact h3 x hx
end
def Q9 (P:Program) (t:TypeId) : Bool :=
 match P.underlying t with
 | some (.struct _) | some (.array _ _)=>true
 | _=>false
def qH (P:Program) (M:RM) (t:TypeId) (v:AV) : Prop :=
 match Q9 P t with
 | true=>∃ cs,v=.agg cs∧Fits P M t cs
 | false=>Fits P M t [v]
theorem qH.agg {P:Program} {M:RM} {t:TypeId} {v:AV} (h:qH P M t v) (ha:Q9 P t=true) : ∃ cs,v=.agg cs∧Fits P M t cs:=by
 unfold qH at h; rw[ha] at h; exact h
theorem qH.one {P:Program} {M:RM} {t:TypeId} {v:AV} (h:qH P M t v) (ha:Q9 P t=false) : Fits P M t [v]:=by
 unfold qH at h; rw[ha] at h; exact h
section
variable {H:Type} {enc:TypeId × Value→H} {P:Program} {base:Base} {w:World}
theorem Ut {r:Reach} {b:Nat} {t:TypeId} {cs:Array Value} (h:Cell.okWide P w r b t (.agg cs)) : False:=by
 unfold Cell.okWide at h
 split at h <;> first | (rename_i e _; cases e; done) | skip
 all_goals first | (rename_i e; cases e; done) | skip
 unfold Cell.ok at h
 split at h <;> first | exact h | simp_all
theorem aen (hn:base.n=w.heap.size) {r:Reach} {b:Nat} {held:Bool} {t:TypeId} {v:Value} {d:DataW H} {ps:List MemPlace} (hv:Value.okWide P w r b t v) (h:DataW.Trod enc P w 0 (fun _=>true) held t v d ps)
  (hw:∀ y∈d.weights P t,y≤reachBytes) : qH P (RM.old base w) t (mO base.n v):=by
 obtain⟨fuel,hf⟩:=h
 have hfit:=Uk hn fuel t _ _ hf hw
 unfold qH
 cases ha:Q9 P t with
 | true =>
   have:∃ cs,v=.agg cs:=by
    unfold Value.okWide at hv
    unfold Q9 at ha
    split at hv
    ·obtain⟨cs,h,_⟩:=hv; exact⟨cs,h⟩
    ·obtain⟨cs,h,_⟩:=hv; exact⟨cs,h⟩
    ·split at ha <;> simp_all
   obtain⟨cs,rfl⟩:=this
   exact⟨_,rfl,hfit⟩
 | false =>
   have hc:Cell.okWide P w r b t v:=by
    unfold Value.okWide at hv
    unfold Q9 at ha
    split at hv
    ·simp_all
    ·simp_all
    ·exact hv
   have:v.cells.toList=[v]∧mO base.n v=sM base.n v:=by
    cases v with
    | agg cs=>exact(Ut hc).elim
    | _=>exact⟨rfl,rfl⟩
   rw[this.1] at hfit
   rw[this.2]
   exact hfit
theorem Wn (hn:base.n=w.heap.size) {r:Reach} {b:Nat} {held:Bool} : ∀ {ts:List TypeId} {vs:List Value} {ds:List (DataW H)} {ps:List MemPlace},DataW.TrodAll enc P w 0 (fun _=>true) held ts vs ds ps →
  (∀ (j:Nat) t v,ts[j]?=some t→vs[j]?=some v→Value.okWide P w r b t v)→(∀ y∈DataW.weightsEach P ts ds,y≤reachBytes) →
  ∀ (j:Nat) t v,ts[j]?=some t→vs[j]?=some v→qH P (RM.old base w) t (mO base.n v)
 | [],_,_,_,_,_,_,j,t,v,h,_=>by simp at h
 | t0 :: ts,vs,ds,ps,h,hv,hw,j,t,v,hj,hvj=>by
   cases vs with
   | nil=>simp at hvj
   | cons v0 vs =>
   cases ds with
   | nil=>exact h.elim
   | cons d ds =>
   obtain⟨p,q,h1,h2,_⟩:=h
   cases j with
   | zero =>
     simp at hj hvj; subst hj hvj
     exact aen hn (hv 0 _ _ rfl rfl) h1 fun y hy=>hw y (by simp[DataW.weightsEach,hy])
   | succ j =>
     exact Wn hn h2 (fun j t v a b=>hv (j + 1) t v (by simpa using a) (by simpa using b)) (fun y hy=>hw y (by simp[DataW.weightsEach,hy])) j t v (by simpa using hj) (by simpa using hvj)
theorem Ha (hl:laidOutB P=true) {W W' : World} {sp:Nat→Bool} (hb:Below W.heap.size W W') : ∀ {ts:List TypeId} {vs:List Value} {ds:List (DataW H)} {ps:List MemPlace},
  (∀ t∈ts,P.readableRec t=true∧t<P.types.size)→DataW.TrodAll enc P W 0 (fun _=>true) true ts vs ds ps→(∀ p∈ps,p.block<W.heap.size)→(∀ p∈ps,sp p.block=true)→DataW.TrodAll enc P W' 0 sp true ts vs ds ps
 | [],vs,ds,ps,_,h,_,_=>by
   cases vs <;> cases ds <;> first | exact h | exact h.elim
 | t :: ts,vs,ds,ps,hr,h,hlt,hsp=>by
   cases vs with
   | nil=>cases ds <;> exact h.elim
   | cons v vs =>
   cases ds with
   | nil=>exact h.elim
   | cons d ds =>
   obtain⟨p,q,h1,h2,rfl⟩:=h
   have hrt:=hr t (List.mem_cons_self ..)
   exact⟨p,q,WideElems.Trod_stays hl hrt.1 hrt.2 h1 (fun x hx=>hb.same (hlt x (List.mem_append_left _ hx))) (fun x hx=>hsp x (List.mem_append_left _ hx)),
    Ha hl hb (fun t ht=>hr t (List.mem_cons_of_mem _ ht)) h2 (fun x hx=>hlt x (List.mem_append_right _ hx)) (fun x hx=>hsp x (List.mem_append_right _ hx)),rfl⟩
end
def RB.cells (lo:Nat) : RB→Option (List AV)
 | .row l _ _ _=>some l
 | .ro c=>some (c.toList.map (sM lo))
 | _=>none
@[go_sem] theorem RB.Ca (lo:Nat) (l:List AV) (p:Bool) (e f:Nat) : RB.cells lo (.row l p e f)=some l:=rfl
theorem RM.MQ (M:RM) (b:Nat) : M.cells b=(M.heap b).bind (RB.cells M.lo):=by
 unfold RM.cells RB.cells
 cases M.heap b with
 | none=>rfl
 | some x=>cases x <;> rfl
def AU (l:Option (List AV)) (o k:Nat) : Option (List AV) :=
 match l with
 | some l=>if o + k≤l.length then some ((l.drop o).take k) else none
 | none=>none
@[go_sem] theorem arx (l:List AV) (o k:Nat) : AU (some l) o k=if o + k≤l.length then some ((l.drop o).take k) else none:=rfl
theorem RM.MM (M:RM) (b o k:Nat) : M.loads b o k=AU (M.cells b) o k:=rfl
section
variable {M M' : RM}
@[go_sem] theorem RM.adL (x:RB) (c:Nat) : (M.push x).heap c=if c=M.next then some x else M.heap c:=rfl
@[go_sem] theorem RM.heap_put (b:Nat) (x:RB) (c:Nat) : (M.put b x).heap c=if c=b then some x else M.heap c:=rfl
@[go_sem] theorem RM.axn (b:Nat) (c:Nat) : (M.del b).heap c=if c=b then none else M.heap c:=rfl
@[go_sem] theorem RM.auB (x:RB) : (M.push x).base=M.base:=rfl
@[go_sem] theorem RM.axf (b:Nat) (x:RB) : (M.put b x).base=M.base:=rfl
@[go_sem] theorem RM.awK (b:Nat) : (M.del b).base=M.base:=rfl
theorem RM.Pb (x:RB) (c:Nat) : (M.push x).cells c=if c=M.next then x.cells M.lo else M.cells c:=by
 simp only[RM.MQ,RM.adL]
 split <;> rfl
theorem RM.Su (b:Nat) (x:RB) (c:Nat) : (M.put b x).cells c=if c=b then x.cells M.lo else M.cells c:=by
 simp only[RM.MQ,RM.heap_put]
 split <;> rfl
@[go_sem] theorem RM.aus (x:RB) (c o:Nat) : (M.push x).cell c o=if c=M.next then(x.cells M.lo).bind (·[o]?) else M.cell c o:=by
 simp only[RM.cell,RM.Pb]
 split <;> rfl
@[go_sem] theorem RM.awr (b:Nat) (x:RB) (c o:Nat) : (M.put b x).cell c o=if c=b then(x.cells M.lo).bind (·[o]?) else M.cell c o:=by
 simp only[RM.cell,RM.Su]
 split <;> rfl
@[go_sem] theorem RM.atY (x:RB) (c o k:Nat) : (M.push x).loads c o k=if c=M.next then AU (x.cells M.lo) o k else M.loads c o k:=by
 simp only[RM.MM,RM.Pb]
 split <;> rfl
@[go_sem] theorem RM.auv (b:Nat) (x:RB) (c o k:Nat) : (M.put b x).loads c o k=if c=b then AU (x.cells M.lo) o k else M.loads c o k:=by
 simp only[RM.MM,RM.Su]
 split <;> rfl
def sD (l:List AV) (fz o:Nat) (vs:List AV) : Option (List AV) :=
 if o + vs.length≤l.length∧fz≤o∧vs.all oneCell=true then some (l.take o++vs++l.drop (o + vs.length)) else none
theorem pE {l vs:List AV} {fz o:Nat} (h1:o + vs.length≤l.length) (h2:fz≤o) (h3:vs.all oneCell=true) : sD l fz o vs=some (l.take o++vs++l.drop (o + vs.length)):=if_pos ⟨h1,h2,h3⟩
@[go_sem] theorem Tc {l vs:List AV} (h:vs.length=l.length) (h3:vs.all oneCell=true) : sD l 0 0 vs=some vs:=by
 rw[pE (by omega) (Nat.le_refl _) h3]
 simp[h]
theorem RM.Co {b o:Nat} {vs l:List AV} {p:Bool} {e f:Nat} (h:M.heap b=some (.row l p e f)) : M.stores b o vs=(sD l f o vs).map fun l'=>M.put b (.row l' p e f):=by
 simp only[RM.stores,h,sD]
 split <;> rfl
theorem RM.ag0 {x y:RB} : (M.push x).put M.next y=M.push y:=by
 simp only[RM.put,RM.push]
 congr 1
 funext c
 split <;> rfl
theorem RM.Wx {x y:RB} {b:Nat} (hb:b≠M.next) : (M.push x).put b y=(M.put b y).push x:=by
 simp only[RM.put,RM.push]
 congr 1
 funext c
 by_cases h1:c=b
 ·subst h1; simp[hb]
 ·simp[h1]
theorem RM.Pw {l vs:List AV} {p:Bool} {e f o:Nat} : (M.push (.row l p e f)).stores M.next o vs=(sD l f o vs).map fun l'=>M.push (.row l' p e f):=by
 rw[RM.Co (RM.aT _)]
 congr 1
 funext l'
 exact RM.ag0
theorem RM.OA {M:RM} {b o:Nat} {vs:List AV} : M.stores b o vs=match M.heap b with
  | some (.row l p e f)=>(sD l f o vs).map fun l'=>M.put b (.row l' p e f)
  | _=>none:=by
 cases h:M.heap b with
 | none=>simp[RM.stores,h]
 | some x =>
   cases x with
   | row l p e f=>rw[RM.Co h]
   | _=>simp[RM.stores,h]
@[go_sem] theorem RM.Ox {x:RB} {vs:List AV} {c o:Nat} (hc:c≠M.next) : (M.push x).stores c o vs=(M.stores c o vs).map (·.push x):=by
 rw[RM.OA,RM.OA,RM.ae1 hc]
 split
 ·simp only[Option.map_map]
  congr 1
  funext l'
  exact RM.Wx hc
 ·rfl
@[go_sem] theorem RM.art {l vs:List AV} {p:Bool} {e f c o:Nat} : (M.push (.row l p e f)).stores c o vs =
  if c=M.next then(sD l f o vs).map fun l'=>M.push (.row l' p e f) else(M.stores c o vs).map (·.push (.row l p e f)):=by
 split
 ·rename_i h; subst h; exact RM.Pw
 ·rename_i h; exact RM.Ox h
@[go_sem] theorem RM.aii {b o:Nat} {l vs:List AV} {p:Bool} {e f:Nat} : (M.put b (.row l p e f)).stores b o vs=(sD l f o vs).map fun l'=>M.put b (.row l' p e f):=by
 rw[RM.Co (RM.xB _ _)]
 congr 1
 funext l'
 simp only[RM.put]
 congr 1
 funext c
 split <;> rfl
@[go_sem] theorem ax0 {α:Type} (a:α) (K:α→Prop) : (∃ x,some a=some x∧K x)=K a:=by simp
@[go_sem] theorem arv {α β:Type} (f:α→β) (x:α) : (some x).map f=some (f x):=rfl
attribute [go_sem] Int.natCast_nonneg Int.toNat_natCast Nat.mul_one true_implies false_implies Bool.false_eq_true Bool.true_eq_false Bool.not_true Bool.not_false Bool.and_self Bool.and_true Bool.true_and Nat.le_refl List.append_nil List.nil_append if_true if_false Nat.lt_irrefl Nat.add_one_ne_zero true_and and_true Nat.zero_add Nat.add_zero List.drop_zero List.getElem?_cons_zero List.getElem?_cons_succ Option.bind_some List.take_succ_cons List.take_zero List.drop_succ_cons List.drop_nil List.take_nil
attribute [go_sem] ji List.all_cons List.all_nil List.length_cons List.length_nil
@[go_sem] theorem auu (cs:List AV) : (AV.agg cs).cells=cs:=rfl
@[go_sem] theorem axV (v:Value) : (AV.sc v).cells=[.sc v]:=rfl
@[go_sem] theorem auF (b o:Nat) : (AV.ptr b o).cells=[.ptr b o]:=rfl
@[go_sem] theorem auI (b o n:Nat) (c:Cap) : (AV.slc b o n c).cells=[.slc b o n c]:=rfl
@[go_sem] theorem auL (b:Nat) : (AV.emp b).cells=[.emp b]:=rfl
@[go_sem] theorem auN (b:Nat) : (AV.map b).cells=[.map b]:=rfl
@[go_sem] theorem auW (f:Fn) (xs ys:List AV) : (AV.fn f xs ys).cells=[.fn f xs ys]:=rfl
@[go_sem] theorem Xa (v:Value) : oneCell (.sc v)=true:=rfl
@[go_sem] theorem ax3 (b o:Nat) : oneCell (.ptr b o)=true:=rfl
@[go_sem] theorem ax1 (b o n:Nat) (c:Cap) : oneCell (.slc b o n c)=true:=rfl
@[go_sem] theorem axY (b:Nat) : oneCell (.emp b)=true:=rfl
@[go_sem] theorem axZ (b:Nat) : oneCell (.map b)=true:=rfl
@[go_sem] theorem ax4 (f:Fn) (xs ys:List AV) : oneCell (.fn f xs ys)=true:=rfl
end
theorem RM.afy {M:RM} {b:Nat} {l:List AV} {p:Bool} {e f:Nat} (h:M.heap b=some (.row l p e f)) (o k:Nat) : M.loads b o k=AU (some l) o k:=by rw[RM.MM,RM.Ca h]
theorem RM.cell_of {M:RM} {b:Nat} {l:List AV} {p:Bool} {e f:Nat} (h:M.heap b=some (.row l p e f)) (o:Nat) : M.cell b o=l[o]?:=RM.aeZ h
theorem RM.u6 {M:RM} {b:Nat} {l:List AV} {p:Bool} {e f:Nat} (h:M.heap b=some (.row l p e f)) (o:Nat) (vs:List AV) : M.stores b o vs=(sD l f o vs).map fun l'=>M.put b (.row l' p e f):=RM.Co h
theorem ag.aD {bs:List Nat} {M M' : RM} (h:ag bs M M') {b:Nat} {x:RB} (hh:M.heap b=some x) (hlt:b<M.next) (hb:b ∉ bs) : M'.heap b=some x:=by rw[h.heap b hlt hb,hh]
def aaj (tab run:iB) : iB:=fun f args A=>match tab f args A with
 | some r=>some r
 | none=>run f args A
def KG (P:Program) (X:Ext) (tab:iB) (L:Nat) : Nat→iB
 | 0,_,_,_=>none
 | n + 1,f,args,A=>match has X.split f with
   | true=>Xv (TV P X L (aaj tab (KG P X tab L n))) f args A
   | false=>TV P X L (aaj tab (KG P X tab L n)) f args A
inductive Ans where
 | val (v:AV)
 | rows (n:Nat) (v:AV) (bs:List (Nat × dz)) (n' : Nat)
structure aS where
 args:List AV
 fp:List (Nat × dz):=[]
 dead:List Nat:=[]
 nx:Nat:=0
 ans:Ans
def yD:Tree dz→List (Nat × dz)→Tree dz
 | t,[]=>t
 | t,(b,x) :: r=>yD (t.set b x) r
def Jw:Tree dz→List Nat→Tree dz
 | t,[]=>t
 | t,b :: r=>Jw (t.del b) r
def KL (A:AW) : List (Nat × dz)→Bool
 | []=>true
 | (b,x) :: r=>match A.heap.get b with
   | some y=>Gv x y && KL A r
   | none=>false
def aec (A:AW) (e:aS) : Option (AV × AW) :=
 match KL A e.fp with
 | false=>none
 | true=>match e.ans with
   | .val v=>some (v,A)
   | .rows n v bs n'=>match Nat.beq n A.next with
     | true=>some (v,{ next:=n',heap:=yD (Jw A.heap e.dead) bs })
     | false=>none
def Ki:List aS→List AV→AW→Option (AV × AW)
 | [],_,_=>none
 | e :: es,args,A=>match tY e.args args with
   | true=>match aec A e with
     | some r=>some r
     | none=>Ki es args A
   | false=>Ki es args A
abbrev Table:=List (Nat × List aS)
def Gz:Table→iB
 | [],_,_,_=>none
 | (g,es) :: T,f,args,A=>match Nat.beq g f with
   | true=>match Ki es args A with
     | some r=>some r
     | none=>Gz T f args A
   | false=>Gz T f args A
def Pz:List Nat→Nat→Bool
 | [],_=>false
 | k :: ks,b=>match Nat.beq k b with
   | true=>true
   | false=>Pz ks b
mutual
def within (ks:List Nat) : AV→Bool
 | .sc _ | .top | .atl _=>true
 | .ptr b _ | .slc b _ _ _ | .emp b | .map b=>Pz ks b
 | .fn _ xs ys=>qC ks xs && qC ks ys
 | .ifc _ x=>within ks x
 | .agg xs | .tup xs=>qC ks xs
def qC (ks:List Nat) : List AV→Bool
 | []=>true
 | x :: xs=>within ks x && qC ks xs
end
theorem rW {b:Nat} : ∀ {ks:List Nat},Pz ks b=true↔b∈ks
 | []=>by simp[Pz]
 | k :: ks=>by
   simp only[Pz]
   split
   ·rename_i h
    simp[bQ h]
   ·rename_i h
    rw[rW,List.mem_cons]
    constructor
    ·exact .inr
    ·rintro(e | e)
     ·exact absurd e.symm (Ce h)
     ·exact e
mutual
theorem rY {ρ ρ' : Ren} {ks:List Nat} (hk:∀ b∈ks,∀ i,ρ b=some i→ρ' b=some i) : ∀ (x:AV) {v:Value},within ks x=true→ax ρ x v→ax ρ' x v
 | .top,v,_,_=>.top v
 | .atl k,v,_,hr=>by cases hr; exact .atl _ _ (by assumption)
 | .sc u,v,_,hr=>by cases hr; exact .sc _ (by assumption)
 | .ptr b o,v,h,hr=>by
   simp only[within] at h
   cases hr with
   | ptr _ _ i e=>exact .ptr _ _ i (hk b (rW.1 h) i e)
 | .slc b o l c,v,h,hr=>by
   simp only[within] at h
   cases hr with
   | jd _ _ _ c i e=>exact .jd _ _ _ c i (hk b (rW.1 h) i e)
   | lT _ k _ i e q=>exact .lT _ k _ i (hk b (rW.1 h) i e) q
 | .emp b,v,h,hr=>by
   simp only[within] at h
   cases hr with
   | emp _ a c=>exact .emp _ a c
 | .map b,v,h,hr=>by
   simp only[within] at h
   cases hr with
   | map _ i e=>exact .map _ i (hk b (rW.1 h) i e)
 | .fn f xs ys,v,h,hr=>by
   simp only[within,Bool.and_eq_true] at h
   cases hr with
   | fn _ _ _ us vs p a b=>exact .fn f xs ys us vs p (qz hk xs h.1 a) (qz hk ys h.2 b)
 | .ifc t x,v,h,hr=>by
   simp only[within] at h
   cases hr with
   | ifc _ _ v a=>exact .ifc t x v (rY hk x h a)
 | .agg xs,v,h,hr=>by
   simp only[within] at h
   cases hr with
   | agg _ vs a=>exact .agg xs vs (qz hk xs h a)
 | .tup xs,v,h,hr=>by
   simp only[within] at h
   cases hr with
   | tup _ vs a=>exact .tup xs vs (qz hk xs h a)
theorem qz {ρ ρ' : Ren} {ks:List Nat} (hk:∀ b∈ks,∀ i,ρ b=some i→ρ' b=some i) : ∀ (xs:List AV) {vs:List Value},qC ks xs=true→bD ρ xs vs→bD ρ' xs vs
 | [],vs,_,hr=>by cases hr; exact .nil
 | x :: xs,vs,h,hr=>by
   simp only[qC,Bool.and_eq_true] at h
   cases hr with
   | cons _ v _ vs a b=>exact .cons x v xs vs (rY hk x h.1 a) (qz hk xs h.2 b)
end
def EE (p:AV→Bool) : Tree AV→Bool
 | .leaf=>true
 | .node l v r=>(match v with
   | some x=>p x
   | none=>true) && EE p l && EE p r
theorem DX {p:AV→Bool} : ∀ {t:Tree AV} {k:Nat} {x:AV},EE p t=true→t.get k=some x→p x=true
 | .leaf,k,x,_,h=>by simp[Tree.get] at h
 | .node l v r,k,x,ha,h=>by
   simp only[EE,Bool.and_eq_true] at ha
   simp only[Tree.get] at h
   split at h
   ·rw[h] at ha; exact ha.1.1
   ·split at h
    ·exact DX ha.1.2 h
    ·exact DX ha.2 h
def Od (ks:List Nat) : List (AV × AV × Nat)→Bool
 | []=>true
 | (k,v,_) :: es=>within ks k && within ks v && Od ks es
def Ty (ks:List Nat) : dz→Bool
 | .row _ t zs _ _ _=>EE (within ks) t && qC ks zs
 | .map es _=>Od ks es
 | .iter m _ _ _=>match m with
   | some b=>Pz ks b
   | none=>true
 | .mX _ _=>true
theorem Lm {ks:List Nat} : ∀ {xs:List AV},qC ks xs=true→∀ x∈xs,within ks x=true
 | [],_,x,h=>by cases h
 | y :: ys,h,x,hx=>by
   simp only[qC,Bool.and_eq_true] at h
   rcases List.mem_cons.1 hx with e | hx
   ·rw[e]; exact h.1
   ·exact Lm h.2 x hx
theorem YR {β:Type} : ∀ {l:List β} {n:Nat} {x:β},nth l n=some x→x∈l
 | [],_,_,h=>by simp[nth] at h
 | y :: ys,0,x,h=>by simp[nth] at h; simp[h]
 | y :: ys,n + 1,x,h=>by
   simp only[nth] at h
   exact List.mem_cons_of_mem _ (YR h)
theorem acG {tree:Tree AV} {zs:List AV} {n k:Nat} {x:AV} (h:cellAt tree zs n k=some x) : tree.get k=some x∨x∈zs:=by
 unfold cellAt at h
 split at h
 ·cases h
 ·split at h
  ·rename_i v hv
   cases h
   exact .inl hv
  ·split at h
   ·cases h
   ·cases h
    exact .inr (List.mem_cons_self ..)
   ·exact .inr (YR h)
theorem dQ.restrict {ρ ρ' : Ren} {ks:List Nat} (hk:∀ b∈ks,∀ i,ρ b=some i→ρ' b=some i) : ∀ {es:List (AV × AV × Nat)} {fs:List MapEntry},Od ks es=true→dQ ρ es fs→dQ ρ' es fs
 | [],[],_,_=>trivial
 | [],_ :: _,_,h=>h.elim
 | _ :: _,[],_,h=>h.elim
 | (a,b,n) :: es,f :: fs,h,⟨h1,h2,h3,h4⟩=>by
   simp only[Od,Bool.and_eq_true] at h
   exact⟨rY hk a h.1.1 h1,rY hk b h.1.2 h2,h3,dQ.restrict hk h.2 h4⟩
theorem jZ.restrict {P:Program} {ρ ρ' : Ren} {ks:List Nat} (hk:∀ b∈ks,∀ i,ρ b=some i→ρ' b=some i) {i:iQ} : ∀ {x:dz} {o:Obj},Ty ks x=true→jZ P ρ i x o→jZ P ρ' i x o
 | .row n t zs opn el fz,o,h,⟨c,fr,e,k⟩=>by
   simp only[Ty,Bool.and_eq_true] at h
   refine⟨c,fr,e,k.size,fun j x hx=>?_,k.free,k.mark,k.opn,k.sh0⟩
   obtain⟨v,h1,h2⟩:=k.val j x hx
   refine⟨v,h1,rY hk x ?_ h2⟩
   rcases acG hx with hx | hx
   ·exact DX h.1 hx
   ·exact Lm h.2 x hx
 | .map es clock,o,h,⟨fs,e,k⟩=>⟨fs,e,dQ.restrict hk h k⟩
 | .iter m since seen st,o,h,⟨m',e,k⟩=>by
   refine⟨m',e, ?_⟩
   cases m with
   | none=>exact k
   | some b =>
     obtain⟨j,h1,h2⟩:=k
     exact⟨j,hk b (rW.1 h) j h1,h2⟩
 | .mX s pos,o,h,k=>k
section
variable {P:Program} {X:Ext}
theorem PE {base:Base} {tab run:iB} (ht:lQ P base tab) (hr:lQ P base run) : lQ P base (aaj tab run):=by
 intro f args A v A' h
 unfold aaj at h
 split at h
 ·rename_i r hr'
  cases h
  exact ht f args A v A' hr'
 ·exact hr f args A v A' h
theorem DR {base:Base} (hng:G7 P X) (hm:P.follows .mixedOrders=true) {tab:iB} (ht:lQ P base tab) (L:Nat) : ∀ n,lQ P base (KG P X tab L n)
 | 0=>by intro f args A v A' h; simp[KG] at h
 | n + 1=>by
   intro f args A v A' h
   simp only[KG] at h
   split at h
   ·exact Vi (K4 hng hm L (PE ht (DR hng hm ht L n))) f args A v A' h
   ·exact K4 hng hm L (PE ht (DR hng hm ht L n)) f args A v A' h
def rR (P:Program) (I:World→Prop) (f:Nat) (e:aS) : Prop :=
 ∀ (base:Base),(∀ w,base.inv w→I w)→∀ A v A',aec A e=some (v,A')→∀ (ρ:Ren) (w:World) (us:List Value),bD ρ e.args us→bX P base ρ A w→base≤w.heap.size →
   Calls P f ⟨us⟩ w fun r w'=>∃ ρ' v',r=.returned v'∧Step base A.next ρ w ρ' w'∧bX P base ρ' A' w'∧A.next≤A'.next∧ax ρ' v v'
def jO (P:Program) (I:World→Prop) (T:Table) : Prop:=∀ g∈T,∀ e∈g.2,rR P I g.1 e
theorem CY {base:Base} {I:World→Prop} (hI:∀ w,base.inv w→I w) {f:Nat} : ∀ (es:List aS),(∀ e∈es,rR P I f e)→∀ {args A v A'},Ki es args A=some (v,A')→∀ (ρ:Ren) (w:World) (us:List Value),bD ρ args us→bX P base ρ A w→base≤w.heap.size →
  Calls P f ⟨us⟩ w fun r w'=>∃ ρ' v',r=.returned v'∧Step base A.next ρ w ρ' w'∧bX P base ρ' A' w'∧A.next≤A'.next∧ax ρ' v v'
 | [],_,args,A,v,A',h=>by simp[Ki] at h
 | e :: es,hes,args,A,v,A',h=>by
   simp only[Ki] at h
   split at h
   ·rename_i hq
    have hq:=rD _ _ hq
    subst hq
    split at h
    ·rename_i r hr
     cases h
     exact hes e (List.mem_cons_self ..) base hI A v A' hr
    ·exact CY hI es (fun e he=>hes e (List.mem_cons_of_mem _ he)) h
   ·exact CY hI es (fun e he=>hes e (List.mem_cons_of_mem _ he)) h
theorem CS {base:Base} {I:World→Prop} (hI:∀ w,base.inv w→I w) : ∀ (T:Table),jO P I T→lQ P base (Gz T)
 | [],_=>by intro f args A v A' h; simp[Gz] at h
 | (g,es) :: T,hT=>by
   intro f args A v A' h
   have hrest:=CS hI T (fun g hg=>hT g (List.mem_cons_of_mem _ hg))
   simp only[Gz] at h
   split at h
   ·rename_i hq
    have hq:=bQ hq
    subst hq
    split at h
    ·rename_i r hr
     cases h
     exact CY hI es (hT (g,es) (List.mem_cons_self ..)) hr
    ·exact hrest g args A v A' h
   ·exact hrest f args A v A' h
theorem zu:∀ (bs:List (Nat × dz)) (t:Tree dz) {k:Nat} {x:dz},(yD t bs).get k=some x→(k,x)∈bs∨(t.get k=some x∧∀ y,(k,y) ∉ bs)
 | [],t,k,x,h=>.inr ⟨h,fun y hy=>by cases hy⟩
 | (b,y) :: r,t,k,x,h=>by
   simp only[yD] at h
   rcases zu r _ h with h | ⟨h,hn⟩
   ·exact .inl (List.mem_cons_of_mem _ h)
   ·rw[Tree.bR] at h
    split at h
    ·rename_i e
     cases h
     subst e
     exact .inl (List.mem_cons_self ..)
    ·rename_i hne
     refine .inr ⟨h,fun z hz=>?_⟩
     rcases List.mem_cons.1 hz with e | hz
     ·cases e; exact hne rfl
     ·exact hn z hz
theorem GG:∀ (ds:List Nat) (t:Tree dz) {k:Nat} {x:dz},(Jw t ds).get k=some x→t.get k=some x∧k ∉ ds
 | [],t,k,x,h=>⟨h,by simp⟩
 | d :: r,t,k,x,h=>by
   simp only[Jw] at h
   obtain⟨h1,h2⟩:=GG r _ h
   rw[Tree.wT] at h1
   split at h1
   ·cases h1
   ·rename_i hne
    exact⟨h1,by simp only[List.mem_cons,not_or]; exact⟨hne,h2⟩⟩
theorem Iz {A:AW} : ∀ (l:List (Nat × dz)),KL A l=true→∀ b x,(b,x)∈l→A.heap.get b=some x
 | [],_,b,x,hm=>by cases hm
 | (c,y) :: r,h,b,x,hm=>by
   simp only[KL] at h
   split at h <;> first | (cases h; done) | skip
   rename_i z hz
   rw[Bool.and_eq_true] at h
   rcases List.mem_cons.1 hm with e | hm
   ·cases e
    rw[hz,Aq h.1]
   ·exact Iz r h.2 b x hm
def keysOf:List (Nat × dz)→List Nat
 | []=>[]
 | (b,_) :: r=>b :: keysOf r
theorem Gq {b:Nat} : ∀ {l:List (Nat × dz)},b∈keysOf l↔∃ x,(b,x)∈l
 | []=>by simp[keysOf]
 | (c,y) :: r=>by
   simp only[keysOf,List.mem_cons,Gq (l:=r)]
   constructor
   ·rintro(e | ⟨x,h⟩)
    ·subst e; exact⟨y,.inl rfl⟩
    ·exact⟨x,.inr h⟩
   ·rintro⟨x,h | h⟩
    ·cases h; exact .inl rfl
    ·exact .inr ⟨x,h⟩
def abQ (ks:List Nat) (n:Nat) : List (Nat × dz)→List Nat→Bool
 | [],_=>true
 | (b,x) :: r,seen=>Ty ks x && Nat.ble (b + 1) n && !Pz seen b && abQ ks n r (b :: seen)
theorem RZ {ks:List Nat} {n:Nat} : ∀ (l:List (Nat × dz)) (seen:List Nat),abQ ks n l seen=true→(∀ b x,(b,x)∈l→Ty ks x=true∧b<n∧b ∉ seen)∧∀ b x y,(b,x)∈l→(b,y)∈l→x=y
 | [],_,_=>⟨fun b x h=>(by cases h),fun b x y h=>(by cases h)⟩
 | (c,z) :: r,seen,h=>by
   simp only[abQ,Bool.and_eq_true,Bool.not_eq_true'] at h
   obtain⟨⟨⟨h1,h2⟩,h3⟩,h4⟩:=h
   obtain⟨i1,i2⟩:=RZ r (c :: seen) h4
   have hc:c ∉ seen:=fun hm=>by rw[rW.2 hm] at h3; cases h3
   refine⟨fun b x hm=>?_,fun b x y hx hy=>?_⟩
   ·rcases List.mem_cons.1 hm with e | hm
    ·cases e; exact⟨h1,bL h2,hc⟩
    ·obtain⟨a1,a2,a3⟩:=i1 b x hm
     exact⟨a1,a2,fun h=>a3 (List.mem_cons_of_mem _ h)⟩
   ·rcases List.mem_cons.1 hx with e | hx <;> rcases List.mem_cons.1 hy with f | hy
    ·cases e; cases f; rfl
    ·cases e
     exact absurd (List.mem_cons_self ..) (i1 _ _ hy).2.2
    ·cases f
     exact absurd (List.mem_cons_self ..) (i1 _ _ hx).2.2
    ·exact i2 b x y hx hy
def Pn (ks:List Nat) (n:Nat) (A:AW) : List (Nat × dz)→Bool
 | []=>true
 | (b,x) :: r=>(Nat.ble n b || Pz ks b) && (match A.heap.get b with
   | some y=>Gv x y
   | none=>false) && Pn ks n A r
def Jr (A:AW) (gone:List Nat) : List (Nat × dz)→Bool
 | []=>true
 | (b,x) :: r=>(Pz gone b || (match A.heap.get b with
   | some y=>Gv x y
   | none=>false)) && Jr A gone r
def EL (e:aS) : Nat:=match e.ans with
 | .val _=>e.nx
 | .rows m _ _ _=>m
def MC (P:Program) (X:Ext) (tab:iB) (L n:Nat) (f:Nat) (e:aS) : Bool :=
 match qC (keysOf e.fp) e.args && abQ (keysOf e.fp) (EL e) e.fp [] with
 | false=>false
 | true=>match KG P X tab L n f e.args { next:=EL e,heap:=yD .leaf e.fp } with
   | none=>false
   | some (v',A')=>match e.ans with
     | .val v=>within [] v && pY v' v && Jr A' [] e.fp
     | .rows _ v bs m'=>pY v' v && Nat.beq A'.next m' && Pn (keysOf e.fp) (EL e) A' bs && Jr A' (keysOf bs++e.dead) e.fp
theorem K8 {ks:List Nat} {n:Nat} {A:AW} : ∀ (bs:List (Nat × dz)),Pn ks n A bs=true→∀ b x,(b,x)∈bs→(n≤b∨b∈ks)∧A.heap.get b=some x
 | [],_,b,x,hm=>by cases hm
 | (c,y) :: r,h,b,x,hm=>by
   simp only[Pn,Bool.and_eq_true] at h
   obtain⟨⟨h1,h2⟩,h3⟩:=h
   rcases List.mem_cons.1 hm with e | hm
   ·cases e
    split at h2
    ·rename_i z hz
     rw[Bool.or_eq_true] at h1
     refine⟨?_, ?_⟩
     ·rcases h1 with h1 | h1
      ·exact .inl (bL h1)
      ·exact .inr (rW.1 h1)
     ·rw[hz,Aq h2]
    ·cases h2
   ·exact K8 r h3 b x hm
theorem Dy {gone:List Nat} {A:AW} : ∀ (l:List (Nat × dz)),Jr A gone l=true→∀ b x,(b,x)∈l→b∈gone∨A.heap.get b=some x
 | [],_,b,x,hm=>by cases hm
 | (c,y) :: r,h,b,x,hm=>by
   simp only[Jr,Bool.and_eq_true] at h
   obtain⟨h1,h3⟩:=h
   rcases List.mem_cons.1 hm with e | hm
   ·cases e
    rw[Bool.or_eq_true] at h1
    rcases h1 with h1 | h1
    ·exact .inl (rW.1 h1)
    ·split at h1
     ·rename_i z hz
      rw[hz,Aq h1]
      exact .inr rfl
     ·cases h1
   ·exact Dy r h3 b x hm
theorem bX.none {P:Program} {base:Base} {n:Nat} {w:World} (hi:base.inv w) : bX P base (fun _=>none) { next:=n,heap:=.leaf } w :=
 ⟨fun _ _ h=>(by cases h),fun _ _ _ h=>(by cases h),fun _ _ _ _ _ _ h=>(by cases h),fun _ _ h=>(by simp[Tree.get] at h),fun _ _ _ h=>(by cases h),hi⟩
def only(ρ:Ren) (ks:List Nat) : Ren:=fun b=>if b∈ks then ρ b else none
theorem qA {ρ:Ren} {ks:List Nat} {b:Nat} {i:iQ} (h:only ρ ks b=some i) : b∈ks∧ρ b=some i:=by
 unfold only at h
 split at h
 ·exact⟨‹_›,h⟩
 ·cases h
theorem EC {ρ:Ren} {ks:List Nat} {b:Nat} (h:b∈ks) : only ρ ks b=ρ b:=by simp[only,h]
theorem Qe (hng:G7 P X) (hm:P.follows .mixedOrders=true) {I:World→Prop} {tab:iB} (ht:∀ base:Base,(∀ w,base.inv w→I w)→lQ P base tab) {L n f:Nat} {e:aS} (h:MC P X tab L n f e=true) : rR P I f e:=by
 unfold MC at h
 split at h <;> first | (cases h; done) | skip
 rename_i hfl
 rw[Bool.and_eq_true] at hfl
 obtain⟨hwi,hfp⟩:=hfl
 obtain⟨hf1,hf2⟩:=RZ _ _ hfp
 split at h <;> first | (cases h; done) | skip
 rename_i v1 A1 hc
 intro base hI A v A' ha ρ w us hargs hw hb
 unfold aec at ha
 split at ha <;> first | (cases ha; done) | skip
 rename_i hhas
 have hrow:=Iz _ hhas
 -- the blocks alone
 let ks:=keysOf e.fp
 have hks:∀ {b},b∈ks↔∃ x,(b,x)∈e.fp:=Gq
 have hto:∀ b∈ks,∀ i,ρ b=some i→only ρ ks b=some i:=fun b hb i h=>by rw[EC hb]; exact h
 have amJ:bD (only ρ ks) e.args us:=qz hto _ hwi hargs
 have NW:∀ b x,(yD .leaf e.fp).get b=some x→(b,x)∈e.fp:=fun b x h=>by
  rcases zu _ _ h with h | ⟨h,_⟩
  ·exact h
  ·simp[Tree.get] at h
 have hw0:bX P base (only ρ ks) { next:=EL e,heap:=yD .leaf e.fp } w:=by
  refine⟨fun b i h=>?_,fun b i x h hx=>?_,fun b b' i i' x x' h h' hx hx' he=>?_,fun b x hx=>?_,fun b i x h hx=>?_,hw.inv⟩
  ·obtain⟨hbk,hbi⟩:=qA h
   obtain⟨x,hx⟩:=hks.1 hbk
   exact⟨(hf1 b x hx).2.1,(hw.dom b i hbi).2⟩
  ·obtain⟨hbk,hbi⟩:=qA h
   have hm:=NW b x hx
   obtain⟨o,ho,hrel⟩:=hw.blk b i x hbi (hrow b x hm)
   exact⟨o,ho,hrel.restrict hto (hf1 b x hm).1⟩
  ·exact hw.sep _ _ _ _ _ _ (qA h).2 (qA h').2 (hrow _ _ (NW _ _ hx)) (hrow _ _ (NW _ _ hx')) he
  ·exact(hf1 b x (NW b x hx)).2.1
  ·exact hw.lo b i x (qA h).2 (hrow _ _ (NW _ _ hx))
 have aaG:∀ b i,b ∉ ks→ρ b=some i→∀ x,A.heap.get b=some x→∀ b0 i0,only ρ ks b0=some i0→i0.cb≠i.cb:=by
  intro b i hbk hbi x hx b0 i0 h0 he
  obtain⟨h0k,h0i⟩:=qA h0
  obtain⟨x0,hx0⟩:=hks.1 h0k
  exact hbk (hw.sep _ _ _ _ _ _ h0i hbi (hrow _ _ hx0) hx he▸h0k)
 have main:=DR hng hm (ht base hI) L n f _ _ _ _ hc (only ρ ks) w us amJ hw0 hb
 split at ha
 ·
  rename_i v0 ZK
  cases ha
  rw[ZK] at h
  dsimp only at h
  simp only[Bool.and_eq_true] at h
  obtain⟨⟨h1,h2⟩,h3⟩:=h
  have hv1:=wU _ _ h2
  subst hv1
  have hkept:=Dy _ h3
  refine main.mono fun r w' hR=>?_
  obtain⟨ρ',v',rfl,hst,hwr,hnx,hv⟩:=hR
  have hback:∀ b∈ks,∀ i,ρ' b=some i→ρ b=some i:=fun b hbk i h=>by
   obtain⟨x,hx⟩:=hks.1 hbk
   rw[hst.ext b (hf1 b x hx).2.1,EC hbk] at h
   exact h
  refine⟨ρ,v',rfl,⟨hst.os,hst.tape,hst.output,hst.size,fun c hc hun=>hst.frame c hc fun b i hbi=>hun b i (qA hbi).2,fun _ _=>rfl,fun b i h=>.inl ⟨b,i,h,rfl⟩,hst.low⟩,⟨fun b i h=>?_,fun b i x hbi hx=>?_,hw.sep,hw.top,hw.lo,hwr.inv⟩,Nat.le_refl _,rY (ks:=[]) (fun b hb=>by cases hb) _ h1 hv⟩
  ·exact⟨(hw.dom b i h).1,Nat.lt_of_lt_of_le (hw.dom b i h).2 hst.size⟩
  ·by_cases hbk:b∈ks
   ·obtain⟨y,hy⟩:=hks.1 hbk
    have hxy:x=y:=by have:=hrow b y hy; rw[hx] at this; exact Option.some.inj this
    subst hxy
    rcases hkept b x hy with hg | hg
    ·cases hg
    ·have hρ' : ρ' b=some i:=by rw[hst.ext b (hf1 b x hy).2.1,EC hbk]; exact hbi
     obtain⟨o,ho,hrel⟩:=hwr.blk b i x hρ' hg
     exact⟨o,ho,hrel.restrict hback (hf1 b x hy).1⟩
   ·obtain⟨o,ho,hrel⟩:=hw.blk b i x hbi hx
    exact⟨o,by rw[hst.frame _ (hw.dom b i hbi).2 (aaG b i hbk hbi x hx)]; exact ho,hrel⟩
 ·
  rename_i m v0 bs m' ZK
  have hnext:EL e=m:=by unfold EL; rw[ZK]
  rw[ZK] at h
  dsimp only at h
  simp only[Bool.and_eq_true] at h
  obtain⟨⟨⟨h1,h2⟩,h3⟩,h4⟩:=h
  have hv1:=wU _ _ h1
  have h2:=bQ h2
  subst hv1
  subst h2
  split at ha <;> first | (cases ha; done) | skip
  rename_i hn
  have hn:=bQ hn
  rw[hnext,hn] at main hw0 hf1 h3
  cases ha
  have hrows:=K8 bs h3
  have hkept:=Dy _ h4
  refine main.mono fun r w' hR=>?_
  obtain⟨ρ',v',rfl,hst,hwr,hnx,hv⟩:=hR
  dsimp only at hst hnx
  let ρ2:Ren:=fun b=>if b<A.next then ρ b else ρ' b
  have hlo:∀ b,b<A.next→ρ2 b=ρ b:=fun b h=>by simp[ρ2,h]
  have hhi:∀ b,A.next≤b→ρ2 b=ρ' b:=fun b h=>by simp only[ρ2]; rw[if_neg (by omega)]
  have hold:∀ b i,b<A.next→ρ' b=some i→b∈ks∧ρ b=some i:=fun b i h hbi=>by
   rw[hst.ext b h] at hbi
   exact qA hbi
  have hle1:ρ.le ρ2:=fun b i h=>by rw[hlo b (hw.dom b i h).1]; exact h
  have hle2:ρ'.le ρ2:=fun b i h=>by
   rcases Nat.lt_or_ge b A.next with h' | h'
   ·rw[hlo b h']; exact(hold b i h' h).2
   ·rw[hhi b h']; exact h
  -- a row of the outcome: changed or new; or as it was
  have hget:∀ b i x,ρ2 b=some i→(yD (Jw A.heap e.dead) bs).get b=some x→(ρ' b=some i∧A1.heap.get b=some x)∨(b ∉ ks∧b<A.next∧ρ b=some i∧A.heap.get b=some x):=by
   intro b i x hbi hx
   rcases zu bs _ hx with hx | ⟨hx,hnb⟩
   ·obtain⟨hwh,hx⟩:=hrows b x hx
    refine .inl ⟨?_,hx⟩
    rcases Nat.lt_or_ge b A.next with h' | h'
    ·rcases hwh with hwh | hwh
     ·omega
     ·rw[hst.ext b h',EC hwh,← hlo b h']; exact hbi
    ·rw[← hhi b h']; exact hbi
   ·obtain⟨hx,hnd⟩:=GG _ _ hx
    have hbn:=hw.top b x hx
    rw[hlo b hbn] at hbi
    by_cases hbk:b∈ks
    ·obtain⟨y,hy⟩:=hks.1 hbk
     have hxy:x=y:=by have:=hrow b y hy; rw[hx] at this; exact Option.some.inj this
     subst hxy
     rcases hkept b x hy with hg | hg
     ·rcases List.mem_append.1 hg with hg | hg
      ·obtain⟨z,hz⟩:=Gq.1 hg
       exact absurd hz (hnb z)
      ·exact absurd hg hnd
     ·exact .inl ⟨by rw[hst.ext b hbn,EC hbk]; exact hbi,hg⟩
    ·exact .inr ⟨hbk,hbn,hbi,hx⟩
  have Oo:∀ b i x b' i' x',b ∉ ks→ρ b=some i→A.heap.get b=some x→ρ' b'=some i'→A1.heap.get b'=some x'→i.cb≠i'.cb:=by
   intro b i x b' i' x' hbk hbi hx hb' hx' he
   rcases hst.fresh b' i' hb' with⟨b0,i0,h0,e0⟩ | hge
   ·exact aaG b i hbk hbi x hx b0 i0 h0 (by rw[e0,he])
   ·have:=(hw.dom b i hbi).2; omega
  refine⟨ρ2,v',rfl,⟨hst.os,hst.tape,hst.output,hst.size,fun c hc hun=>hst.frame c hc fun b i hbi=>hun b i (qA hbi).2,fun b h=>hlo b h,fun b i h=>?_,hst.low⟩,⟨fun b i h=>?_,fun b i x h1 h2=>?_,fun b b' i i' x x' hb hb' hx hx' he=>?_,fun b x h=>?_,fun b i x h1 h2=>?_,hwr.inv⟩,hnx,hv.mono hle2⟩
  ·rcases Nat.lt_or_ge b A.next with h' | h'
   ·rw[hlo b h'] at h; exact .inl ⟨b,i,h,rfl⟩
   ·rw[hhi b h'] at h
    rcases hst.fresh b i h with⟨b0,i0,h0,e0⟩ | hge
    ·exact .inl ⟨b0,i0,(qA h0).2,e0⟩
    ·exact .inr hge
  ·rcases Nat.lt_or_ge b A.next with h' | h'
   ·rw[hlo b h'] at h
    exact⟨Nat.lt_of_lt_of_le (hw.dom b i h).1 hnx,Nat.lt_of_lt_of_le (hw.dom b i h).2 hst.size⟩
   ·rw[hhi b h'] at h
    exact hwr.dom b i h
  ·rcases hget b i x h1 h2 with⟨g1,g2⟩ | ⟨g1,g2,g3,g4⟩
   ·obtain⟨o,ho,hrel⟩:=hwr.blk b i x g1 g2
    exact⟨o,ho,hrel.mono hle2⟩
   ·obtain⟨o,ho,hrel⟩:=hw.blk b i x g3 g4
    exact⟨o,by rw[hst.frame _ (hw.dom b i g3).2 (aaG b i g1 g3 x g4)]; exact ho,hrel.mono hle1⟩
  ·rcases hget b i x hb hx with⟨g1,g2⟩ | ⟨g1,g2,g3,g4⟩ <;> rcases hget b' i' x' hb' hx' with⟨k1,k2⟩ | ⟨k1,k2,k3,k4⟩
   ·exact hwr.sep _ _ _ _ _ _ g1 k1 g2 k2 he
   ·exact absurd he.symm (Oo b' i' x' b i x k1 k3 k4 g1 g2)
   ·exact absurd he (Oo b i x b' i' x' g1 g3 g4 k1 k2)
   ·exact hw.sep _ _ _ _ _ _ g3 k3 g4 k4 he
  ·rcases zu bs _ h with h | ⟨h,_⟩
   ·exact hwr.top b x (hrows b x h).2
   ·exact Nat.lt_of_lt_of_le (hw.top b x (GG _ _ h).1) hnx
  ·rcases hget b i x h1 h2 with⟨g1,g2⟩ | ⟨g1,g2,g3,g4⟩
   ·exact hwr.lo b i x g1 g2
   ·exact hw.lo b i x g3 g4
def kw (P:Program) (X:Ext) (T:Table) (L n:Nat) (B:Table) : Bool:=B.all fun g=>g.2.all (MC P X (Gz T) L n g.1)
theorem jO.nil {I:World→Prop} : jO P I []:=fun g hg=>by cases hg
theorem jO.add (hng:G7 P X) (hm:P.follows .mixedOrders=true) {I:World→Prop} {T B:Table} (hT:jO P I T) {L n:Nat} (h:kw P X T L n B=true) : jO P I (B++T):=by
 intro g hg e he
 rcases List.mem_append.1 hg with hg | hg
 ·exact Qe hng hm (fun base hI=>CS hI T hT) (List.all_eq_true.1 (List.all_eq_true.1 h g hg) e he)
 ·exact hT g hg e he
open Go.WideShapes Go.ChangeShapes in
open Go.WideShapes Go.ChangeShapes in
end
structure Enc (α:Type) where
 size:Nat
 cells:α→List AV
 len:∀ a,(cells a).length=size
 one:∀ a,(cells a).all oneCell=true
section
variable {α:Type} (E:Enc α)
def Enc.row (xs:List α) : List AV:=xs.flatMap E.cells
theorem Enc.jb (x:α) (xs:List α) : E.row (x :: xs)=E.cells x++E.row xs:=rfl
theorem Enc.wG (xs ys:List α) : E.row (xs++ys)=E.row xs++E.row ys:=by simp[Enc.row]
theorem Enc.row_one (x:α) : E.row [x]=E.cells x:=by simp[Enc.row]
theorem Enc.fq:∀ (xs:List α),(E.row xs).length=xs.length * E.size
 | []=>by simp[Enc.row]
 | x :: xs=>by rw[Enc.jb,List.length_append,E.len,Enc.fq xs,List.length_cons,Nat.succ_mul,Nat.add_comm]
theorem Enc.qB:∀ (xs:List α),(E.row xs).all oneCell=true
 | []=>by simp[Enc.row]
 | x :: xs=>by rw[Enc.jb,List.all_append,E.one,Enc.qB xs]; rfl
theorem Enc.uo:∀ (xs:List α) (i:Nat),(E.row xs).drop (i * E.size)=E.row (xs.drop i)
 | [],i=>by simp[Enc.row]
 | x :: xs,0=>by simp
 | x :: xs,i + 1=>by
   rw[Enc.jb,Nat.succ_mul,Nat.add_comm,← List.drop_drop,List.drop_left' (E.len x),Enc.uo xs i]
   rfl
theorem Enc.uA:∀ (xs:List α) (i:Nat),(E.row xs).take (i * E.size)=E.row (xs.take i)
 | [],i=>by simp[Enc.row]
 | x :: xs,0=>by simp[Enc.row]
 | x :: xs,i + 1=>by
   rw[Enc.jb,Nat.succ_mul,Nat.add_comm,List.take_append,List.take_of_length_le (by rw[E.len]; omega),E.len,Nat.add_sub_cancel_left,Enc.uA xs i]
   rfl
theorem Enc.Y3 {xs:List α} {i:Nat} (hi:i<xs.length) : ((E.row xs).drop (i * E.size)).take E.size=E.cells xs[i]:=by
 rw[Enc.uo,List.drop_eq_getElem_cons hi,Enc.jb]
 rw[List.take_append_of_le_length (by rw[E.len]; exact Nat.le_refl _),List.take_of_length_le (by rw[E.len]; exact Nat.le_refl _)]
abbrev Sl (M:RM) (v:AV) (xs:List α) : Prop:=aL M E.size v (E.row xs) xs.length
abbrev Ow (M:RM) (base el:Nat) (v:AV) (xs:List α) : Prop:=Own M base el E.size v (E.row xs) xs.length
variable {E} {M M' : RM} {v:AV} {xs:List α}
theorem Sl.elem (h:Sl E M v xs) {i:Nat} (hi:i<xs.length) : ∃ b o,b<M.next∧b∈aG v∧(∀ (kd:IntKind) (K:AV→Prop),aA v (N kd (i:Int)) E.size K=K (.ptr b o))∧M.loads b o E.size=some (E.cells xs[i]):=by
 obtain⟨b,o,cap,rfl,hb,hl⟩:=h.pos (by omega)
 have hsum:i * E.size + E.size≤xs.length * E.size:=by rw[← Nat.succ_mul]; exact Nat.mul_le_mul_right _ hi
 refine⟨b,o + i * E.size,hb,by simp[aG],fun kd K=>?_, ?_⟩
 ·rw[qo]
  simp only[Int.toNat_natCast]
  exact propext ⟨fun h=>h.2.2,fun h=>⟨by omega,by omega,h⟩⟩
 ·rw[pQ hl (i * E.size) E.size hsum,E.Y3 hi]
theorem Sl.at (h:Sl E M v xs) {i:Nat} (sz:Nat) (j:Int) (hi:i<xs.length) (hsz:E.size=sz:=by rfl) (hj:j=(i:Int):=by rfl) : ∃ b o,b<M.next∧b∈aG v∧(∀ (kd:IntKind) (K:AV→Prop),aA v (N kd j) sz K=K (.ptr b o))∧M.loads b o sz=some (E.cells xs[i]):=by
 subst hsz hj; exact h.elem hi
theorem He {b o k:Nat} {cs:List AV} (h:M.loads b o k=some cs) {j:Nat} {x:AV} (hj:cs[j]?=some x) : M.cell b (o + j)=some x:=by
 have hlt:j<k:=by rw[← Ir h]; exact(List.getElem?_eq_some_iff.1 hj).1
 rw[adY h j hlt,hj]
theorem QK {b o k:Nat} {cs:List AV} (h:M.loads b o k=some cs) {x:AV} (hj:cs[0]?=some x) : M.cell b o=some x:=He h hj
theorem Qw {base T bytes:Nat} {zs:List AV} {u:AV} {ys:List α} {K:ak} (ho:Ow E M base T v xs) (hb:base≤M.next) (hs:1≤E.size) (hu:Sl E M u ys)
  (hn:(xs.length + ys.length) * bytes≤140737488355328) (hn2:xs.length + ys.length≤140737488355328)
  (hK:∀ v' M',Ow E M' base T v' (xs++ys)→ag (aG v) M M'→M.next≤M'.next→(v'=v∨∀ b∈aG v',M.next≤b)→K v' M') :
  appW T E.size bytes zs false v u M K:=by
 refine vg ho hb hs (aL.nZ hu _) (E.fq ys) (E.qB ys) hn hn2 ?_
 intro v' M' h1 h2 h3 h4
 refine hK v' M' ?_ h2 h3 h4
 rw[← E.wG] at h1
 simpa [Ow] using h1
theorem aaI {b o k:Nat} {cs:List AV} (h:M.loads b o k=some cs) (m:Nat) (hm:m≤k) : M.loads b o m=some (cs.take m):=pQ h 0 m (by omega)
theorem Sl.new {T c:Nat} {p:Bool} (ys:List α) : Sl E (M.push (.row (E.row ys) p T 0)) (.slc M.next 0 ys.length (.ex c)) ys :=
 .slc _ _ _ _ _ (by simp[RM.push]) (by rw[RM.dO (RM.aT _) (by rw[E.fq]; omega),List.drop_zero,← E.fq,List.take_length])
theorem KH {base T bytes:Nat} {zs:List AV} {a:α} {K:ak} (ho:Ow E M base T v xs) (hb:base≤M.next) (hs:1≤E.size)
  (hn:(xs.length + 1) * bytes≤140737488355328) (hn2:xs.length + 1≤140737488355328)
  (hK:∀ v' M',Ow E M' base T v' (xs++[a])→ag (aG v) M M'→M.next≤M'.next→(v'=v∨∀ b∈aG v',M.next≤b)→K v' M') :
  appW T E.size bytes zs false v (.slc M.next 0 1 (.ex 1)) (M.push (.row (E.cells a) false T 0)) K:=by
 have hk:ag [] M (M.push (.row (E.cells a) false T 0)):=(ag.refl _ _).push _
 refine Qw (ys:=[a]) (Own.keep ho hk (by simp)) (Nat.le_trans hb hk.next) hs (by rw[← E.row_one]; exact Sl.new [a]) hn hn2 ?_
 intro v' M' h1 h2 h3 h4
 exact hK v' M' h1 ((hk.mono (by simp)).trans h2) (Nat.le_trans hk.next h3) (h4.imp id fun h b hb=>Nat.le_trans hk.next (h b hb))
@[go_sem] theorem ayh {T:Nat} {zs:List AV} {K:RB→(Nat→AV)→Prop} : fO T 0 zs [] K=K (.row [] false T 0) (fun b=>.slc b 0 0 (.ex 0)):=by
 apply propext; unfold fO
 constructor
 ·rintro⟨l,h,hk⟩; cases h; exact hk
 ·intro hk; exact⟨_,rfl,hk⟩
theorem sI {T size:Nat} {zs:List AV} {x:AV} {K:RB→(Nat→AV)→Prop} (h:x.cells.length=size) (h1:x.cells.all oneCell=true) (hz:zs.length=size) :
  fO T 1 zs [(0,size,x)] K=K (.row x.cells false T 0) (fun b=>.slc b 0 1 (.ex 1)):=by
 have:zD (cZ zs 1) [(0,size,x)]=some x.cells:=by
  simp only[zD,cZ,List.append_nil,h1,h,Nat.zero_add,hz,Nat.le_refl,and_self,if_true,List.take_zero,List.nil_append]
  rw[List.drop_of_length_le (by omega),List.append_nil]
 apply propext; unfold fO
 constructor
 ·rintro⟨l,h,hk⟩; rw[this] at h; cases h; exact hk
 ·intro hk; exact⟨_,this,hk⟩
theorem Ow.lit (E:Enc α) {T:Nat} (M:RM) : Ow E (M.push (.row [] false T 0)) M.next T (.slc M.next 0 0 (.ex 0)) []:=Own.lit M (Nat.le_refl _)
theorem eB {i:Nat} (h:i<9223372036854775807) : IntKind.wrap .i64 ((i:Int) + 1)=((i + 1:Nat) : Int):=by
 rw[bB (by omega) (by omega)]; rfl
end
@[go_sem] theorem Pq:dX [] [] []=some true:=rfl
@[go_sem] theorem NL (ks:List Nat) (k:IntKind) (a b:Int) (xs ys:List AV) : dX (1 :: ks) (N k a :: xs) (N k b :: ys)=if a=b then dX ks xs ys else some false:=by
 simp only[dX,vY,if_true]
 by_cases h:a=b
 ·simp[h]
 ·have:(a == b)=false:=by simp[h]
  simp[this,h]
@[go_sem] theorem abC (ks:List Nat) (a b:List UInt8) (xs ys:List AV) : dX (2 :: ks) (St a :: xs) (St b :: ys)=if a=b then dX ks xs ys else some false:=by
 simp only[dX,vY]
 by_cases h:a=b
 ·simp[h]
 ·have:(a == b)=false:=by simp[h]
  simp[this,h]
@[go_sem] theorem arw (ks:List Nat) (a b:Bool) (xs ys:List AV) : dX (3 :: ks) (Bo a :: xs) (Bo b :: ys)=if a=b then dX ks xs ys else some false:=by
 simp only[dX,vY]
 by_cases h:a=b
 ·simp[h]
 ·have:(a == b)=false:=by simp[h]
  simp[this,h]
theorem qX {neg:Bool} {ks:List Nat} {cs ds:List AV} {r:Bool} {K:AV→Prop} (h1:cs.length=ks.length) (h2:ds.length=ks.length) (h:dX ks cs ds=some r) : oU neg ks (.agg cs) (.agg ds) K=K (Bo (r != neg)):=by
 rw[aaO]
 apply propext
 constructor
 ·rintro⟨_,_,r',h',hk⟩; rw[h] at h'; cases h'; exact hk
 ·intro hk; exact⟨h1,h2,r,h,hk⟩
theorem gQ (x:AV) (w:Bool) (f g:ak→Prop) (F G:AV→RM→ak→Prop) (k:ak) :
  af x w f g (fun v M=>af x w (F v M) (G v M) k)=af x w (fun k'=>f fun v M=>F v M k') (fun k'=>g fun v M=>G v M k') k:=by
 unfold af nJ
 split
 ·split <;> simp_all
 ·rfl
 ·rfl
theorem ig (x:AV) (w:Bool) (f g:KR→Prop) (F G:AV→RM→Option Nat→KR→Prop) (k:KR) :
  ah x w f g (fun v M b=>ah x w (F v M b) (G v M b) k)=ah x w (fun k'=>f fun v M b=>F v M b k') (fun k'=>g fun v M b=>G v M b k') k:=by
 unfold ah nJ
 split
 ·split <;> simp_all
 ·rfl
 ·rfl
theorem fQ (x:AV) (w:Bool) (f g:KR→Prop) (F G:AV→RM→Option Nat→ak→Prop) (k:ak) :
  ah x w f g (fun v M b=>af x w (F v M b) (G v M b) k)=af x w (fun k'=>f fun v M b=>F v M b k') (fun k'=>g fun v M b=>G v M b k') k:=by
 unfold ah af nJ
 split
 ·split <;> simp_all
 ·rfl
 ·rfl
theorem gG (x:AV) (w:Bool) (f g:ak→Prop) (F G:AV→RM→KR→Prop) (k:KR) :
  af x w f g (fun v M=>ah x w (F v M) (G v M) k)=ah x w (fun k'=>f fun v M=>F v M k') (fun k'=>g fun v M=>G v M k') k:=by
 unfold ah af nJ
 split
 ·split <;> simp_all
 ·rfl
 ·rfl
theorem aQ {body:(List AV→RM→Prop)→List AV→RM→Prop} {xs:List AV} {M:RM} (I:Nat→List AV→RM→Prop) (n:Nat) (h0:I n xs M)
  (hb:∀ (next:List AV→RM→Prop) m ys M',(∀ m' zs M'',m'<m→I m' zs M''→next zs M'')→I m ys M'→body next ys M') : bu body xs M :=
 ⟨I,n,h0,fun m ys M' hI=>hb _ m ys M' (fun m' zs M'' hlt h=>⟨m',hlt,h⟩) hI⟩
theorem ab9 {P:Program} {I:World→Prop} {T:Table} (hT:jO P I T) {f:FuncId} {args:List AV} {v:AV} {M:RM} {Q:ak} (hP:KI P f) (hl:∀ A,Gz T f args A=some (v,A))
  (hI:∀ w,M.base.inv w→I w) (hQ:Q v M) : jv P f args M Q:=by
 refine⟨hP,fun ρ w us hargs hw=>?_⟩
 obtain⟨A,hA⟩:=hw
 refine(CS (base:=M.base) hI T hT f args A v A (hl A) ρ w us hargs hA.rel hA.size).mono fun e w' hR=>?_
 obtain⟨ρ',v',rfl,hst,hw',_,hv⟩:=hR
 refine⟨v',v,M,ρ',rfl,oz hA hst hw' rfl hA.next (Nat.le_refl _) (fun b x hx=>?_),hv,hQ⟩
 rcases hA.blk b x hx with h | ⟨c,rfl,_⟩
 ·exact .inl h
 ·exact .inr ⟨c,rfl,hx⟩
abbrev By (b:UInt8) : AV:=N .u8 (b.toNat:Int)
def BY:Enc UInt8:=⟨1,fun b=>[By b],fun _=>rfl,fun _=>rfl⟩
theorem yC (s:List UInt8) : BY.row s=s.map By:=by
 induction s with
 | nil=>rfl
 | cons b s ih=>rw[Enc.jb,ih]; rfl
def INT:Enc Int:=⟨1,fun n=>[N .i64 n],fun _=>rfl,fun _=>rfl⟩
def aX:Enc Nat:=⟨1,fun n=>[N .u64 (n:Int)],fun _=>rfl,fun _=>rfl⟩
theorem Qx (s:List Nat) : aX.row s=s.map (fun(s:Nat)=>N .u64 (s:Int)):=by
 induction s with
 | nil=>rfl
 | cons b s ih=>rw[Enc.jb,ih]; rfl
theorem Ob:∀ (s:List UInt8),eQ byteOf (s.map By)=some s
 | []=>rfl
 | b :: s=>by
   simp only[List.map_cons,eQ,byteOf,Ob s]
   simp
section
variable {α:Type} {E:Enc α} {M M' : RM} {v:AV} {xs:List α}
theorem Sl.str {s:List UInt8} (h:Sl BY M v s) {K:AV→Prop} : jY M v K=K (St s) :=
 X3 (aL.Fw h (by rw[yC]; exact Ob s))
theorem Sl.Bu (h:Sl E M v xs) {i:Nat} (j:Int) (hi:i<xs.length) (hsz:E.size=1:=by rfl) (hj:j=(i:Int):=by rfl) :
  ∃ b o,b<M.next∧b∈aG v∧(∀ (kd:IntKind) (K:AV→Prop),aA v (N kd j) 1 K=K (.ptr b o))∧∀ x,E.cells xs[i]=[x]→M.cell b o=some x:=by
 obtain⟨b,o,h1,h2,h3,h4⟩:=Sl.at h 1 j hi hsz hj
 exact⟨b,o,h1,h2,h3,fun x hx=>QK h4 (by rw[hx]; rfl)⟩
structure Rw (E:Enc α) (M:RM) (b:Nat) (opn:Bool) (el:Nat) (xs:List α) : Prop where
 heap:M.heap b=some (.row (E.row xs) opn el 0)
 lt:b<M.next
theorem Rw.sl {b el:Nat} {p:Bool} {cap:Cap} (h:Rw E M b p el xs) : Sl E M (.slc b 0 xs.length cap) xs:=by
 refine .slc _ _ _ _ _ h.lt ?_
 rw[RM.dO h.heap (by rw[E.fq]; omega),List.drop_zero,← E.fq,List.take_length]
theorem Rw.keep {b el:Nat} {p:Bool} {bs:List Nat} (h:Rw E M b p el xs) (hk:ag bs M M') (hb:b ∉ bs) : Rw E M' b p el xs :=
 ⟨hk.aD h.heap h.lt hb,Nat.lt_of_lt_of_le h.lt hk.next⟩
theorem Rw.new {el:Nat} {p:Bool} (M:RM) (xs:List α) : Rw E (M.push (.row (E.row xs) p el 0)) M.next p el xs :=
 ⟨RM.aT _,by simp[RM.push]⟩
end
@[go_sem] theorem auC (el:Nat) (s:List UInt8) (K:RB→(Nat→AV)→Prop) : Px el (St s) K=K (.row (BY.row s) true el 0) (fun b=>.slc b 0 s.length (.op 1)):=by
 rw[yC]
 apply propext; unfold Px
 constructor
 ·rintro⟨s',h,hk⟩; cases h; exact hk
 ·intro hk; exact⟨s,rfl,hk⟩
def axc (b:UInt8) : UInt8:=if 65≤b.toNat∧b.toNat≤90 then b + 32 else b
def low (s:List UInt8) : List UInt8:=s.map axc
theorem Ou (b:UInt8) : b.toNat<256:=b.toNat_lt
structure vO (n:Nat) (bs:List Nat) (M M' : RM) : Prop where
 base:M'.base=M.base
 next:M.next≤M'.next
 heap:∀ c,c<n→c ∉ bs→M'.heap c=M.heap c
theorem vO.refl (n:Nat) (bs:List Nat) (M:RM) : vO n bs M M:=⟨rfl,Nat.le_refl _,fun _ _ _=>rfl⟩
theorem vO.trans {n:Nat} {bs:List Nat} {M M1 M2:RM} (h:vO n bs M M1) (k:vO n bs M1 M2) : vO n bs M M2 :=
 ⟨k.base.trans h.base,Nat.le_trans h.next k.next,fun c h1 h2=>(k.heap c h1 h2).trans (h.heap c h1 h2)⟩
theorem ag.to {bs cs:List Nat} {n:Nat} {M M' : RM} (h:ag bs M M') (hn:n≤M.next) (hb:∀ b∈bs,n≤b∨b∈cs) : vO n cs M M' :=
 ⟨h.base,h.next,fun c h1 h2=>h.heap c (Nat.lt_of_lt_of_le h1 hn) (fun hm=>by rcases hb c hm with h3 | h3; omega; exact h2 h3)⟩
theorem vO.aD {n:Nat} {bs:List Nat} {M M' : RM} (h:vO n bs M M') {b:Nat} {x:RB} (hh:M.heap b=some x) (hlt:b<n) (hb:b ∉ bs) : M'.heap b=some x:=by rw[h.heap b hlt hb,hh]
theorem Own.same {M M' : RM} {n el size n0:Nat} {v:AV} {cs:List AV} (h:Own M n0 el size v cs n) (hn:M'.next=M.next) (hb:∀ c∈aG v,M'.heap c=M.heap c) (hbase:M'.base=M.base) : Own M' n0 el size v cs n:=by
 cases h with
 | nil=>exact .nil
 | ex0 b o h1 h2 h3=>exact .ex0 b o h1 (by omega) (by simpa [RM.MQ,hb b (by simp[aG]),RM.lo,hbase] using h3)
 | op b n cs h1 h2 h3 h4=>exact .op b n cs h1 (by omega) (by rw[hb b (by simp[aG]),h3]) h4
theorem Own.one {M:RM} {n el size n0:Nat} {v:AV} {cs:List AV} (h:Own M n0 el size v cs n) : oneCell v=true:=by
 cases h <;> rfl
def AwakeC (B:Base) (c:au) : Prop:=∀ {M:RM} {Q:ak},M.base=B→Q (Bo true) M→c [] M Q
theorem Own.cells {M:RM} {n el size n0:Nat} {v:AV} {cs:List AV} (h:Own M n0 el size v cs n) : v.cells=[v]:=by
 cases h <;> rfl
section
variable {P:Program} {ρ:Ren} {M:RM} {w w' : World}
theorem bX.below {base:Base} {A:AW} (h:bX P base ρ A w) (hb:Below w.heap.size w w') (hn:base.n≤w.heap.size) : bX P base ρ A w' where
 dom b i hbi:=⟨(h.dom b i hbi).1,Nat.lt_of_lt_of_le (h.dom b i hbi).2 hb.size⟩
 blk b i x hbi hx:=let ⟨o,ho,hr⟩:=h.blk b i x hbi hx; ⟨o,by rw[hb.block _ (h.dom b i hbi).2]; exact ho,hr⟩
 sep:=h.sep
 top:=h.top
 lo:=h.lo
 inv:=base.low w w' (fun c hc=>hb.block c (Nat.lt_of_lt_of_le hc hn)) h.inv
theorem Step.of_below {base n:Nat} (hb:Below w.heap.size w w') (hn:base≤w.heap.size) : Step base n ρ w ρ w' where
 os:=hb.os
 tape:=hb.tape
 output:=hb.output
 size:=hb.size
 frame c hc _:=hb.block c hc
 ext _ _:=rfl
 fresh b i h:=.inl ⟨b,i,h,rfl⟩
 low c hc:=hb.block c (Nat.lt_of_lt_of_le hc hn)
theorem After.below (h:eX P ρ M w) (hb:Below w.heap.size w w') : After P M ρ w M ρ w':=by
 obtain⟨A,hA⟩:=h
 refine oz hA (Step.of_below hb hA.size) (hA.rel.below hb hA.size) rfl hA.next (Nat.le_refl _) fun b x hx=>?_
 rcases hA.blk b x hx with h | ⟨c,rfl,_⟩
 ·exact .inl h
 ·exact .inr ⟨c,rfl,hx⟩
end
structure qP (α:Type) where
 size:Nat
 rel:RM→List AV→α→(Nat→Prop)→Prop
 len:∀ {M cs a S},rel M cs a S→cs.length=size
 one:∀ {M cs a S},rel M cs a S→cs.all oneCell=true
 mono:∀ {M cs a S S'},rel M cs a S→(∀ b,S b→S' b)→rel M cs a S'
 lt:∀ {M cs a S},rel M cs a S→rel M cs a (fun b=>S b∧b<M.next)
 keep:∀ {M M' cs a S bs},rel M cs a S→ag bs M M'→(∀ b∈bs,¬ S b)→rel M' cs a S
def Enc.Bg {α:Type} (E:Enc α) : qP α where
 size:=E.size
 rel _ cs a _:=cs=E.cells a
 len h:=by subst h; exact E.len _
 one h:=by subst h; exact E.one _
 mono h _:=h
 lt h:=h
 keep h _ _:=h
inductive gZ {α:Type} (R:qP α) (M:RM) (S:Nat→Prop) : List AV→List α→Prop
 | nil:gZ R M S [] []
 | cons {cs ds:List AV} {a:α} {xs:List α} : R.rel M cs a S→gZ R M S ds xs→gZ R M S (cs++ds) (a :: xs)
section
variable {α:Type} {R:qP α} {M M' : RM} {S S' : Nat→Prop} {cs ds:List AV} {xs ys:List α} {a:α}
theorem gZ.len (h:gZ R M S cs xs) : cs.length=xs.length * R.size:=by
 induction h with
 | nil=>simp
 | cons h1 _ ih=>rw[List.length_append,R.len h1,ih,List.length_cons,Nat.succ_mul,Nat.add_comm]
theorem gZ.one (h:gZ R M S cs xs) : cs.all oneCell=true:=by
 induction h with
 | nil=>rfl
 | cons h1 _ ih=>rw[List.all_append,R.one h1,ih]; rfl
theorem gZ.mono (h:gZ R M S cs xs) (hs:∀ b,S b→S' b) : gZ R M S' cs xs:=by
 induction h with
 | nil=>exact .nil
 | cons h1 _ ih=>exact .cons (R.mono h1 hs) ih
theorem gZ.lt (h:gZ R M S cs xs) : gZ R M (fun b=>S b∧b<M.next) cs xs:=by
 induction h with
 | nil=>exact .nil
 | cons h1 _ ih=>exact .cons (R.lt h1) ih
theorem gZ.keep {bs:List Nat} (h:gZ R M S cs xs) (hk:ag bs M M') (hb:∀ b∈bs,¬ S b) : gZ R M' S cs xs:=by
 induction h with
 | nil=>exact .nil
 | cons h1 _ ih=>exact .cons (R.keep h1 hk hb) ih
theorem gZ.append (h:gZ R M S cs xs) (k:gZ R M S ds ys) : gZ R M S (cs++ds) (xs++ys):=by
 induction h with
 | nil=>exact k
 | cons h1 _ ih=>rw[List.append_assoc]; exact .cons h1 ih
theorem gZ.single (h:R.rel M cs a S) : gZ R M S cs [a]:=by
 have:=gZ.cons h .nil
 simpa using this
theorem gZ.get (h:gZ R M S cs xs) : ∀ {i:Nat} (hi:i<xs.length),R.rel M ((cs.drop (i * R.size)).take R.size) xs[i] S:=by
 induction h with
 | nil=>intro i hi; simp at hi
 | cons h1 h2 ih =>
   rename_i c1 d1 a1 x1
   intro i hi
   cases i with
   | zero =>
     rw[Nat.zero_mul,List.drop_zero,List.take_append_of_le_length (by rw[R.len h1]; exact Nat.le_refl _),List.take_of_length_le (by rw[R.len h1]; exact Nat.le_refl _)]
     exact h1
   | succ i =>
     rw[Nat.succ_mul,Nat.add_comm,← List.drop_drop,List.drop_left' (R.len h1)]
     exact ih (by simpa using hi)
theorem gZ.cells {E:Enc α} : ∀ {cs:List AV} {xs:List α},gZ E.Bg M S cs xs→cs=E.row xs
 | _,_,.nil=>rfl
 | _,_,.cons h1 h2=>by rw[Enc.jb,gZ.cells h2]; rw[show _=_ from h1]
theorem gZ.of_cells {E:Enc α} : ∀ (xs:List α),gZ E.Bg M S (E.row xs) xs
 | []=>.nil
 | x :: xs=>by rw[Enc.jb]; exact .cons rfl (gZ.of_cells xs)
def iZ (R:qP α) (M:RM) (v:AV) (xs:List α) (S:Nat→Prop) : Prop :=
 ∃ cs,aL M R.size v cs xs.length∧(∀ b∈aG v,S b)∧gZ R M S cs xs
theorem aL.lt {size n:Nat} {v:AV} (h:aL M size v cs n) : ∀ b∈aG v,b<M.next:=by
 cases h with
 | nil=>intro b hb; simp[aG] at hb
 | emp=>intro b hb; simp[aG] at hb
 | slc b o n cap cs hb _=>intro c hc; simp[aG] at hc; omega
theorem aL.one {size n:Nat} {v:AV} (h:aL M size v cs n) : oneCell v=true:=by
 cases h <;> rfl
theorem aL.cells {size n:Nat} {v:AV} (h:aL M size v cs n) : v.cells=[v]:=by
 cases h <;> rfl
variable {v:AV}
theorem iZ.mono (h:iZ R M v xs S) (hs:∀ b,S b→S' b) : iZ R M v xs S':=let ⟨cs,h1,h2,h3⟩:=h; ⟨cs,h1,fun b hb=>hs b (h2 b hb),h3.mono hs⟩
theorem iZ.lt (h:iZ R M v xs S) : iZ R M v xs (fun b=>S b∧b<M.next):=let ⟨cs,h1,h2,h3⟩:=h; ⟨cs,h1,fun b hb=>⟨h2 b hb,h1.lt b hb⟩,h3.lt⟩
theorem iZ.keep {bs:List Nat} (h:iZ R M v xs S) (hk:ag bs M M') (hb:∀ b∈bs,¬ S b) : iZ R M' v xs S :=
 let ⟨cs,h1,h2,h3⟩:=h; ⟨cs,h1.keep hk (fun b hv hbs=>hb b hbs (h2 b hv)),h2,h3.keep hk hb⟩
theorem iZ.len (h:iZ R M v xs S) {K:AV→Prop} : dh v K=K (N .i64 xs.length):=let ⟨cs,h1,_,_⟩:=h; h1.len
theorem iZ.one (h:iZ R M v xs S) : oneCell v=true:=let ⟨cs,h1,_,_⟩:=h; h1.one
theorem iZ.cells (h:iZ R M v xs S) : v.cells=[v]:=let ⟨cs,h1,_,_⟩:=h; h1.cells
theorem iZ.nil:iZ R M aZ [] S:=⟨[],.nil,by simp[aG],.nil⟩
theorem iZ.sl {E:Enc α} (h:iZ E.Bg M v xs S) : Sl E M v xs:=by
 obtain⟨cs,h1,h2,h3⟩:=h
 rw[h3.cells] at h1
 exact h1
theorem iZ.aib {E:Enc α} (h:Sl E M v xs) (hs:∀ b∈aG v,S b) : iZ E.Bg M v xs S:=⟨_,h,hs,gZ.of_cells xs⟩
theorem iZ.at (h:iZ R M v xs S) {i:Nat} (sz:Nat) (j:Int) (hi:i<xs.length) (hsz:R.size=sz:=by rfl) (hj:j=(i:Int):=by rfl) :
  ∃ b o cs,b<M.next∧b∈aG v∧(∀ (kd:IntKind) (K:AV→Prop),aA v (N kd j) sz K=K (.ptr b o))∧M.loads b o sz=some cs∧R.rel M cs xs[i] S:=by
 subst hsz hj
 obtain⟨cs,h1,h2,h3⟩:=h
 obtain⟨b,o,cap,rfl,hb,hl⟩:=h1.pos (by omega)
 have hsum:i * R.size + R.size≤xs.length * R.size:=by rw[← Nat.succ_mul]; exact Nat.mul_le_mul_right _ hi
 refine⟨b,o + i * R.size,(cs.drop (i * R.size)).take R.size,hb,by simp[aG],fun kd K=>?_, ?_,h3.get hi⟩
 ·rw[qo]
  simp only[Int.toNat_natCast]
  exact propext ⟨fun h=>h.2.2,fun h=>⟨by omega,by omega,h⟩⟩
 ·rw[pQ hl (i * R.size) R.size hsum]
def qP.slice (R:qP α) : qP (List α) where
 size:=1
 rel M cs xs S:=∃ v,cs=[v]∧iZ R M v xs S
 len h:=by obtain⟨v,rfl,_⟩:=h; rfl
 one h:=by obtain⟨v,rfl,h⟩:=h; simp[h.one]
 mono h hs:=by obtain⟨v,rfl,h⟩:=h; exact⟨v,rfl,h.mono hs⟩
 lt h:=by obtain⟨v,rfl,h⟩:=h; exact⟨v,rfl,h.lt⟩
 keep h hk hb:=by obtain⟨v,rfl,h⟩:=h; exact⟨v,rfl,h.keep hk hb⟩
def lM (R:qP α) (M:RM) (base el:Nat) (v:AV) (xs:List α) (S:Nat→Prop) : Prop :=
 ∃ cs,Own M base el R.size v cs xs.length∧gZ R M S cs xs
theorem lM.nil {base el:Nat} : lM R M base el aZ [] S:=⟨[],.nil,.nil⟩
theorem lM.mono {base el:Nat} (h:lM R M base el v xs S) (hs:∀ b,S b→S' b) : lM R M base el v xs S':=let ⟨cs,h1,h2⟩:=h; ⟨cs,h1,h2.mono hs⟩
theorem lM.lt {base el:Nat} (h:lM R M base el v xs S) : lM R M base el v xs (fun b=>S b∧b<M.next):=let ⟨cs,h1,h2⟩:=h; ⟨cs,h1,h2.lt⟩
theorem lM.keep {base el:Nat} {bs:List Nat} (h:lM R M base el v xs S) (hk:ag bs M M') (hb:∀ b∈bs,¬ S b) (hv:∀ b∈aG v,b ∉ bs) : lM R M' base el v xs S :=
 let ⟨cs,h1,h2⟩:=h; ⟨cs,h1.keep hk hv,h2.keep hk hb⟩
theorem lM.len {base el:Nat} (h:lM R M base el v xs S) {K:AV→Prop} : dh v K=K (N .i64 xs.length):=let ⟨cs,h1,_⟩:=h; h1.jm.len
theorem lM.blk {base el:Nat} (h:lM R M base el v xs S) : ∀ b∈aG v,base≤b∧b<M.next:=let ⟨cs,h1,_⟩:=h; h1.blk
theorem lM.slD {base el:Nat} (h:lM R M base el v xs S) (hs:∀ b,base≤b→b<M.next→S b) : iZ R M v xs S :=
 let ⟨cs,h1,h2⟩:=h; ⟨cs,h1.jm,fun b hb=>hs b (h1.blk b hb).1 (h1.blk b hb).2,h2⟩
theorem lM.cells {base el:Nat} (h:lM R M base el v xs S) : v.cells=[v]:=let ⟨cs,h1,_⟩:=h; h1.cells
theorem lM.one {base el:Nat} (h:lM R M base el v xs S) : oneCell v=true:=let ⟨cs,h1,_⟩:=h; h1.one
theorem lM.app {base T bytes:Nat} {zs:List AV} {K:ak} (ho:lM R M base T v xs S) (ha:R.rel M cs a S) (hb:base≤M.next) (hs:1≤R.size)
  (hd:∀ b∈aG v,¬ S b) (hS:∀ b,S b→b<M.next)
  (hn:(xs.length + 1) * bytes≤140737488355328) (hn2:xs.length + 1≤140737488355328)
  (hK:∀ v' M',lM R M' base T v' (xs++[a]) S→ag (aG v) M M'→M.next≤M'.next→(v'=v∨∀ b∈aG v',M.next≤b)→(∀ b∈aG v',¬ S b)→K v' M') :
  appW T R.size bytes zs false v (.slc M.next 0 1 (.ex 1)) (M.push (.row cs false T 0)) K:=by
 obtain⟨ds,h1,h2⟩:=ho
 have hk:ag [] M (M.push (.row cs false T 0)):=(ag.refl _ _).push _
 have hl:=R.len ha
 have hnl:nZ (M.push (.row cs false T 0)) R.size zs false (.slc M.next 0 1 (.ex 1))=some (1,cs):=by
  simp only[nZ,Nat.one_mul]
  rw[RM.dO (RM.aT _) (by omega),List.drop_zero,← hl,List.take_length]
 refine vg (h1.keep hk (by simp)) (Nat.le_trans hb hk.next) hs hnl (by rw[hl,Nat.one_mul]) (R.one ha) hn hn2 ?_
 intro v' M' q1 q2 q3 q4
 have kk:ag (aG v) M M':=(hk.mono (by simp)).trans q2
 refine hK v' M' ⟨_,by simpa using q1, ?_⟩ kk (Nat.le_trans hk.next q3) (q4.imp id fun h b hb=>Nat.le_trans hk.next (h b hb)) ?_
 ·exact(h2.keep kk hd).append (gZ.single (R.keep ha kk hd))
 ·rcases q4 with rfl | q4
  ·exact hd
  ·intro b hb hSb
   have:=q4 b hb
   have:=hS b hSb
   simp only[RM.push] at *
   omega
end
section
variable {M M' : RM} {b i n e f:Nat} {l:List AV} {p:Bool} {x:AV}
theorem aj {K:AV→Prop} (h:M.heap b=some (.row l p e f)) (hx:l[i]?=some x) : ai M (.ptr b i) K=K x:=by
 rw[gI,RM.cell_of h,hx]; simp
theorem bI {K:AV→Prop} (h:M.heap b=some (.row l p e f)) (hn:l.length=n) : aF M (.ptr b 0) n K=K (.agg l):=by
 rw[kV,RM.afy h]
 have:AU (some l) 0 n=some l:=by simp[AU,← hn]
 rw[this]; simp
theorem gV {K:RM→Prop} (h:M.heap b=some (.row l p e 0)) (hi:i<l.length) (hc:x.cells=[x]) (h1:oneCell x=true) : aC M (.ptr b i) x 1 K=K (M.put b (.row (l.set i x) p e 0)):=by
 rw[vW,hc,RM.u6 h,pE (by simp only[List.length_cons,List.length_nil]; omega) (Nat.zero_le _) (by simp[h1])]
 have:l.take i++[x]++l.drop (i + 1)=l.set i x:=by
  rw[List.set_eq_take_append_cons_drop,if_pos hi]; simp
 simp[this]
theorem jy {K:RM→Prop} (l' : List AV) (h:M.heap b=some (.row l p e 0)) (hi:i<l.length) (hc:x.cells=[x]) (h1:oneCell x=true) (hl:l.set i x=l') : aC M (.ptr b i) x 1 K=K (M.put b (.row l' p e 0)):=by
 rw[gV h hi hc h1,hl]
theorem aU {K:AV→Prop} : aB (.ptr b 0) n K=K (.ptr b n):=by rw[aO,Nat.zero_add]
theorem dB {K:RM→Prop} (h:M.heap b=some (.row l p e 0)) (hn:x.cells.length=n) (hl:l.length=n) (h1:x.cells.all oneCell=true) : aC M (.ptr b 0) x n K=K (M.put b (.row x.cells p e 0)):=by
 rw[vW,RM.u6 h,Tc (by rw[hn,hl]) h1]
 simp[hn]
theorem Dw {c:Nat} {y z:RB} (h:M.heap b=some y) (hb:b≠c) : (M.put c z).heap b=some y:=by
 simp only[RM.put]; rw[if_neg hb]; exact h
theorem aN (y:RB) : (M.put b y).heap b=some y:=RM.xB _ _
theorem mR {y z:RB} (h:M.heap b=some y) (hb:b<M.next) : (M.push z).heap b=some y:=by
 simp only[RM.push]; rw[if_neg (by omega)]; exact h
theorem I6 (y:RB) : (M.push y).next=M.next + 1:=rfl
theorem jk (c:Nat) (y:RB) : (M.put c y).next=M.next:=rfl
theorem ag.new {bs:List Nat} (h:ag bs M M') {b:Nat} (y:RB) (hb:M.next≤b) : ag bs M (M'.put b y):=h.put y (.inl hb)
end
variable {M:RM}
theorem eD {a:AV} {l:List AV} {K:AV→Prop} : bV (.tup (a :: l)) 0 K=K a:=by rw[Mc]; simp
theorem eF {a b:AV} {l:List AV} {K:AV→Prop} : bV (.tup (a :: b :: l)) 1 K=K b:=by rw[Mc]; simp
theorem ma {a b c:AV} {l:List AV} {K:AV→Prop} : bV (.tup (a :: b :: c :: l)) 2 K=K c:=by rw[Mc]; simp
theorem cO {p q:Prop} : az (Bo true) p q=p:=by simp[Wu]
theorem bJ {p q:Prop} : az (Bo false) p q=q:=by simp[Wu]
theorem aJ {b:Bool} {p q:Prop} (h1:b=true→p) (h2:b=false→q) : az (Bo b) p q:=⟨h1,h2⟩
theorem bU {f g:ak→Prop} {k:ak} : af (Bo true) true f g k=f k:=rfl
theorem bg {f g:ak→Prop} {k:ak} : af (Bo false) false f g k=f k:=rfl
theorem bM {f g:ak→Prop} {k:ak} : af (Bo true) false f g k=g k:=rfl
theorem bC {f g:ak→Prop} {k:ak} : af (Bo false) true f g k=g k:=rfl
theorem gY {f g:KR→Prop} {k:KR} : ah (Bo true) true f g k=f k:=rfl
theorem gF {f g:KR→Prop} {k:KR} : ah (Bo false) false f g k=f k:=rfl
theorem jo {f g:KR→Prop} {k:KR} : ah (Bo true) false f g k=g k:=rfl
theorem gW {f g:KR→Prop} {k:KR} : ah (Bo false) true f g k=g k:=rfl
theorem iO {w:Bool} {f g:ak→Prop} {k:ak} : af .undef w f g k=g k:=rfl
theorem nY {w:Bool} {f g:KR→Prop} {k:KR} : ah .undef w f g k=g k:=rfl
theorem cK {a b:AV} {K:AV→Prop} : aH (Bo true) a b K=K a:=by rw[Xz]; rfl
theorem bK {a b:AV} {K:AV→Prop} : aH (Bo false) a b K=K b:=by rw[Xz]; rfl
theorem aL.known {size:Nat} {v:AV} {cs:List AV} {n:Nat} (h:aL M size v cs n) : known v=true:=by
 cases h <;> rfl
theorem dU {t:TypeId} {cs:List AV} {K:RB→(Nat→AV)→Prop} (h1:cs.all oneCell=true) (h2:1≤cs.length) : ji t (.agg cs) K=K (.row cs false t 0) (fun b=>.ptr b 0):=by
 unfold ji
 exact propext ⟨fun h=>h.2.2,fun h=>⟨h1,h2,h⟩⟩
theorem alx {x y a b:AV} (h1:known x=true) (h2:x.cells=[x]) (h3:known y=true) (h4:y.cells=[y]) : wN [a,b] [(0,1,x),(1,1,y)]=some [x,y]:=by
 simp[wN,h1,h2,h3,h4]
def qP.pre {α β:Type} (E:Enc α) (R:qP β) : qP (α × β) where
 size:=E.size + R.size
 rel M cs a S:=∃ ds,cs=E.cells a.1++ds∧R.rel M ds a.2 S
 len h:=by obtain⟨ds,rfl,h⟩:=h; rw[List.length_append,E.len,R.len h]
 one h:=by obtain⟨ds,rfl,h⟩:=h; rw[List.all_append,E.one,R.one h]; rfl
 mono h hs:=by obtain⟨ds,rfl,h⟩:=h; exact⟨ds,rfl,R.mono h hs⟩
 lt h:=by obtain⟨ds,rfl,h⟩:=h; exact⟨ds,rfl,R.lt h⟩
 keep h hk hb:=by obtain⟨ds,rfl,h⟩:=h; exact⟨ds,rfl,R.keep h hk hb⟩
def qP.post {α β:Type} (R:qP α) (E:Enc β) : qP (α × β) where
 size:=R.size + E.size
 rel M cs a S:=∃ ds,cs=ds++E.cells a.2∧R.rel M ds a.1 S
 len h:=by obtain⟨ds,rfl,h⟩:=h; rw[List.length_append,E.len,R.len h]
 one h:=by obtain⟨ds,rfl,h⟩:=h; rw[List.all_append,E.one,R.one h]; rfl
 mono h hs:=by obtain⟨ds,rfl,h⟩:=h; exact⟨ds,rfl,R.mono h hs⟩
 lt h:=by obtain⟨ds,rfl,h⟩:=h; exact⟨ds,rfl,R.lt h⟩
 keep h hk hb:=by obtain⟨ds,rfl,h⟩:=h; exact⟨ds,rfl,R.keep h hk hb⟩
def qP.map {α β:Type} (R:qP α) (g:β→α) : qP β where
 size:=R.size
 rel M cs a S:=R.rel M cs (g a) S
 len h:=R.len h
 one h:=R.one h
 mono h hs:=R.mono h hs
 lt h:=R.lt h
 keep h hk hb:=R.keep h hk hb
end Go.Ab
set_option maxRecDepth 10000
namespace Go.Ab.ay
open Go Go.Ab
def ym (c:au) : Prop:=∀ {M:RM} {x y:Nat} {Q:ak},Q (Bo (decide (x<y))) M→c [N .u64 (x:Int),N .u64 (y:Int)] M Q
theorem NJ {M:RM} {x:Nat} {Q:ak} (h:Q (Bo false) M) : sw (N .u64 (x:Int)) M Q:=by
 unfold sw
 rw[fM,bne_self_eq_false]; exact h
theorem XU {M:RM} {x:Nat} {Q:ak} (h:Q (Bo false) M) : uP (N .u64 (x:Int)) M Q:=by
 unfold uP
 rw[fM,bne_self_eq_false]; exact h
def aar (c:au) : Prop:=∀ {M:RM} {x:Nat} {Q:ak},Q (Bo false) M→c [N .u64 (x:Int)] M Q
theorem acU {cn:au} (hn:aar cn) : ym fun args M Q=>∃ a0 a1,args=[a0,a1]∧yN cn a0 a1 M Q:=by
 intro M x y Q hQ
 refine⟨_,_,rfl, ?_⟩
 unfold yN
 simp only[gQ]
 refine hn ?_
 rw[bC]
 dsimp only
 rw[bK,bg,bZ]
 dsimp only
 rw[bK,show decide ((x:Int)<(y:Int))=decide (x<y) by simp]
 exact hQ
def Asc (xs:List Nat) : Prop:=xs.Pairwise (· < ·)
def below (n:Nat) (xs:List Nat) : Nat:=(xs.takeWhile (fun x=>decide (x<n))).length
theorem below_le (n:Nat) (xs:List Nat) : below n xs≤xs.length:=by
 unfold below
 induction xs with
 | nil=>simp
 | cons x xs ih =>
   rw[List.takeWhile_cons]
   split <;> simp <;> omega
theorem Asc.lt {xs:List Nat} (h:Asc xs) {i j:Nat} (hij:i<j) (hj:j<xs.length) : xs[i]'(by omega)<xs[j]:=List.pairwise_iff_getElem.1 h i j (by omega) hj hij
theorem Fp {n:Nat} : ∀ {xs:List Nat} {i:Nat},i≤xs.length→(∀ k (hk:k<xs.length),k<i→xs[k]<n)→(∀ (hi:i<xs.length),n≤xs[i])→below n xs=i
 | [],i,h,_,_=>by simp at h; subst h; rfl
 | x :: xs,0,_,_,h2=>by
   have:=h2 (by simp)
   simp at this
   unfold below
   rw[List.takeWhile_cons,if_neg (by simp; omega)]; rfl
 | x :: xs,i + 1,h,h1,h2=>by
   have hx:=h1 0 (by simp) (by omega)
   have:=Fp (n:=n) (xs:=xs) (i:=i) (by simpa using h) (fun k hk hki=>by have:=h1 (k + 1) (by simp; omega) (by omega); simpa using this) (fun hi=>by have:=h2 (by simp; omega); simpa using this)
   unfold below at *
   rw[List.takeWhile_cons,if_pos (by simpa using hx),List.length_cons,this]
theorem RN {n:Nat} {xs:List Nat} (ha:Asc xs) : (n∈xs↔∃ h:below n xs<xs.length,xs[below n xs]=n):=by
 constructor
 ·intro hm
  obtain⟨i,hi,he⟩:=List.getElem_of_mem hm
  have hb:below n xs=i:=Fp (by omega) (fun k hk hki=>by have:=ha.lt hki hi; omega) (fun _=>by omega)
  exact⟨by omega,by simp only[hb]; exact he⟩
 ·rintro⟨h,he⟩
  rw[← he]; exact List.getElem_mem h
theorem WL {n:Nat} : ∀ {xs:List Nat} {k:Nat} (hk:k<xs.length),k<below n xs→xs[k]<n
 | x :: xs,k,hk,h=>by
   unfold below at h
   rw[List.takeWhile_cons] at h
   split at h
   ·rename_i hx
    cases k with
    | zero=>simpa using hx
    | succ k=>exact WL (xs:=xs) (k:=k) (by simpa using hk) (by unfold below; simpa using h)
   ·simp at h
theorem UJ {n:Nat} : ∀ {xs:List Nat} (h:below n xs<xs.length),n≤xs[below n xs]
 | x :: xs,h=>by
   unfold below at *
   rw[List.takeWhile_cons] at h
   simp only[List.takeWhile_cons]
   by_cases hx:x<n
   ·simp only[hx,decide_true,if_true,List.length_cons] at h ⊢
    exact UJ (xs:=xs) (by unfold below; omega)
   ·simp only[hx,decide_false,Bool.false_eq_true,if_false,List.length_nil,List.getElem_cons_zero]
    omega
def JY (c:au) : Prop:=∀ {M:RM} {v:AV} {xs:List Nat} {n:Nat} {Q:ak},Sl aX M v xs→xs.length≤1000000→Asc xs→Q (.tup [N .i64 ((below n xs:Nat) : Int),Bo (decide (n∈xs))]) M→c [v,N .u64 (n:Int)] M Q
theorem half (i j:Nat) (h:i + j<9223372036854775808) : N .i64 (IntKind.i64.wrap (P5 .u64 (IntKind.u64.wrap (IntKind.i64.wrap ((i:Int) + (j:Int)))) 1))=N .i64 (((i + j) / 2:Nat) : Int):=by
 rw[show IntKind.i64.wrap ((i:Int) + (j:Int))=((i + j:Nat) : Int) by rw[bB (by omega) (by omega)]; rfl]
 rw[show IntKind.u64.wrap (((i + j:Nat) : Int))=((i + j:Nat) : Int) by unfold IntKind.wrap; simp[IntKind.bits,IntKind.signed]; omega]
 rw[show(1:Int)=((1:Nat) : Int) from rfl,Gi _ _ _ (by decide)]
 rw[show((i + j:Nat) / 2 ^ 1)=(i + j) / 2 by simp]
 rw[bB (by omega) (by omega)]
theorem Yt {cl cn:au} (hl:ym cl) (hn:aar cn) : JY fun args M Q=>∃ a0 a1,args=[a0,a1]∧oJ cl cn a0 a1 M Q:=by
 intro M v xs n Q hv hxl ha hQ
 refine⟨_,_,rfl, ?_⟩
 unfold oJ
 simp only[gQ]
 rw[aL.len hv]
 refine aQ (fun m ys M3=>M3=M∧∃ i j:Nat,m=j - i∧ys=[N .i64 (i:Int),N .i64 (j:Int)]∧i≤j∧j≤xs.length∧(∀ k (hk:k<xs.length),k<i→xs[k]<n)∧(∀ k (hk:k<xs.length),j≤k→n≤xs[k])) _
  ⟨rfl,0,xs.length,rfl,rfl,Nat.zero_le _,Nat.le_refl _,by omega,by omega⟩ ?_
 rintro next m ys M3 hnext ⟨rfl,i,j,rfl,rfl,hij,hj,h1,h2⟩
 dsimp only[aa]
 rw[bZ]
 refine aJ (fun hlt=>?_) (fun hge=>?_)
 ·have hlt:i<j:=by simpa using hlt
  have hh:(i + j) / 2<j:=by omega
  have hh2:i≤(i + j) / 2:=by omega
  rw[bS,dY,Ko]
  refine⟨by omega, ?_⟩
  rw[dY,half i j (by omega)]
  have hm:(i + j) / 2<xs.length:=by omega
  obtain⟨b,o,_,_,hidx,hc⟩:=Sl.Bu (E:=aX) hv (((i + j) / 2:Nat) : Int) hm
  have hc:=hc _ rfl
  rw[hidx,gI]
  refine⟨_,hc, ?_⟩
  refine hl ?_
  refine aJ (fun h=>?_) (fun h=>?_)
  ·have h:xs[(i + j) / 2]<n:=by simpa using h
   rw[bS,eB (by omega)]
   refine hnext _ _ _ (by omega) ⟨rfl,(i + j) / 2 + 1,j,rfl,rfl,by omega,hj,fun k hk hki=>?_,h2⟩
   rcases Nat.lt_or_ge k ((i + j) / 2) with h3 | h3
   ·have:=ha.lt h3 hm; omega
   ·have:k=(i + j) / 2:=by omega
    subst this; exact h
  ·have h:n≤xs[(i + j) / 2]:=by simp at h; omega
   refine hnext _ _ _ (by omega) ⟨rfl,i,(i + j) / 2,rfl,rfl,by omega,by omega,h1,fun k hk hki=>?_⟩
   rcases Nat.lt_or_ge ((i + j) / 2) k with h3 | h3
   ·have:=ha.lt h3 hk; omega
   ·have:k=(i + j) / 2:=by omega
    subst this; exact h
 ·have hij:i=j:=by simp at hge; omega
  subst hij
  have hb:below n xs=i:=Fp hj h1 (fun hi=>h2 i hi (Nat.le_refl _))
  rw[hb] at hQ
  rw[bZ]
  by_cases hi:i<xs.length
  ·obtain⟨b,o,_,_,hidx,hc⟩:=Sl.Bu (E:=aX) hv (i:Int) hi
   have hc:=hc _ rfl
   have hm:decide (n∈xs)=(xs[i] == n):=by
    have:=RN (n:=n) ha
    simp only[hb] at this
    by_cases h:xs[i]=n
    ·rw[decide_eq_true (this.2 ⟨hi,h⟩)]; simp[h]
    ·rw[decide_eq_false (fun hm=>h (this.1 hm).2)]; simp[h]
   rw[hm] at hQ
   rw[show decide ((i:Int)<(xs.length:Int))=true by simpa using hi,bU,hidx,gI]
   refine⟨_,hc, ?_⟩
   rw[bT,show(((xs[i] : Nat) : Int) == (n:Int))=(xs[i] == n) by
    by_cases h:xs[i]=n
    ·simp[h]
    ·have:((xs[i] : Int) == (n:Int))=false:=by simp; omega
     rw[this]; simp[h]]
   dsimp only
   cases he:xs[i] == n with
   | true =>
     rw[he] at hQ
     simp only[iO,bU,bM,bC,bg,cK,bK]
     exact hQ
   | false =>
     rw[he] at hQ
     rw[bg,hidx,gI]
     refine⟨_,hc, ?_⟩
     refine hn ?_
     simp only[iO,bU,bM,bC,bg,cK,bK]
     exact hQ
  ·have hm:decide (n∈xs)=false:=by
    refine decide_eq_false fun h=>?_
    have:=(RN (n:=n) ha).1 h
    simp only[hb] at this
    exact hi this.1
   rw[hm] at hQ
   rw[show decide ((i:Int)<(xs.length:Int))=false by simp; omega]
   simp only[iO,bU,bM,bC,bg,cK,bK]
   exact hQ
theorem zy {M:RM} {b bx o ox dn sn k e:Nat} {l vs:List AV} {p:Bool} {cap akn:Cap} {K:ak} (hd:M.heap b=some (.row l p e 0)) (hk:Nat.min sn dn=k) (hk0:k≠0) (hl:M.loads bx ox k=some vs) (ho:o + k≤l.length) (hall:vs.all oneCell=true) :
  CE 1 (.slc b o dn cap) (.slc bx ox sn akn) M K=K (N .i64 (k:Int)) (M.put b (.row (l.take o++vs++l.drop (o + k)) p e 0)):=by
 have hvs:=Ir hl
 have hst:M.stores b o vs=some (M.put b (.row (l.take o++vs++l.drop (o + k)) p e 0)):=by
  rw[RM.u6 hd,pE (by omega) (Nat.zero_le _) hall,hvs]; rfl
 have:O0 1 (.slc b o dn cap) (.slc bx ox sn akn) M=some (N .i64 (k:Int),M.put b (.row (l.take o++vs++l.drop (o + k)) p e 0)):=by
  unfold O0
  simp only[CG,hk,if_neg hk0,firstM,Nat.mul_one,hl,hst]
 unfold CE
 rw[this]
 apply propext
 constructor
 ·rintro⟨v,M',h,hK⟩; cases h; exact hK
 ·intro hK; exact⟨_,_,rfl,hK⟩
theorem vN {size b o n c at' : Nat} (h:at'≤n) (hc:n≤c) (hne:at'≠c) : bY size (.slc b o n (.ex c)) (some (N .i64 (at' : Int))) none none=some (.slc b (o + at' * size) (n - at') (.ex (c - at'))):=by
 simp only[bY,bnd]
 simp[h,hc,Ne.symm hne]
theorem N9 {size b o n c at' : Nat} (h:at'≤c) (hc:c≠0) : bY size (.slc b o n (.ex c)) none (some (N .i64 (at' : Int))) none=some (.slc b o at' (.ex c)):=by
 simp only[bY,bnd]
 simp[h,hc]
theorem rf {size b o n at' : Nat} (h:at'<n) : bY size (.slc b o n (.op size)) (some (N .i64 (at' : Int))) none none=some (.slc b (o + at' * size) (n - at') (.op size)):=by
 simp only[bY,bnd]
 simp[Nat.le_of_lt h]
 omega
theorem atE {A B D:List AV} {X:AV} {k m:Nat} (hA:A.length=k) (hB:B.length=m) : (A++X :: B).take (k + 1)++D++(A++X :: B).drop (k + 1 + m)=A++X :: D:=by
 subst hA; subst hB
 have e:A++X :: B=(A++[X])++B:=by simp
 rw[e,List.take_left' (by simp),List.drop_of_length_le (by simp; omega)]
 simp
def eZ:AV→Prop
 | .slc _ _ n (.ex c)=>n≤c
 | .slc _ _ _ (.op e)=>e=1
 | _=>True
def iw (k x:Nat) (xs:List Nat) : List Nat:=xs.take k++x :: xs.drop k
theorem Fs {k x:Nat} {xs:List Nat} (h:k≤xs.length) : (iw k x xs).length=xs.length + 1:=by
 simp[iw]; omega
def aid (c:au) : Prop:=∀ {M:RM} {ba oa na bb ob nb ea eb:Nat} {ca cb:Cap} {la lb:List AV} {opb:Bool} {Q:ak},ba≠bb→M.heap ba=some (.row la false ea 0)→M.heap bb=some (.row lb opb eb 0)→oa + 1≤la.length→1≤lb.length→Q (Bo false) M→c [.slc ba oa na ca,.slc bb ob nb cb] M Q
theorem u7 {i:Nat} (h:i<9223372036854775807) : IntKind.wrap .i64 ((i:Int) + ((1:Nat) : Int))=((i + 1:Nat) : Int):=eB h
theorem qZ (k:Nat) : (cZ [N .u64 0] k).length=k∧(cZ [N .u64 0] k).all oneCell=true:=by
 induction k with
 | zero=>exact⟨rfl,rfl⟩
 | succ k ih=>exact⟨by simp[cZ,ih.1],by simp[cZ,ih.2,Xa]⟩
theorem acF {M:RM} {b bx T n c k x ex:Nat} {xs:List Nat} {co cr:au} {Q:ak} (hov:aid co) (hn:n=xs.length) (hnl:n≤1000000) (hc:n≤c) (hk:k<n)
  (hb:M.heap b=some (.row (aX.row xs++List.replicate (c - n) .top) true T 0)) (hbl:b<M.next) (hx:M.heap bx=some (.row [N .u64 (x:Int)] false ex 0)) (hxl:bx<M.next) (hne:bx≠b)
  (hQ:∀ v' M',Sl aX M' v' (iw k x xs)→eZ v'→(∀ c∈aG v',c=b∨M.next≤c)→ag [b] M M'→Q v' M') : nN T co cr (.slc b 0 n (.ex c)) (N .i64 (k:Int)) (.slc bx 0 1 (.ex 1)) M Q:=by
 have hrow:(aX.row xs).length=n:=by rw[Enc.fq,hn]; simp[aX]
 have aim:(aX.row xs++List.replicate (c - n) AV.top).length=c:=by simp[hrow]; omega
 unfold nN
 rw[vN (by omega) hc (by omega),dN,oC,bT,show((((1:Nat) : Int)) == 0)=false from rfl,bJ,oC,bT,
  show(((k:Int)) == (n:Int))=false by simp; omega,bJ,bS,u7 (by omega),ajs,dF]
 have hxo:M.loads bx 0 1=some [N .u64 (x:Int)]:=by rw[RM.dO hx (by simp)]; rfl
 have hold:M.loads b k (n - k)=some ((aX.row xs).drop k):=by
  rw[RM.dO hb (by omega),List.drop_append_of_le_length (by omega),List.take_append_of_le_length (by simp[hrow]),List.take_of_length_le (by simp[hrow])]
 have hall:=aX.qB xs
 have hins:aX.row (iw k x xs)=(aX.row xs).take k++N .u64 (x:Int) :: (aX.row xs).drop k:=by
  have h1:=aX.uA xs k
  have h2:=aX.uo xs k
  simp only[show aX.size=1 from rfl,Nat.mul_one] at h1 h2
  rw[h1,h2,iw,Enc.wG,Enc.jb]; rfl
 have hinl:(iw k x xs).length=n + 1:=by rw[Fs (by omega),hn]
 have htl:((aX.row xs).take k).length=k:=by simp[hrow]; omega
 have hdl:((aX.row xs).drop k).length=n - k:=by simp[hrow]
 refine aJ (fun hg=>?_) (fun hg=>?_)
 ·have hcn:c=n:=by simp at hg; omega
  subst hcn
  rw[Nat.sub_self,List.replicate_zero,List.append_nil] at hb
  rw[N9 (by omega) (by omega),dN,bS,u7 (by omega),jG,
   show IntKind.wrap .i64 (((c + 1:Nat) : Int) - (k:Int))=((c + 1 - k:Nat) : Int) by rw[bB (by omega) (by omega)]; omega]
  have hr0:=qZ (c + 1 - k)
  refine⟨c + 1 - k,cZ [N .u64 0] (c + 1 - k),by simp[nZ],by omega,by omega,.slc M.next 0 (c + 1) (.op 1),M.push (.row ((aX.row xs).take k++cZ [N .u64 0] (c + 1 - k)) true T 0), ?_, ?_⟩
  ·have hl0:M.loads b 0 (k * 1)=some ((aX.row xs).take k):=by rw[RM.dO hb (by omega)]; simp
   simp only[pV,if_neg (show ¬ c + 1 - k=0 by omega),if_neg (show ¬ k + (c + 1 - k)≤c by omega),hl0]
   have h1:(((aX.row xs).take k)++cZ [N .u64 0] (c + 1 - k)).all oneCell=true:=by
    rw[List.all_append,hr0.2,Bool.and_true,List.all_eq_true]
    exact fun y hy=>List.all_eq_true.1 hall y (List.mem_of_mem_take hy)
   rw[if_pos ⟨by omega,by omega,h1⟩,show k + (c + 1 - k)=c + 1 by omega]
  ·have hnew:(M.push (.row ((aX.row xs).take k++cZ [N .u64 0] (c + 1 - k)) true T 0)).heap M.next=some (.row ((aX.row xs).take k++cZ [N .u64 0] (c + 1 - k)) true T 0):=RM.aT _
   have kp:ag [] M (M.push (.row ((aX.row xs).take k++cZ [N .u64 0] (c + 1 - k)) true T 0)):=(ag.refl _ _).push _
   have hb1:=kp.aD hb hbl (by simp)
   have hx1:=kp.loads hxl (by simp) (o:=0) (k:=1)
   rw[hxo] at hx1
   have hn1:(M.push (.row ((aX.row xs).take k++cZ [N .u64 0] (c + 1 - k)) true T 0)).next=M.next + 1:=rfl
   generalize M.push (.row ((aX.row xs).take k++cZ [N .u64 0] (c + 1 - k)) true T 0)=M1 at *
   have axN:((aX.row xs).take k++cZ [N .u64 0] (c + 1 - k)).length=c + 1:=by rw[List.length_append,htl,hr0.1]; omega
   dsimp only
   rw[rf (by omega),dN,zy (k:=1) hnew (by simp[Nat.min_def]; omega) (by omega) hx1 (by rw[axN]; omega) rfl,bS,u7 (by omega),
    rf (by omega),dN,dN]
   simp only[Nat.mul_one,Nat.zero_add]
   have arX:((aX.row xs).take k++cZ [N .u64 0] (c + 1 - k)).take k++[N .u64 (x:Int)]++((aX.row xs).take k++cZ [N .u64 0] (c + 1 - k)).drop (k + 1)=(aX.row xs).take k++N .u64 (x:Int) :: cZ [N .u64 0] (c - k):=by
    rw[List.take_append_of_le_length (by omega),List.take_of_length_le (by omega),← List.drop_drop,List.drop_left' htl,show c + 1 - k=(c - k) + 1 by omega,cZ]
    simp
   rw[arX]
   have atv:(M1.put M.next (.row ((aX.row xs).take k++N .u64 (x:Int) :: cZ [N .u64 0] (c - k)) true T 0)).heap M.next=some (.row ((aX.row xs).take k++N .u64 (x:Int) :: cZ [N .u64 0] (c - k)) true T 0):=aN _
   have hb2:=Dw (z:=.row ((aX.row xs).take k++N .u64 (x:Int) :: cZ [N .u64 0] (c - k)) true T 0) hb1 (show b≠M.next by omega)
   have kp2:ag [] M (M1.put M.next (.row ((aX.row xs).take k++N .u64 (x:Int) :: cZ [N .u64 0] (c - k)) true T 0)):=kp.new _ (Nat.le_refl _)
   have hn2:(M1.put M.next (.row ((aX.row xs).take k++N .u64 (x:Int) :: cZ [N .u64 0] (c - k)) true T 0)).next=M.next + 1:=hn1
   generalize M1.put M.next (.row ((aX.row xs).take k++N .u64 (x:Int) :: cZ [N .u64 0] (c - k)) true T 0)=M2 at *
   have hr1:=qZ (c - k)
   have asF:M2.loads b k (c - k)=some ((aX.row xs).drop k):=by
    rw[RM.dO hb2 (by omega),List.take_of_length_le (by simp[hrow])]
   have axe:((aX.row xs).take k++N .u64 (x:Int) :: cZ [N .u64 0] (c - k)).length=c + 1:=by rw[List.length_append,htl,List.length_cons,hr1.1]; omega
   have abj:((aX.row xs).drop k).all oneCell=true:=by
    rw[List.all_eq_true]; exact fun y hy=>List.all_eq_true.1 hall y (List.mem_of_mem_drop hy)
   rw[zy (k:=c - k) atv (by simp[Nat.min_def]) (by omega) asF (by rw[axe]; omega) abj]
   have hrow3:((aX.row xs).take k++N .u64 (x:Int) :: cZ [N .u64 0] (c - k)).take (k + 1)++(aX.row xs).drop k++((aX.row xs).take k++N .u64 (x:Int) :: cZ [N .u64 0] (c - k)).drop (k + 1 + (c - k))=aX.row (iw k x xs):=by
    rw[atE htl hr1.1,hins]
   rw[hrow3]
   refine hQ _ _ ?_ rfl (fun d hd=>.inr (by simp[aG] at hd; omega)) ((kp2.new _ (Nat.le_refl _)).mono (by simp))
   have:Rw aX (M2.put M.next (.row (aX.row (iw k x xs)) true T 0)) M.next true T (iw k x xs):=⟨aN _,by rw[jk]; omega⟩
   have h4:=this.sl (cap:=.op 1)
   rw[hinl] at h4
   exact h4
 ·have hcn:n + 1≤c:=by simp at hg; omega
  rw[bS,u7 (by omega),N9 (by omega) (by omega),dN,bS,u7 (by omega),vN (by omega) (by omega) (by omega),dN]
  simp only[Nat.zero_add,Nat.mul_one]
  refine hov hne hx hb (by simp) (by rw[aim]; omega) ?_
  rw[aY,Bool.not_false,cO,bS,u7 (by omega),vN (by omega) (by omega) (by omega),dN,vN (by omega) (by omega) (by omega),dN]
  simp only[Nat.zero_add,Nat.mul_one]
  have abj:((aX.row xs).drop k).all oneCell=true:=by
   rw[List.all_eq_true]; exact fun y hy=>List.all_eq_true.1 hall y (List.mem_of_mem_drop hy)
  rw[zy (k:=n - k) hb (by simp[Nat.min_def]; omega) (by omega) hold (by rw[aim]; omega) abj]
  have hsplit:aX.row xs=(aX.row xs).take k++(aX.row xs).drop k:=(List.take_append_drop _ _).symm
  obtain⟨y,D,hD⟩ : ∃ y D,(aX.row xs).drop k=y :: D:=by
   cases h:(aX.row xs).drop k with
   | nil=>rw[h] at hdl; simp at hdl; omega
   | cons y D=>exact⟨y,D,rfl⟩
  obtain⟨R,hR⟩ : ∃ R,List.replicate (c - n) AV.top=.top :: R∧R.length=c - n - 1:=⟨List.replicate (c - n - 1) AV.top,by rw[show c - n=(c - n - 1) + 1 by omega,List.replicate_succ]; simp,by simp⟩
  generalize hA:(aX.row xs).take k=A at *
  have hDl:D.length + 1=n - k:=by rw[hD] at hdl; simpa using hdl
  have aum:(aX.row xs++List.replicate (c - n) AV.top).take (k + 1)++(aX.row xs).drop k++(aX.row xs++List.replicate (c - n) AV.top).drop (k + 1 + (n - k))=A++y :: (y :: D++R):=by
   have hX:aX.row xs=A++y :: D:=by rw[hsplit,hD]
   rw[hD,hX,hR.1]
   have e1:A++y :: D++AV.top :: R=(A++[y])++(D++AV.top :: R):=by simp
   have e2:A++y :: D++AV.top :: R=(A++y :: D++[AV.top])++R:=by simp
   have d1:(A++y :: D++AV.top :: R).drop (k + 1 + (n - k))=R:=by rw[e2,List.drop_left' (by simp; omega)]
   have d2:(A++y :: D++AV.top :: R).take (k + 1)=A++[y]:=by rw[e1,List.take_left' (by simp[htl])]
   rw[d1,d2]
   simp
  rw[aum]
  have hb2:(M.put b (.row (A++y :: (y :: D++R)) true T 0)).heap b=some (.row (A++y :: (y :: D++R)) true T 0):=aN _
  have kp:ag [b] M (M.put b (.row (A++y :: (y :: D++R)) true T 0)):=(ag.refl _ _).put _ (.inr (by simp))
  have hx2:=kp.loads hxl (by simp[hne]) (o:=0) (k:=1)
  rw[hxo] at hx2
  have hn2:(M.put b (.row (A++y :: (y :: D++R)) true T 0)).next=M.next:=rfl
  generalize M.put b (.row (A++y :: (y :: D++R)) true T 0)=M2 at *
  have hl2:(A++y :: (y :: D++R)).length=c:=by simp[htl,hR.2]; omega
  rw[dN,zy (k:=1) hb2 (by simp[Nat.min_def]; omega) (by omega) hx2 (by rw[hl2]; omega) rfl]
  have hrow2:(A++y :: (y :: D++R)).take k++[N .u64 (x:Int)]++(A++y :: (y :: D++R)).drop (k + 1)=aX.row (iw k x xs)++R:=by
   rw[hins,hD,List.take_left' htl,show(A++y :: (y :: D++R)).drop (k + 1)=y :: D++R by
    rw[show A++y :: (y :: D++R)=(A++[y])++(y :: D++R) by simp,List.drop_left' (by simp[htl])]]
   simp
  rw[hrow2]
  refine hQ _ _ ?_ (show n + 1≤c from hcn) (fun d hd=>.inl (by simpa [aG] using hd)) (kp.put _ (.inr (by simp)))
  rw[← hinl]
  refine .slc _ _ _ _ _ (by rw[jk,hn2]; exact hbl) ?_
  have hil:(aX.row (iw k x xs)).length=n + 1:=by rw[Enc.fq,hinl]; simp[aX]
  show RM.loads _ b 0 ((iw k x xs).length * 1)=_
  rw[Nat.mul_one,hinl,RM.dO (aN _) (by rw[List.length_append,hil]; omega),List.drop_zero,List.take_append_of_le_length (by omega),List.take_of_length_le (by omega)]
theorem Own.eZ {M:RM} {n el n0:Nat} {v:AV} {cs:List AV} (h:Own M n0 el 1 v cs n) : eZ v:=by
 cases h with
 | nil=>trivial
 | ex0=>exact Nat.le_refl _
 | op=>rfl
theorem aeG {M:RM} {v:AV} {xs:List Nat} {k:Nat} (h:Sl aX M v xs) (hc:eZ v) (hk:k≤xs.length) :
  ∃ v',bY 1 v (some (N .i64 (k:Int))) none none=some v'∧Sl aX M v' (xs.drop k)∧eZ v'∧∀ b∈aG v',b∈aG v:=by
 generalize hcs:aX.row xs=cs at *
 have h' : aL M 1 v cs xs.length:=by rw[← hcs]; exact h
 have hl:cs.length=xs.length:=by rw[← hcs,Enc.fq]; simp[aX]
 have hd:aX.row (xs.drop k)=cs.drop k:=by rw[← hcs,← aX.uo]; simp[aX]
 generalize hn:xs.length=n at *
 cases h' with
 | nil =>
   have:k=0:=by omega
   subst this
   exact⟨aZ,by simp[bY,bnd],by simp only[Sl]; rw[hd]; simp[hn]; exact .nil,trivial,by simp⟩
 | emp b =>
   have:k=0:=by omega
   subst this
   exact⟨.emp b,by simp[bY,bnd],by simp only[Sl]; rw[hd]; simp[hn]; exact .emp b,trivial,by simp⟩
 | slc b o n cap cs hb hload =>
   rw[Nat.mul_one] at hload
   have zH:M.loads b (o + k) (n - k)=some (cs.drop k):=by
    have:=pQ hload k (n - k) (by omega)
    rw[List.take_of_length_le (by simp; omega)] at this
    exact this
   cases cap with
   | ex c =>
     have hcn:n≤c:=hc
     by_cases hck:c=k
     ·have hkn:k=n:=by omega
      refine⟨.slc b o 0 (.ex 0),by simp only[bY,bnd]; simp[hk,hcn,hck]; omega, ?_,Nat.le_refl _,by simp[aG]⟩
      simp only[Sl]
      rw[hd,List.length_drop,hn,hkn,Nat.sub_self,List.drop_of_length_le (by omega)]
      refine .slc b o 0 _ _ hb ?_
      have:=pQ hload 0 0 (by omega)
      simpa using this
     ·refine⟨.slc b (o + k * 1) (n - k) (.ex (c - k)),by simp only[bY,bnd]; simp[hk,hcn,hck], ?_,by simp only[eZ]; omega,by simp[aG]⟩
      simp only[Sl]
      rw[hd,List.length_drop,hn]
      refine .slc _ _ _ _ _ hb ?_
      show M.loads b (o + k * 1) ((n - k) * 1)=_
      rw[Nat.mul_one,Nat.mul_one]; exact zH
   | op e =>
     have he:e=1:=hc
     subst he
     by_cases hkn:n≤k
     ·refine⟨.emp b,by simp only[bY,bnd]; simp[hk,hkn], ?_,trivial,by simp[aG]⟩
      simp only[Sl]
      rw[hd,List.length_drop,hn,show n - k=0 by omega,List.drop_of_length_le (by omega)]
      exact .emp b
     ·refine⟨.slc b (o + k * 1) (n - k) (.op 1),by simp only[bY,bnd]; simp[hk,hkn], ?_,rfl,by simp[aG]⟩
      simp only[Sl]
      rw[hd,List.length_drop,hn]
      refine .slc _ _ _ _ _ hb ?_
      show M.loads b (o + k * 1) ((n - k) * 1)=_
      rw[Nat.mul_one,Nat.mul_one]; exact zH
def eT:Nat→List Nat→Nat × Nat
 | u,[]=>(u,0)
 | u,x :: xs=>if x≤u + 1 then((eT (max u x) xs).1,(eT (max u x) xs).2 + 1) else(u,0)
def settle (u:Nat) (xs:List Nat) : Nat × List Nat:=((eT u xs).1,xs.drop (eT u xs).2)
theorem Xl {u:Nat} {xs:List Nat} {i u' : Nat} (hi:i<xs.length) (h:eT u xs=((eT u' (xs.drop i)).1,(eT u' (xs.drop i)).2 + i)) (hle:xs[i]≤u' + 1) :
  eT u xs=((eT (max u' xs[i]) (xs.drop (i + 1))).1,(eT (max u' xs[i]) (xs.drop (i + 1))).2 + (i + 1)):=by
 rw[h,List.drop_eq_getElem_cons hi,eT,if_pos hle]
 ext <;> simp; omega
theorem V7 {u:Nat} {xs:List Nat} {i u' : Nat} (h:eT u xs=((eT u' (xs.drop i)).1,(eT u' (xs.drop i)).2 + i)) (hs:i=xs.length∨∃ hi:i<xs.length,¬ xs[i]≤u' + 1) : eT u xs=(u',i):=by
 rw[h]
 rcases hs with hs | ⟨hi,hs⟩
 ·rw[List.drop_of_length_le (by omega)]; simp[eT]
 ·rw[List.drop_eq_getElem_cons hi,eT,if_neg hs]; simp
theorem UD (a b:Nat) : (if (b:Int) > (a:Int) then(b:Int) else(a:Int))=((max a b:Nat) : Int):=by
 split <;> omega
theorem agE {l:List AV} {o:Nat} {x:AV} (h:l[o]?=some x) : l.set o x=l:=by
 apply List.ext_getElem?
 intro j
 rw[List.getElem?_set]
 split
 ·rename_i e; subst e
  obtain⟨h1,h2⟩:=List.getElem?_eq_some_iff.1 h
  simp[h1,h2]
 ·rfl
def Gj (c:au) : Prop:=∀ {M:RM} {b o T u:Nat} {l:List AV} {v:AV} {xs:List Nat} {Q:ak},M.heap b=some (.row l false T 0)→l[o]?=some (N .u64 (u:Int))→l[o + 1]?=some v→Sl aX M v xs→b ∉ aG v→eZ v →
 xs.length≤1000000→u≤4398046511104→(∀ x∈xs,x≤4398046511104) →
 (∀ v' M',M'.heap b=some (.row ((l.set o (N .u64 (((settle u xs).1:Nat) : Int))).set (o + 1) v') false T 0)→Sl aX M' v' (settle u xs).2→eZ v'→(∀ d∈aG v',d∈aG v)→ag [b] M M'→M'.next=M.next→Q (.tup []) M')→c [.ptr b o] M Q
theorem Wl:Gj fun args M Q=>∃ a0,args=[a0]∧xS a0 M Q:=by
 intro M b o T u l v xs Q hb ho hv hs hbv hcap hxl hu hx hQ
 refine⟨_,rfl, ?_⟩
 unfold xS
 simp only[ig]
 have hol:o<l.length:=(List.getElem?_eq_some_iff.1 ho).1
 have avo:o + 1<l.length:=(List.getElem?_eq_some_iff.1 hv).1
 refine aQ (fun m ys M3=>∃ (i u' : Nat),m=xs.length - i∧ys=[N .i64 (i:Int)]∧i≤xs.length∧u'≤4398046511104∧M3.heap b=some (.row (l.set o (N .u64 (u' : Int))) false T 0)∧ag [b] M M3∧M3.next=M.next ∧
   eT u xs=((eT u' (xs.drop i)).1,(eT u' (xs.drop i)).2 + i)) _
  ⟨0,u,rfl,rfl,Nat.zero_le _,hu, ?_,ag.refl _ _,rfl,by simp⟩ ?_
 ·rw[hb]
  rw[agE ho]
 rintro next m ys M3 hnext ⟨i,u',rfl,rfl,hi,hu',h3,hK,hn3,hset⟩
 dsimp only[aa]
 have g0:(l.set o (N .u64 (u' : Int)))[o]?=some (N .u64 (u' : Int)):=by rw[List.getElem?_set_self hol]
 have g1:(l.set o (N .u64 (u' : Int)))[o + 1]?=some v:=by rw[List.getElem?_set_ne (by omega)]; exact hv
 have hs3:Sl aX M3 v xs:=aL.keep hs hK (fun d hd h=>by simp at h; subst h; exact hbv hd)
 rw[aI,aO,aj h3 g1,aL.len hs3,bZ]
 have stop:(i=xs.length∨∃ hi:i<xs.length,¬ xs[i]≤u' + 1)→bF (.ptr b o) fun t44=>aB t44 1 fun t45=>ai M3 t45 fun t46=>iE (bY 1 t46 (some (N .i64 (i:Int))) none none) fun t48=>bF (.ptr b o) fun t49=>aB t49 1 fun t50=>aC M3 t50 t48 1 fun nA=>Q (.tup []) nA:=fun h=>by
  have he:=V7 hset h
  rw[aI,aO,aj h3 g1]
  obtain⟨v',e1,e2,e3,e4⟩:=aeG hs3 hcap hi
  rw[e1,dN,aI,aO,gV h3 (by simpa using avo) (aL.cells e2) (aL.one e2)]
  have kk:ag [b] M3 (M3.put b (.row ((l.set o (N .u64 (u' : Int))).set (o + 1) v') false T 0)):=(ag.refl _ _).put _ (.inr (by simp))
  refine hQ v' _ ?_ ?_ e3 e4 (hK.trans kk) hn3
  ·rw[aN,settle,he]
  ·rw[settle,he]
   exact aL.keep e2 kk (fun d hd h=>by simp at h; subst h; exact hbv (e4 _ hd))
 by_cases hlt:i<xs.length
 ·have hxi:=hx _ (List.getElem_mem hlt)
  obtain⟨b1,o1,_,_,hidx,hc⟩:=Sl.Bu (E:=aX) hs3 (i:Int) hlt
  have hc:=hc _ rfl
  rw[show decide ((i:Int)<(xs.length:Int))=true by simpa using hlt,gY,aI,aO,aj h3 g1,hidx,gI]
  refine⟨_,hc, ?_⟩
  rw[aI,aO,Nat.add_zero,aj h3 g0,bS,lF]
  rw[show IntKind.u64.wrap ((u' : Int) + 1)=((u' + 1:Nat) : Int) by unfold IntKind.wrap; simp[IntKind.bits,IntKind.signed]; omega]
  dsimp only
  rw[cK]
  refine aJ (fun h=>?_) (fun h=>?_)
  ·have hle:xs[i]≤u' + 1:=by
    have h2:((xs[i] : Nat) : Int)≤((u' + 1:Nat) : Int):=of_decide_eq_true h
    omega
   rw[aI,aO,Nat.add_zero,aj h3 g0,aI,aO,aj h3 g1,hidx,gI]
   refine⟨_,hc, ?_⟩
   rw[V4,if_pos rfl,UD,aI,aO,Nat.add_zero,jy (l.set o (N .u64 ((max u' xs[i] : Nat) : Int))) h3 (by simpa using hol) rfl rfl (by rw[List.set_set]),bS,eB (by omega)]
   exact hnext _ _ _ (by omega) ⟨i + 1,max u' xs[i],rfl,rfl,by omega,by omega,aN _,hK.put _ (.inr (by simp)),hn3,Xl hlt hset hle⟩
  ·have hle:¬ xs[i]≤u' + 1:=by
    have h2:¬ ((xs[i] : Nat) : Int)≤((u' + 1:Nat) : Int):=of_decide_eq_false h
    omega
   exact stop (.inr ⟨hlt,hle⟩)
 ·rw[show decide ((i:Int)<(xs.length:Int))=false by simp; omega,gW]
  dsimp only
  rw[bK,bJ]
  exact stop (.inl (by omega))
abbrev Pt:=Nat × List Nat
def iA (p:Pt) (n:Nat) : Bool × Pt :=
 if n∈p.2∨n≤p.1 then(true,p)
 else if (settle p.1 (iw (below n p.2) n p.2)).2.length≤4096 then(true,settle p.1 (iw (below n p.2) n p.2)) else(false,p)
def YJ (T:Nat) (c:au) : Prop:=∀ {M:RM} {v:AV} {bx n0 k x ex:Nat} {xs:List Nat} {Q:ak},Ow aX M n0 T v xs→n0≤M.next→xs.length≤100000→k≤xs.length→M.heap bx=some (.row [N .u64 (x:Int)] false ex 0)→bx<M.next→bx ∉ aG v →
 (∀ v' M',Sl aX M' v' (iw k x xs)→eZ v'→(∀ c∈aG v',n0≤c)→ag (aG v) M M'→Q v' M')→c [v,N .i64 (k:Int),.slc bx 0 1 (.ex 1)] M Q
theorem Gc (u:Nat) (xs:List Nat) : (settle u xs).2.length≤xs.length:=by simp[settle]
theorem EZ {k x:Nat} {xs:List Nat} {y:Nat} (h:y∈iw k x xs) : y=x∨y∈xs:=by
 unfold iw at h
 rcases List.mem_append.1 h with h | h
 ·exact .inr (List.mem_of_mem_take h)
 ·rcases List.mem_cons.1 h with h | h
  ·exact .inl h
  ·exact .inr (List.mem_of_mem_drop h)
def aa1 (c:au) : Prop:=∀ {M:RM} {b o T u n:Nat} {l:List AV} {v:AV} {xs:List Nat} {Q:ak},M.heap b=some (.row l false T 0)→b<M.next→l[o]?=some (N .u64 (u:Int))→l[o + 1]?=some v→Sl aX M v xs→b ∉ aG v→eZ v →
 Asc xs→xs.length≤10000→u≤4398046511104→(∀ x∈xs,x≤4398046511104)→n≤4398046511104 →
 (∀ M',iA (u,xs) n=((iA (u,xs) n).1,(u,xs))→ag [] M M'→Q (Bo (iA (u,xs) n).1) M') →
 (∀ v' M',M'.heap b=some (.row (l.take o++[N .u64 (((iA (u,xs) n).2.1:Nat) : Int),v']++l.drop (o + 2)) false T 0)→Sl aX M' v' (iA (u,xs) n).2.2→eZ v'→(∀ d∈aG v',M.next≤d)→ag [b] M M'→Q (Bo (iA (u,xs) n).1) M') →
 c [.ptr b o,N .u64 (n:Int)] M Q
theorem adE {TU TP:Nat} {cb cc ci cs:au} (hsr:JY cb) (hcl:EA TU 1 8 cc) (hin:YJ TU ci) (hst:Gj cs) : aa1 fun args M Q=>∃ a0 a1,args=[a0,a1]∧Fx cb TU TP cc ci cs a0 a1 M Q:=by
 intro M b o T u n l v xs Q hb hbl ho hv hs hbv hcap hasc hxl hu hx hn hsame hnew
 refine⟨_,_,rfl, ?_⟩
 unfold Fx
 simp only[gQ]
 have hol:o + 1<l.length:=(List.getElem?_eq_some_iff.1 hv).1
 rw[aI,aO,aj hb hv]
 refine hsr hs (by omega) hasc ?_
 rw[eD,eF]
 have yes:n∈xs∨n≤u→Q (Bo true) M:=fun h=>by
  have e:iA (u,xs) n=(true,(u,xs)):=by unfold iA; rw[if_pos h]
  have:=hsame M (by rw[e]) (ag.refl _ _)
  rw[e] at this; exact this
 by_cases hm:n∈xs
 ·rw[decide_eq_true hm,bM]
  dsimp only
  rw[cK,cO]
  exact yes (.inl hm)
 rw[decide_eq_false hm,bg,aI,aO,Nat.add_zero,aj hb ho,lF]
 dsimp only
 rw[bK]
 by_cases hnu:n≤u
 ·rw[show decide ((n:Int)≤(u:Int))=true by simpa using hnu,cO]
  exact yes (.inr hnu)
 rw[show decide ((n:Int)≤(u:Int))=false by simp; omega,bJ]
 have e0:iA (u,xs) n=if (settle u (iw (below n xs) n xs)).2.length≤4096 then(true,settle u (iw (below n xs) n xs)) else(false,(u,xs)):=by
  unfold iA; rw[if_neg (by simp[hm]; omega)]
 rw[aI,aO,Nat.add_zero,aj hb ho,aI,aO,aj hb hv,sI (x:=N .u64 (n:Int)) (size:=1) rfl rfl rfl,pF,pF]
 have hx1:((M.push (.row [N .u64 (n:Int)] false TU 0)).push (.row [N .u64 0,aZ] false TP 0)).heap M.next=some (.row [N .u64 (n:Int)] false TU 0):=mR (RM.aT _) (by simp[RM.push])
 have h7:((M.push (.row [N .u64 (n:Int)] false TU 0)).push (.row [N .u64 0,aZ] false TP 0)).heap (M.next + 1)=some (.row [N .u64 0,aZ] false TP 0):=RM.aT _
 have kk:ag [] M ((M.push (.row [N .u64 (n:Int)] false TU 0)).push (.row [N .u64 0,aZ] false TP 0)):=((ag.refl _ _).push _).push _
 have nn:((M.push (.row [N .u64 (n:Int)] false TU 0)).push (.row [N .u64 0,aZ] false TP 0)).next=M.next + 2:=rfl
 rw[I6]
 change cc _ ((M.push (.row [N .u64 (n:Int)] false TU 0)).push (.row [N .u64 0,aZ] false TP 0)) _
 generalize (M.push (.row [N .u64 (n:Int)] false TU 0)).push (.row [N .u64 0,aZ] false TP 0)=M1 at *
 refine hcl (aL.keep hs kk (by simp)) (aX.qB xs) (by omega) (by omega) fun v1 M2 ow k2=>?_
 have n2:=k2.next
 have hb2:=(kk.trans k2).aD hb hbl (by simp)
 have hx2:=k2.aD hx1 (by omega) (by simp)
 have h72:=k2.aD h7 (by omega) (by simp)
 have hbi:=below_le n xs
 have hwb:∀ d∈aG v1,M1.next≤d:=fun d hd=>(ow.blk d hd).1
 rw[aj hb2 ho]
 refine⟨rfl, ?_⟩
 rw[sI (x:=N .u64 (n:Int)) (size:=1) rfl rfl rfl]
 refine⟨⟨hx2,rfl⟩,⟨h72,rfl⟩, ?_⟩
 refine hin (n0:=M1.next) ow n2 (by omega) hbi hx2 (by omega) (fun h=>by have:=hwb _ h; omega) fun v2 M3 s3 c3 b3 k3=>?_
 have n3:=k3.next
 have ke:ag [] M M3:=(kk.trans k2).bG k3 fun d hd=>.inl (by have:=hwb d hd; omega)
 have hb3:=ke.aD hb hbl (by simp)
 have h73:=k3.aD h72 (by omega) (fun h=>by have:=hwb _ h; omega)
 rw[aj hb3 ho]
 refine⟨rfl,⟨h73,rfl⟩, ?_⟩
 rw[eY]
 refine⟨[N .u64 (u:Int),v2],alx rfl rfl (aL.known s3) (aL.cells s3), ?_⟩
 rw[dB (n:=2) (x:=.agg [N .u64 (u:Int),v2]) (l:=[N .u64 0,aZ]) h73 rfl rfl (by simp[AV.cells,Xa,aL.one s3])]
 change cs _ (M3.put (M.next + 1) (.row [N .u64 (u:Int),v2] false TP 0)) _
 have h74:(M3.put (M.next + 1) (.row [N .u64 (u:Int),v2] false TP 0)).heap (M.next + 1)=_:=aN _
 have ke4:ag [] M (M3.put (M.next + 1) (.row [N .u64 (u:Int),v2] false TP 0)):=ke.new _ (by omega)
 have n4:(M3.put (M.next + 1) (.row [N .u64 (u:Int),v2] false TP 0)).next=M3.next:=rfl
 have s4:Sl aX (M3.put (M.next + 1) (.row [N .u64 (u:Int),v2] false TP 0)) v2 (iw (below n xs) n xs):=aL.keep (bs:=[M.next + 1]) s3 ((ag.refl _ _).put _ (.inr (by simp))) (fun d hd h=>by have:=b3 d hd; simp at h; omega)
 have hb4:=Dw (z:=.row [N .u64 (u:Int),v2] false TP 0) hb3 (show b≠M.next + 1 by omega)
 generalize M3.put (M.next + 1) (.row [N .u64 (u:Int),v2] false TP 0)=M4 at *
 have hil:=Fs (x:=n) hbi
 refine hst h74 rfl rfl s4 (fun h=>by have:=b3 _ h; omega) c3 (by omega) hu (fun y hy=>by rcases EZ hy with rfl | hy; exact hn; exact hx y hy) ?_
 intro v5 M5 h75 s5 c5 b5 k5 n5
 have hb5:=k5.aD hb4 (by omega) (by simp; omega)
 have ke5:ag [] M M5:=ke4.bG k5 fun d hd=>.inl (by simp at hd; omega)
 simp only[List.set_cons_zero,List.set_cons_succ,Nat.zero_add] at h75
 rw[aU,aj h75 rfl,aL.len s5,dF]
 refine aJ (fun hg=>?_) (fun hg=>?_)
 ·have hg:¬ (settle u (iw (below n xs) n xs)).2.length≤4096:=by simp at hg; omega
  rw[if_neg hg] at e0
  have:=hsame M5 (by rw[e0]) ke5
  rw[e0] at this; exact this
 ·have hg:(settle u (iw (below n xs) n xs)).2.length≤4096:=by simp at hg; omega
  rw[if_pos hg] at e0
  rw[bI (n:=2) h75 rfl,aI,vW]
  have hst:M5.stores b o [N .u64 (((settle u (iw (below n xs) n xs)).1:Nat) : Int),v5]=some (M5.put b (.row (l.take o++[N .u64 (((settle u (iw (below n xs) n xs)).1:Nat) : Int),v5]++l.drop (o + 2)) false T 0)):=by
   rw[RM.u6 hb5,pE (by simp only[List.length_cons,List.length_nil]; omega) (Nat.zero_le _) (by simp[Xa,aL.one s5])]; rfl
  refine⟨rfl,_,hst, ?_⟩
  have kf:ag [b] M5 (M5.put b (.row (l.take o++[N .u64 (((settle u (iw (below n xs) n xs)).1:Nat) : Int),v5]++l.drop (o + 2)) false T 0)):=(ag.refl _ _).put _ (.inr (by simp))
  have:=hnew v5 _ (by rw[aN,e0]) (by rw[e0]; exact aL.keep s5 kf (fun d hd h=>by have:=b3 d (b5 d hd); simp at h; omega)) c5 (fun d hd=>by have:=b3 d (b5 d hd); omega) ((ke5.mono (by simp)).trans kf)
  rw[e0] at this; exact this
def lc (p:Pt) (n:Nat) : Bool:=(decide (1≤n) && decide (n≤p.1)) || decide (n∈p.2)
def TJ (c:au) : Prop:=∀ {M:RM} {b o T u n:Nat} {l:List AV} {v:AV} {xs:List Nat} {Q:ak},M.heap b=some (.row l false T 0)→l[o]?=some (N .u64 (u:Int))→l[o + 1]?=some v→Sl aX M v xs→Asc xs→xs.length≤1000000 →
 Q (Bo (lc (u,xs) n)) M→c [.ptr b o,N .u64 (n:Int)] M Q
theorem ad3 {cb:au} (hsr:JY cb) : TJ fun args M Q=>∃ a0 a1,args=[a0,a1]∧Gf cb a0 a1 M Q:=by
 intro M b o T u n l v xs Q hb ho hv hs hasc hxl hQ
 refine⟨_,_,rfl, ?_⟩
 unfold Gf
 simp only[gQ]
 unfold lc at hQ
 rw[aI,aO,aj hb hv]
 refine hsr hs hxl hasc ?_
 rw[eD,eF,iR]
 by_cases h1:1≤n
 ·rw[show decide ((n:Int) ≥ 1)=true by simp; omega,bU,aI,aO,Nat.add_zero,aj hb ho,lF]
  dsimp only
  rw[cK]
  by_cases h2:n≤u
  ·rw[show decide ((n:Int)≤(u:Int))=true by simpa using h2,bM]
   dsimp only
   rw[cK]
   simpa [h1,h2] using hQ
  ·rw[show decide ((n:Int)≤(u:Int))=false by simp; omega,bg]
   dsimp only
   rw[bK]
   simpa [h1,h2] using hQ
 ·rw[show decide ((n:Int) ≥ 1)=false by simp; omega,bC]
  dsimp only
  rw[bK,bg]
  dsimp only
  rw[bK]
  simpa [h1] using hQ
abbrev ay:=Int × Nat
abbrev aM (d:ay) : List AV:=[N .i64 d.1,N .u64 (d.2:Int)]
def dV:Enc ay:=⟨2,aM,fun _=>rfl,fun _=>rfl⟩
def good (d:ay) : Bool:=decide (0≤d.1) && decide (d.1<16) && decide (1≤d.2) && decide (d.2≤1099511627776)
def Cb (c:au) : Prop:=∀ {M:RM} {d:ay} {Q:ak},(∀ M',ag [] M M'→Q (Bo (good d)) M')→c [.agg (aM d)] M Q
theorem RF {M1:RM} {K:ak} {d:ay} {T:Nat} {b:Nat} (h:M1.heap b=some (.row (aM d) false T 0)) (hQ:K (Bo (good d)) M1) :
  aB (.ptr b 0) 0 fun t3=>ai M1 t3 fun t4=>ae .geq t4 (N .i64 0) fun t5 =>
   af t5 true (fun k'=>aB (.ptr b 0) 0 fun t7=>ai M1 t7 fun t8=>ae .lss t8 (N .i64 16) fun t9=>k' t9 M1) (fun k=>k .undef M1) fun t9 M2=>aH t5 t9 (Bo false) fun bN =>
   af bN true (fun k'=>aB (.ptr b 0) 1 fun t12=>ai M2 t12 fun bO=>ae .geq bO (N .u64 1) fun t14=>k' t14 M2) (fun k=>k .undef M2) fun t14 M3=>aH bN t14 (Bo false) fun t15 =>
   af t15 true (fun k'=>aB (.ptr b 0) 1 fun t17=>ai M3 t17 fun t18=>ae .leq t18 (N .u64 1099511627776) fun t19=>k' t19 M3) (fun k=>k .undef M3) fun t19 M4=>aH t15 t19 (Bo false) fun t20=>K t20 M4:=by
 unfold good at hQ
 obtain⟨dv,n⟩:=d
 simp only at hQ
 rw[aU,aj h rfl,iR]
 by_cases h1:0≤dv
 ·rw[show decide (dv ≥ 0)=true by simpa using h1,bU,aU,aj h rfl,bZ]
  dsimp only
  rw[cK]
  by_cases h2:dv<16
  ·rw[show decide (dv<16)=true by simpa using h2,bU,aU,aj h rfl,iR]
   dsimp only
   rw[cK]
   by_cases h3:1≤n
   ·rw[show decide ((n:Int) ≥ 1)=true by simp; omega,bU,aU,aj h rfl,lF]
    dsimp only
    rw[cK,show decide ((n:Int)≤1099511627776)=decide (n≤1099511627776) by simp; omega]
    simpa [h1,h2,h3] using hQ
   ·rw[show decide ((n:Int) ≥ 1)=false by simp; omega,bC]
    dsimp only
    rw[bK]
    simpa [h1,h2,h3] using hQ
  ·rw[show decide (dv<16)=false by simpa using h2,bC]
   dsimp only
   rw[bK,bC]
   dsimp only
   rw[bK]
   simpa [h1,h2] using hQ
 ·rw[show decide (dv ≥ 0)=false by simpa using h1,bC]
  dsimp only
  rw[bK,bC]
  dsimp only
  rw[bK,bC]
  dsimp only
  rw[bK]
  simpa [h1] using hQ
theorem adP {T:Nat} : Cb fun args M Q=>∃ a0,args=[a0]∧Mm T a0 M Q:=by
 intro M d Q hQ
 refine⟨_,rfl, ?_⟩
 unfold Mm
 simp only[gQ]
 rw[dU rfl (by simp),bn]
 exact RF (RM.aT _) (hQ _ ((ag.refl _ _).push _))
theorem Vx {T:Nat} : Cb fun args M Q=>∃ a0,args=[a0]∧Md T a0 M Q:=by
 intro M d Q hQ
 refine⟨_,rfl, ?_⟩
 unfold Md
 simp only[gQ]
 rw[dU rfl (by simp),bn]
 exact RF (RM.aT _) (hQ _ ((ag.refl _ _).push _))
def pG (p:Pt) : Prop:=Asc p.2∧(∀ x∈p.2,p.1 + 1<x)∧p.1≤1099511627776∧(∀ x∈p.2,x≤1099511627776)∧p.2.length≤4096
theorem agO {n:Nat} {xs:List Nat} (h:Asc xs) (hn:n ∉ xs) : Asc (iw (below n xs) n xs):=by
 unfold iw Asc
 rw[List.pairwise_append]
 have ht:=List.Pairwise.sublist (List.take_sublist (below n xs) xs) h
 have hd:=List.Pairwise.sublist (List.drop_sublist (below n xs) xs) h
 have lt1:∀ a∈xs.take (below n xs),a<n:=fun a ha=>by
  obtain⟨i,hi,rfl⟩:=List.getElem_of_mem ha
  rw[List.getElem_take]
  exact WL (by simp at hi; omega) (by simp at hi; omega)
 have gt1:∀ a∈xs.drop (below n xs),n<a:=fun a ha=>by
  obtain⟨i,hi,rfl⟩:=List.getElem_of_mem ha
  rw[List.getElem_drop]
  simp only[List.length_drop] at hi
  have h0:below n xs<xs.length:=by omega
  have h1:=UJ (n:=n) h0
  have h2:xs[below n xs]≠n:=fun e=>hn (by rw[← e]; exact List.getElem_mem h0)
  rcases Nat.eq_zero_or_pos i with rfl | hi0
  ·simp only[Nat.add_zero]; omega
  ·have:=h.lt (i:=below n xs) (j:=below n xs + i) (by omega) (by omega); omega
 refine⟨ht,List.pairwise_cons.2 ⟨gt1,hd⟩,fun a ha b hb=>?_⟩
 rcases List.mem_cons.1 hb with rfl | hb
 ·exact lt1 a ha
 ·have:=lt1 a ha; have:=gt1 b hb; omega
theorem Av:∀ (xs:List Nat) (u N:Nat),Asc xs→u≤N→(∀ x∈xs,x≤N)→Asc (settle u xs).2∧(∀ x∈(settle u xs).2,(settle u xs).1 + 1<x)∧(settle u xs).1≤N∧u≤(settle u xs).1
 | [],u,N,_,hu,_=>⟨by simp[settle,eT,Asc],by simp[settle,eT],hu,Nat.le_refl _⟩
 | x :: xs,u,N,ha,hu,hx=>by
   have ha2:=(List.pairwise_cons.1 ha).2
   by_cases h:x≤u + 1
   ·have e:settle u (x :: xs)=settle (max u x) xs:=by
     unfold settle
     rw[eT,if_pos h]; rfl
    rw[e]
    have:=Av xs (max u x) N ha2 (by have:=hx x (by simp); omega) (fun y hy=>hx y (by simp[hy]))
    exact⟨this.1,this.2.1,this.2.2.1,by have:=this.2.2.2; omega⟩
   ·have e:settle u (x :: xs)=(u,x :: xs):=by
     unfold settle
     rw[eT,if_neg h]; rfl
    rw[e]
    refine⟨ha,fun y hy=>?_,hu,Nat.le_refl _⟩
    simp only at hy ⊢
    rcases List.mem_cons.1 hy with rfl | hy
    ·omega
    ·have:=(List.pairwise_cons.1 ha).1 y hy; omega
theorem Pf {u:Nat} {xs:List Nat} {y:Nat} (h:y∈(settle u xs).2) : y∈xs:=List.mem_of_mem_drop h
theorem aj4 {p:Pt} {n:Nat} (hp:pG p) (hn:n≤1099511627776) : pG (iA p n).2:=by
 unfold iA
 split
 ·exact hp
 ·rename_i h
  split
  ·rename_i h2
   have hm:n ∉ p.2:=fun hm=>h (.inl hm)
   have:=Av (iw (below n p.2) n p.2) p.1 1099511627776 (agO hp.1 hm) hp.2.2.1 (fun x hx=>by rcases EZ hx with rfl | hx; exact hn; exact hp.2.2.2.1 x hx)
   exact⟨this.1,this.2.1,this.2.2.1,fun x hx=>by rcases EZ (Pf hx) with rfl | hx; exact hn; exact hp.2.2.2.1 x hx,h2⟩
  ·exact hp
structure iy (T:Nat) (S:Nat→Prop) (M:RM) (b:Nat) (ps:List Pt) : Prop where
 lt:b<M.next
 len:ps.length=16
 row:∃ l,M.heap b=some (.row l false T 0)∧l.length=32∧∀ (i:Nat) (hi:i<ps.length),∃ v,l[2 * i]?=some (N .u64 (ps[i].1:Int))∧l[2 * i + 1]?=some v∧Sl aX M v ps[i].2∧eZ v∧∀ d∈aG v,S d
 nb:¬ S b
theorem iy.mono {T:Nat} {S S' : Nat→Prop} {M:RM} {b:Nat} {ps:List Pt} (h:iy T S M b ps) (hs:∀ d,S d→S' d) (hb:¬ S' b) : iy T S' M b ps:=by
 obtain⟨l,h1,h2,h3⟩:=h.row
 exact⟨h.lt,h.len,⟨l,h1,h2,fun i hi=>let ⟨v,a1,a2,a3,a4,a5⟩:=h3 i hi; ⟨v,a1,a2,a3,a4,fun d hd=>hs d (a5 d hd)⟩⟩,hb⟩
theorem iy.keep {T:Nat} {S:Nat→Prop} {M M' : RM} {b:Nat} {ps:List Pt} {bs:List Nat} (h:iy T S M b ps) (hk:ag bs M M') (hb:b ∉ bs) (hs:∀ d∈bs,¬ S d) : iy T S M' b ps:=by
 obtain⟨l,h1,h2,h3⟩:=h.row
 exact⟨Nat.lt_of_lt_of_le h.lt hk.next,h.len,⟨l,hk.aD h1 h.lt hb,h2,fun i hi=>let ⟨v,a1,a2,a3,a4,a5⟩:=h3 i hi; ⟨v,a1,a2,aL.keep a3 hk (fun d hd hm=>hs d hm (a5 d hd)),a4,a5⟩⟩,h.nb⟩
theorem iy.below {T:Nat} {S:Nat→Prop} {M:RM} {b:Nat} {ps:List Pt} (h:iy T S M b ps) : iy T (fun d=>S d∧d<M.next) M b ps:=by
 obtain⟨l,h1,h2,h3⟩:=h.row
 exact⟨h.lt,h.len,⟨l,h1,h2,fun i hi=>let ⟨v,a1,a2,a3,a4,a5⟩:=h3 i hi; ⟨v,a1,a2,a3,a4,fun d hd=>⟨a5 d hd,aL.lt a3 d hd⟩⟩⟩,fun hb=>h.nb hb.1⟩
def ny (ps:List Pt) (d:ay) : Int × List Pt :=
 if good d then(if (iA (ps.getD d.1.toNat (0,[])) d.2).1 then(0,ps.set d.1.toNat (iA (ps.getD d.1.toNat (0,[])) d.2).2) else(2,ps)) else(1,ps)
def abV (T:Nat) (c:au) : Prop:=∀ {M:RM} {b:Nat} {ps:List Pt} {d:ay} {S:Nat→Prop} {Q:ak},iy T S M b ps→(∀ p∈ps,pG p) →
 (∀ M',iy T (fun e=>S e∨M.next≤e) M' b (ny ps d).2→ag [b] M M'→Q (N .i64 (ny ps d).1) M')→c [.ptr b 0,.agg (aM d)] M Q
theorem abD {p:Pt} {n:Nat} (h:(iA p n).1=false) : (iA p n).2=p:=by
 unfold iA at h ⊢
 split
 ·rfl
 ·split
  ·rename_i h1 h2
   rw[if_neg h1,if_pos h2] at h; cases h
  ·rfl
theorem ac8 {T TD:Nat} {cg ca:au} (hg:Cb cg) (ha:aa1 ca) : abV T fun args M Q=>∃ a0 a1,args=[a0,a1]∧Ib TD cg ca a0 a1 M Q:=by
 intro M b ps d S Q hset hwf hQ
 refine⟨_,_,rfl, ?_⟩
 unfold Ib
 rw[dU rfl (by simp),bn,bI (n:=2) (RM.aT _) rfl]
 have k1:ag [] M (M.push (.row (aM d) false TD 0)):=(ag.refl _ _).push _
 have h3:(M.push (.row (aM d) false TD 0)).heap M.next=some (.row (aM d) false TD 0):=RM.aT _
 have n1:(M.push (.row (aM d) false TD 0)).next=M.next + 1:=rfl
 generalize M.push (.row (aM d) false TD 0)=M1 at *
 refine hg fun M2 k2=>?_
 have kk:=k1.trans k2
 have h3:=k2.aD h3 (by omega) (by simp)
 have s2:=hset.keep kk (by simp) (by simp)
 have hbl:=hset.lt
 rw[aY]
 unfold ny at hQ
 have n2:=k2.next
 cases hgd:good d with
 | false =>
   simp only[hgd,Bool.false_eq_true,if_false] at hQ
   rw[Bool.not_false,cO]
   exact hQ M2 (s2.mono (fun e h=>.inl h) (fun h=>by rcases h with h | h; exact hset.nb h; omega)) (kk.mono (by simp))
 | true =>
   simp only[hgd,if_true] at hQ
   have hgd':=hgd
   simp[good] at hgd'
   obtain⟨i,hi⟩ : ∃ i:Nat,d.1=(i:Int):=⟨d.1.toNat,by omega⟩
   have Wd:i<16:=by omega
   have hil:i<ps.length:=by rw[hset.len]; exact Wd
   have aud:ps.getD d.1.toNat (0,[])=ps[i]:=by rw[hi,Int.toNat_natCast,List.getD_eq_getElem?_getD,List.getElem?_eq_getElem hil]; rfl
   rw[aud] at hQ
   rw[hi,Int.toNat_natCast] at hQ
   rw[Bool.not_true,bJ,aU,aj h3 rfl,aI,aU,hi,xg]
   refine⟨by omega,by omega, ?_⟩
   rw[aU,aj h3 rfl,Int.toNat_natCast,Nat.zero_add,Nat.mul_comm i 2]
   obtain⟨l,hb,IE,hrow⟩:=s2.row
   obtain⟨v,a1,a2,a3,a4,a5⟩:=hrow i hil
   have hwp:=hwf _ (List.getElem_mem hil)
   have hk0:∀ b'∈([b] : List Nat),b'=b:=by simp
   refine ha hb s2.lt a1 a2 a3 (fun h=>hset.nb (a5 b h)) a4 hwp.1 (by have:=hwp.2.2.2.2; omega) (by have:=hwp.2.2.1; omega) (fun x hx=>by have:=hwp.2.2.2.1 x hx; omega) (by omega) ?_ ?_
   ·intro M3 he k3
    have s3:=s2.keep k3 (by simp) (by simp)
    rw[aY]
    cases hr:(iA (ps[i].1,ps[i].2) d.2).1 with
    | false =>
      have hr' : (iA ps[i] d.2).1=false:=hr
      simp only[hr',Bool.false_eq_true,if_false] at hQ
      rw[Bool.not_false,cO]
      exact hQ M3 (s3.mono (fun e h=>.inl h) (fun h=>by rcases h with h | h; exact hset.nb h; omega)) ((kk.trans k3).mono (by simp))
    | true =>
      have hr' : (iA ps[i] d.2).1=true:=hr
      have he2:(iA ps[i] d.2).2=ps[i]:=by
       have:=congrArg Prod.snd he
       exact this
      simp only[hr',if_true,he2,List.set_getElem_self] at hQ
      rw[Bool.not_true,bJ]
      exact hQ M3 (s3.mono (fun e h=>.inl h) (fun h=>by rcases h with h | h; exact hset.nb h; omega)) ((kk.trans k3).mono (by simp))
   ·intro v' M3 hb3 hs3 hc3 hbk k3
    rw[aY]
    have hb2n:∀ b'∈aG v',b'≠b:=fun b' hb' e=>by have:=hbk b' hb'; omega
    have U4:iy T (fun e=>S e∨M.next≤e) M3 b (ps.set i (iA ps[i] d.2).2):=by
     refine⟨Nat.lt_of_lt_of_le s2.lt k3.next,by rw[List.length_set]; exact hset.len,⟨_,hb3,by simp[IE]; omega,fun j hj=>?_⟩,fun h=>by rcases h with h | h; exact hset.nb h; omega⟩
     rw[List.length_set] at hj
     have htl:(l.take (2 * i)).length=2 * i:=by simp; omega
     by_cases hji:j=i
     ·subst hji
      refine⟨v', ?_, ?_, ?_,hc3,fun e he=>.inr (by have:=hbk e he; omega)⟩
      ·rw[List.append_assoc,List.getElem?_append_right (by omega),htl,Nat.sub_self]; simp
      ·rw[List.append_assoc,List.getElem?_append_right (by omega),htl,show 2 * j + 1 - 2 * j=1 by omega]; simp
      ·simp only[List.getElem_set_self]; exact hs3
     ·obtain⟨w,e1,e2,e3,e4,e5⟩:=hrow j hj
      have same:∀ k,(k=2 * j∨k=2 * j + 1)→(l.take (2 * i)++[N .u64 (((iA (ps[i].1,ps[i].2) d.2).2.1:Nat) : Int),v']++l.drop (2 * i + 2))[k]?=l[k]?:=fun k hk=>by
       rcases Nat.lt_or_ge k (2 * i) with h | h
       ·rw[List.append_assoc,List.getElem?_append_left (by omega),List.getElem?_take_of_lt h]
       ·rw[List.getElem?_append_right (by simp; omega),List.getElem?_drop]
        congr 1
        simp; omega
      refine⟨w, ?_, ?_, ?_,e4,fun e he=>.inl (e5 e he)⟩
      ·rw[same _ (.inl rfl),e1,List.getElem_set_ne (Ne.symm hji)]
      ·rw[same _ (.inr rfl),e2]
      ·rw[List.getElem_set_ne (Ne.symm hji)]
       exact aL.keep e3 k3 (fun e he hm=>by simp at hm; subst hm; exact hset.nb (e5 _ he))
    cases hr:(iA (ps[i].1,ps[i].2) d.2).1 with
    | false =>
      have hr' : (iA ps[i] d.2).1=false:=hr
      simp only[hr',Bool.false_eq_true,if_false] at hQ
      rw[Bool.not_false,cO]
      have e:=abD hr'
      rw[e,List.set_getElem_self] at U4
      exact hQ M3 U4 ((kk.mono (by simp)).trans k3)
    | true =>
      have hr' : (iA ps[i] d.2).1=true:=hr
      simp only[hr',if_true] at hQ
      rw[Bool.not_true,bJ]
      exact hQ M3 U4 ((kk.mono (by simp)).trans k3)
def ik:List Pt:=List.replicate 16 (0,[])
def aao (T:Nat) (c:au) : Prop:=∀ {M:RM} {Q:ak},(∀ M',iy T (fun _=>False) M' M.next ik→ag [] M M'→M'.next=M.next + 1→Q (.ptr M.next 0) M')→c [] M Q
theorem agI {T:Nat} : aao T fun args M Q=>args=[]∧Eo T M Q:=by
 intro M Q hQ
 refine⟨rfl, ?_⟩
 unfold Eo
 rw[eY]
 refine⟨_,rfl, ?_⟩
 rw[dU rfl (by simp),bn]
 refine hQ _ ⟨by simp[RM.push],rfl,⟨_,RM.aT _,rfl,fun i hi=>?_⟩,id⟩ ((ag.refl _ _).push _) rfl
 have hi:i<16:=hi
 refine⟨aZ, ?_, ?_, ?_,trivial,by simp[aG]⟩
 ·obtain rfl | rfl | rfl | rfl | rfl | rfl | rfl | rfl | rfl | rfl | rfl | rfl | rfl | rfl | rfl | rfl:i=0∨i=1∨i=2∨i=3∨i=4∨i=5∨i=6∨i=7∨i=8∨i=9∨i=10∨i=11∨i=12∨i=13∨i=14∨i=15:=by omega
  all_goals rfl
 ·obtain rfl | rfl | rfl | rfl | rfl | rfl | rfl | rfl | rfl | rfl | rfl | rfl | rfl | rfl | rfl | rfl:i=0∨i=1∨i=2∨i=3∨i=4∨i=5∨i=6∨i=7∨i=8∨i=9∨i=10∨i=11∨i=12∨i=13∨i=14∨i=15:=by omega
  all_goals rfl
 ·simp only[ik,List.getElem_replicate]; exact .nil
section
variable {α:Type} {E:Enc α}
theorem GR {M:RM} {v:AV} {xs:List α} {k:Nat} (hE:E.size=1) (h:Sl E M v xs) (hc:eZ v) (hk:k≤xs.length) :
  ∃ v',bY 1 v (some (N .i64 (k:Int))) none none=some v'∧Sl E M v' (xs.drop k)∧eZ v'∧∀ b∈aG v',b∈aG v:=by
 generalize hcs:E.row xs=cs at *
 have h' : aL M 1 v cs xs.length:=by rw[← hcs,← hE]; exact h
 have hl:cs.length=xs.length:=by rw[← hcs,Enc.fq,hE,Nat.mul_one]
 have hd:E.row (xs.drop k)=cs.drop k:=by rw[← hcs,← E.uo,hE,Nat.mul_one]
 have goal:∀ v',Sl E M v' (xs.drop k)↔aL M 1 v' (cs.drop k) (xs.length - k):=fun v'=>by simp only[Sl]; rw[hd,List.length_drop,hE]
 generalize hn:xs.length=n at *
 cases h' with
 | nil =>
   have:k=0:=by omega
   subst this
   exact⟨aZ,by simp[bY,bnd],(goal _).2 (by simp; exact .nil),trivial,by simp⟩
 | emp b =>
   have:k=0:=by omega
   subst this
   exact⟨.emp b,by simp[bY,bnd],(goal _).2 (by simp; exact .emp b),trivial,by simp⟩
 | slc b o n cap cs hb hload =>
   rw[Nat.mul_one] at hload
   have zH:M.loads b (o + k) (n - k)=some (cs.drop k):=by
    have:=pQ hload k (n - k) (by omega)
    rw[List.take_of_length_le (by simp; omega)] at this
    exact this
   cases cap with
   | ex c =>
     have hcn:n≤c:=hc
     by_cases hck:c=k
     ·have hkn:k=n:=by omega
      refine⟨.slc b o 0 (.ex 0),by simp only[bY,bnd]; simp[hk,hcn,hck]; omega, ?_,Nat.le_refl _,by simp[aG]⟩
      rw[goal,hkn,Nat.sub_self,List.drop_of_length_le (by omega)]
      refine .slc b o 0 _ _ hb ?_
      have:=pQ hload 0 0 (by omega)
      simpa using this
     ·refine⟨.slc b (o + k * 1) (n - k) (.ex (c - k)),by simp only[bY,bnd]; simp[hk,hcn,hck], ?_,by simp only[eZ]; omega,by simp[aG]⟩
      rw[goal]
      refine .slc _ _ _ _ _ hb ?_
      show M.loads b (o + k * 1) ((n - k) * 1)=_
      rw[Nat.mul_one,Nat.mul_one]; exact zH
   | op e =>
     have he:e=1:=hc
     subst he
     by_cases hkn:n≤k
     ·refine⟨.emp b,by simp only[bY,bnd]; simp[hk,hkn], ?_,trivial,by simp[aG]⟩
      rw[goal,show n - k=0 by omega,List.drop_of_length_le (by omega)]
      exact .emp b
     ·refine⟨.slc b (o + k * 1) (n - k) (.op 1),by simp only[bY,bnd]; simp[hk,hkn], ?_,rfl,by simp[aG]⟩
      rw[goal]
      refine .slc _ _ _ _ _ hb ?_
      show M.loads b (o + k * 1) ((n - k) * 1)=_
      rw[Nat.mul_one,Nat.mul_one]; exact zH
theorem Vz {M:RM} {v:AV} {xs:List α} {k:Nat} (hE:E.size=1) (h:Sl E M v xs) (hc:eZ v) (hk:k≤xs.length) :
  ∃ v',bY 1 v none (some (N .i64 (k:Int))) none=some v'∧Sl E M v' (xs.take k):=by
 generalize hcs:E.row xs=cs at *
 have h' : aL M 1 v cs xs.length:=by rw[← hcs,← hE]; exact h
 have hl:cs.length=xs.length:=by rw[← hcs,Enc.fq,hE,Nat.mul_one]
 have hd:E.row (xs.take k)=cs.take k:=by rw[← hcs,← E.uA,hE,Nat.mul_one]
 have goal:∀ v',Sl E M v' (xs.take k)↔aL M 1 v' (cs.take k) k:=fun v'=>by simp only[Sl]; rw[hd,List.length_take,hE,Nat.min_eq_left hk]
 generalize hn:xs.length=n at *
 cases h' with
 | nil =>
   have:k=0:=by omega
   subst this
   exact⟨aZ,by simp[bY,bnd],(goal _).2 (by simp; exact .nil)⟩
 | emp b =>
   have:k=0:=by omega
   subst this
   exact⟨.emp b,by simp[bY,bnd],(goal _).2 (by simp; exact .emp b)⟩
 | slc b o n cap cs hb hload =>
   rw[Nat.mul_one] at hload
   have zH:M.loads b o k=some (cs.take k):=by
    have:=pQ hload 0 k (by omega)
    simpa using this
   cases cap with
   | ex c =>
     have hcn:n≤c:=hc
     by_cases hc0:c=0
     ·have hk0:k=0:=by omega
      subst hk0
      refine⟨.slc b o 0 (.ex 0),by simp only[bY,bnd]; simp[hc0], ?_⟩
      rw[goal]
      refine .slc b o 0 _ _ hb ?_
      simpa using zH
     ·refine⟨.slc b o k (.ex c),by simp only[bY,bnd]; simp[hc0]; omega, ?_⟩
      rw[goal]
      refine .slc _ _ _ _ _ hb ?_
      rw[Nat.mul_one]; exact zH
   | op e =>
     have he:e=1:=hc
     subst he
     by_cases hn0:n=0
     ·have hk0:k=0:=by omega
      subst hk0
      refine⟨.emp b,by simp only[bY,bnd]; simp[hn0], ?_⟩
      rw[goal]; simp; exact .emp b
     ·refine⟨.slc b o k (.op 1),by simp only[bY,bnd]; simp[hk,hn0], ?_⟩
      rw[goal]
      refine .slc _ _ _ _ _ hb ?_
      rw[Nat.mul_one]; exact zH
end
def xE:Nat→Nat→List UInt8→Option (Nat × Nat)
 | _,_,[]=>none
 | i,v,x :: xs =>
   if x.toNat ≥ 128 then xE (i + 1) ((v ||| (x.toNat % 128 * 2 ^ (7 * i) % 2 ^ 64)) % 2 ^ 64) xs
   else if x.toNat=0∧i > 0∨i=9∧x.toNat > 1 then none else some ((v ||| (x.toNat % 128 * 2 ^ (7 * i) % 2 ^ 64)) % 2 ^ 64,i + 1)
def ui (bs:List UInt8) : Option (Nat × Nat):=xE 0 0 (bs.take 10)
theorem YI:∀ (bs:List UInt8) (i v:Nat) {w n:Nat},xE i v bs=some (w,n)→w<2 ^ 64∧i<n∧n≤i + bs.length
 | [],_,_,_,_,h=>by simp[xE] at h
 | x :: xs,i,v,w,n,h=>by
   rw[xE] at h
   split at h
   ·have:=YI xs _ _ h
    simp only[List.length_cons]; omega
   ·split at h
    ·cases h
    ·simp only[Option.some.injEq,Prod.mk.injEq] at h
     obtain⟨rfl,rfl⟩:=h
     refine⟨Nat.mod_lt _ (by decide),by omega,by simp⟩
theorem Ew {bs:List UInt8} {w n:Nat} (h:ui bs=some (w,n)) : w<2 ^ 64∧0<n∧n≤bs.length∧n≤10:=by
 have:=YI _ _ _ h
 rw[List.length_take] at this
 omega
structure sJ (T:Nat) (S:Nat→Prop) (M:RM) (r:Nat) (bs:List UInt8) (f:Bool) : Prop where
 lt:r<M.next
 row:∃ v,M.heap r=some (.row [v,Bo f] false T 0)∧Sl BY M v bs∧eZ v∧∀ d∈aG v,S d
 nb:¬ S r
theorem sJ.keep {T:Nat} {S:Nat→Prop} {M M' : RM} {r:Nat} {bs:List UInt8} {f:Bool} {ks:List Nat} (h:sJ T S M r bs f) (hk:ag ks M M') (hr:r ∉ ks) (hs:∀ d∈ks,¬ S d) : sJ T S M' r bs f:=by
 obtain⟨v,h1,h2,h3,h4⟩:=h.row
 exact⟨Nat.lt_of_lt_of_le h.lt hk.next,⟨v,hk.aD h1 h.lt hr,aL.keep h2 hk (fun d hd hm=>hs d hm (h4 d hd)),h3,h4⟩,h.nb⟩
def abb (bs:List UInt8) : List AV:=match ui bs with
 | some (v,n)=>[N .u64 (v:Int),N .i64 (n:Int),Bo true]
 | none=>[N .u64 0,N .i64 0,Bo false]
def acg (T:Nat) (c:au) : Prop:=∀ {M:RM} {r:Nat} {S:Nat→Prop} {bs:List UInt8} {f:Bool} {Q:ak},sJ T S M r bs f→Q (.tup (abb bs)) M→c [.ptr r 0] M Q
theorem ao3 (x:UInt8) : N .u8 (QE .u8 (x.toNat:Int) 127)=N .u8 ((x.toNat % 128:Nat) : Int):=by
 rw[show(127:Int)=((127:Nat) : Int) from rfl,Mw rfl]
 have:x.toNat &&& 127=x.toNat % 128:=Nat.and_two_pow_sub_one_eq_mod x.toNat 7
 rw[this]
 simp only[qI]
 congr 2
 have:=Ou x
 omega
theorem ajI (a b:Nat) : (if ((b:Nat) : Int)<(a:Int) then(b:Int) else(a:Int))=((min a b:Nat) : Int):=by
 split <;> omega
theorem agi {T:Nat} : acg T fun args M Q=>∃ a0,args=[a0]∧wu a0 M Q:=by
 intro M r S bs f Q h hQ
 refine⟨_,rfl, ?_⟩
 obtain⟨v,hr,hs,hc,hS⟩:=h.row
 unfold wu
 rw[ul,aI,aU,aj hr rfl,aI,aU,aj hr rfl,aL.len hs,V4,if_neg (by decide),show(10:Int)=((10:Nat) : Int) from rfl,ajI]
 obtain⟨c,e1,e2⟩:=Vz (k:=min bs.length 10) rfl hs hc (Nat.min_le_left _ _)
 rw[e1,dN,aL.len e2]
 have hlen:(bs.take (min bs.length 10)).length=min bs.length 10:=by rw[List.length_take]; omega
 have htk:bs.take (min bs.length 10)=bs.take 10:=by
  rcases Nat.le_total bs.length 10 with hh | hh
  ·rw[Nat.min_eq_left hh,List.take_length,List.take_of_length_le hh]
  ·rw[Nat.min_eq_right hh]
 rw[htk] at e2 hlen ⊢
 have hll:(bs.take 10).length≤10:=by omega
 unfold abb ui at hQ
 generalize bs.take 10=ls at *
 refine aQ (fun m ys M3=>∃ (i u:Nat),m=ls.length - i∧ys=[N .u64 (u:Int),N .i64 (i:Int)]∧i≤ls.length∧M3=M∧xE 0 0 ls=xE i u (ls.drop i)) _
  ⟨0,0,rfl,rfl,Nat.zero_le _,rfl,rfl⟩ ?_
 rintro next m ys M3 hnext ⟨i,u,rfl,rfl,hi,rfl,hset⟩
 dsimp only[aa]
 rw[bZ]
 refine aJ (fun hlt=>?_) (fun hge=>?_)
 ·have hlt:i<ls.length:=by simpa using hlt
  obtain⟨b1,o1,_,_,hidx,hcell⟩:=Sl.Bu (E:=BY) e2 (i:Int) hlt
  rw[List.drop_eq_getElem_cons hlt,xE] at hset
  rw[hidx,gI]
  refine⟨_,hcell _ rfl, ?_⟩
  generalize hx:ls[i]=x at *
  have hx256:=Ou x
  rw[E8,ao3,dY,wrap_u64,Nat.mod_eq_of_lt (by omega:x.toNat % 128<18446744073709551616),uE,show(7:Int) * (i:Int)=((7 * i:Nat) : Int) by omega,bB (by omega) (by omega),xn]
  refine⟨by omega, ?_⟩
  rw[GK rfl _ _ (by show 7 * i≤64; omega),ajM,Zi rfl,iR]
  simp only[qI]
  generalize hw:(u ||| (x.toNat % 128 * 2 ^ (7 * i) % 2 ^ 64)) % 2 ^ 64=w at *
  refine aJ (fun hbig=>?_) (fun hsm=>?_)
  ·have hbig:x.toNat ≥ 128:=by
    have:(x.toNat:Int) ≥ 128:=of_decide_eq_true hbig
    omega
   rw[if_pos hbig] at hset
   rw[bS,eB (by omega)]
   exact hnext _ _ _ (by omega) ⟨i + 1,w,rfl,rfl,by omega,rfl,hset⟩
  ·have hsm:¬ x.toNat ≥ 128:=by
    have:¬ (x.toNat:Int) ≥ 128:=of_decide_eq_false hsm
    omega
   rw[if_neg hsm] at hset
   have bad:(x.toNat=0∧i > 0∨i=9∧x.toNat > 1)→Q (.tup [N .u64 0,N .i64 0,Bo false]) M3:=fun h=>by
    rw[if_pos h] at hset
    rw[hset] at hQ
    exact hQ
   have okk:¬ (x.toNat=0∧i > 0∨i=9∧x.toNat > 1)→Q (.tup [N .u64 (w:Int),N .i64 ((i + 1:Nat) : Int),Bo true]) M3:=fun h=>by
    rw[if_neg h] at hset
    rw[hset] at hQ
    exact hQ
   have apP:¬ (x.toNat=0∧i > 0∨i=9∧x.toNat > 1)→ae .add (N .i64 (i:Int)) (N .i64 1) fun t50=>Q (.tup [N .u64 (w:Int),t50,Bo true]) M3:=fun h=>by
    rw[bS,eB (by omega)]
    exact okk h
   rw[bT]
   -- the second half of the question
   have second:¬ (x.toNat=0∧i > 0)→ae .eql (N .i64 (i:Int)) (N .i64 9) fun t42 =>
     af t42 true (fun jh=>jh (N .u8 (x.toNat:Int)) M3) (fun k=>k .undef M3) fun t44 fe =>
     af t42 true (fun uz=>ae .gtr t44 (N .u8 1) fun t45=>uz t45 fe) (fun k=>k .undef fe) fun Vj fF =>
     af (Bo false) false (fun uC=>aH t42 Vj (Bo false) fun t46=>uC t46 fF) (fun k=>k .undef fF) fun Wq dE =>
     aH (Bo false) (Bo true) Wq fun t47=>az t47 (Q (.tup [N .u64 0,N .i64 0,Bo false]) dE) (ae .add (N .i64 (i:Int)) (N .i64 1) fun t50=>Q (.tup [N .u64 (w:Int),t50,Bo true]) dE):=fun hn=>by
    rw[bT]
    by_cases h9:i=9
    ·rw[show((i:Int) == 9)=true by simp; omega,bU]
     dsimp only
     rw[bU,dF]
     dsimp only
     rw[bg]
     dsimp only
     rw[cK,bK]
     refine aJ (fun hg=>bad (.inr ⟨h9, ?_⟩)) (fun hg=>apP ?_)
     ·have:(x.toNat:Int) > 1:=of_decide_eq_true hg
      omega
     ·have:¬ (x.toNat:Int) > 1:=of_decide_eq_false hg
      rintro(h | h)
      ·exact hn h
      ·omega
    ·rw[show((i:Int) == 9)=false by simp; omega,bC]
     dsimp only
     rw[bC]
     dsimp only
     rw[bg]
     dsimp only
     rw[bK,bK,bJ]
     refine apP ?_
     rintro(h | h)
     ·exact hn h
     ·omega
   by_cases h0:x.toNat=0
   ·rw[show((x.toNat:Int) == 0)=true by simp[h0],bU]
    dsimp only
    rw[bU,dF]
    dsimp only
    rw[cK]
    by_cases hi0:i > 0
    ·rw[show decide ((i:Int) > 0)=true by simpa using hi0,bM]
     dsimp only
     rw[bM]
     dsimp only
     rw[bM]
     dsimp only
     rw[iO]
     dsimp only
     rw[iO]
     dsimp only
     rw[bM]
     dsimp only
     rw[cK,cO]
     exact bad (.inl ⟨h0,hi0⟩)
    ·rw[show decide ((i:Int) > 0)=false by simp; omega,bg]
     have:=second (fun h=>hi0 h.2)
     dsimp only
     rw[bg]
     dsimp only at this ⊢
     rw[bT] at this ⊢
     rw[bg]
     dsimp only
     exact this
   ·rw[show((x.toNat:Int) == 0)=false by simp; omega,bC]
    dsimp only
    rw[bC]
    dsimp only
    rw[bK,bg]
    have:=second (fun h=>h0 h.1)
    dsimp only
    rw[bg]
    dsimp only at this ⊢
    rw[bT] at this ⊢
    rw[bg]
    dsimp only
    exact this
 ·have he:i=ls.length:=by simp at hge; omega
  rw[he,List.drop_length,xE] at hset
  rw[hset] at hQ
  exact hQ
def aR (most:Nat) (bs:List UInt8) (f:Bool) : Nat × List UInt8 × Bool :=
 match ui bs with
 | none=>(0,bs,true)
 | some (v,n)=>if f || decide (most<v) then(0,bs,true) else(v,bs.drop n,false)
theorem kN {most:Nat} {bs:List UInt8} {f:Bool} : (aR most bs f).1≤most∧(aR most bs f).2.1.length≤bs.length:=by
 unfold aR
 split
 ·simp
 ·split
  ·simp
  ·rename_i h
   simp at h ⊢
   omega
def Qi (T:Nat) (c:au) : Prop:=∀ {M:RM} {r most:Nat} {S:Nat→Prop} {bs:List UInt8} {f:Bool} {Q:ak},sJ T S M r bs f→most<4294967296 →
 (∀ M',sJ T S M' r (aR most bs f).2.1 (aR most bs f).2.2→ag [r] M M'→M'.next=M.next→Q (N .i64 (((aR most bs f).1:Nat) : Int)) M')→c [.ptr r 0,N .i64 (most:Int)] M Q
def OZ (T:Nat) (c:au) : Prop:=∀ {M:RM} {r:Nat} {S:Nat→Prop} {bs:List UInt8} {f:Bool} {Q:ak},sJ T S M r bs f →
 (∀ M',sJ T S M' r (aR 18446744073709551615 bs f).2.1 (aR 18446744073709551615 bs f).2.2→ag [r] M M'→M'.next=M.next→Q (N .u64 (((aR 18446744073709551615 bs f).1:Nat) : Int)) M')→c [.ptr r 0] M Q
theorem Vp {M:RM} {f ok:Bool} {v most:Nat} {K:ak} (hm:most<4294967296) (hQ:K (Bo (f || (!ok || decide (most<v)))) M) :
  af (Bo f) false (fun k'=>dG (Bo ok) fun t21=>k' t21 M) (fun k=>k .undef M) fun Pj M_3 =>
  aH (Bo f) (Bo true) Pj fun t22 =>
  af t22 false (fun k'=>ae .lss (N .i64 (most:Int)) (N .i64 0) fun t25=>k' t25 M_3) (fun k=>k .undef M_3) fun NI M_8 =>
  aH t22 (Bo true) NI fun t26 =>
  af t26 false (fun k'=>fG .u64 (N .i64 (most:Int)) fun t30=>ae .gtr (N .u64 (v:Int)) t30 fun t31=>k' t31 M_8) (fun k=>k .undef M_8) fun IV dE =>
  aH t26 (Bo true) IV fun t32=>K t32 dE:=by
 have tail:K (Bo true) M→af (Bo true) false (fun k'=>ae .lss (N .i64 (most:Int)) (N .i64 0) fun t25=>k' t25 M) (fun k=>k .undef M) fun NI M_8 =>
   aH (Bo true) (Bo true) NI fun t26 =>
   af t26 false (fun k'=>fG .u64 (N .i64 (most:Int)) fun t30=>ae .gtr (N .u64 (v:Int)) t30 fun t31=>k' t31 M_8) (fun k=>k .undef M_8) fun IV dE =>
   aH t26 (Bo true) IV fun t32=>K t32 dE:=fun hK=>by
  rw[bM]
  dsimp only
  rw[cK,bM]
  dsimp only
  rw[cK]
  exact hK
 cases f with
 | true =>
   rw[bM]
   dsimp only
   rw[cK]
   exact tail hQ
 | false =>
   rw[bg]
   dsimp only
   rw[aY]
   cases ok with
   | false =>
     rw[bK]
     exact tail hQ
   | true =>
     rw[bK]
     simp only[Bool.not_true]
     rw[bg]
     dsimp only
     rw[bZ,show decide ((most:Int)<0)=false by simp]
     rw[bK,bg]
     dsimp only
     rw[dY,dw (by omega) (by omega),dF,bK]
     have:decide ((v:Int) > (most:Int))=decide (most<v):=by simp
     rw[this]
     exact hQ
theorem Rx {M:RM} {f ok:Bool} {K:ak} (hQ:K (Bo (f || !ok)) M) :
  af (Bo f) false (fun k'=>dG (Bo ok) fun t21=>k' t21 M) (fun k=>k .undef M) fun Pj M_3 =>
  aH (Bo f) (Bo true) Pj fun t22=>K t22 M_3:=by
 cases f with
 | true =>
   rw[bM]
   dsimp only
   rw[cK]
   exact hQ
 | false =>
   rw[bg]
   dsimp only
   rw[aY,bK]
   exact hQ
theorem CB {T:Nat} {M:RM} {r:Nat} {S:Nat→Prop} {bs:List UInt8} {f g:Bool} {n:Nat} {x:AV} {Z:ak} {K:RM→Prop} (h:sJ T S M r bs f) (hn:n≤bs.length)
  (h1:g=true→∀ M',sJ T S M' r bs true→ag [r] M M'→M'.next=M.next→Z x M')
  (h2:g=false→∀ M',sJ T S M' r (bs.drop n) false→ag [r] M M'→M'.next=M.next→K M') :
  bF (.ptr r 0) fun t33=>aB t33 1 fun t34=>aC M t34 (Bo g) 1 fun dI=>bF (.ptr r 0) fun t36=>aB t36 1 fun t37=>ai dI t37 fun t38 =>
   az t38 (Z x dI) (bF (.ptr r 0) fun t41=>aB t41 0 fun t42=>ai dI t42 fun t43=>iE (bY 1 t43 (some (N .i64 (n:Int))) none none) fun t45 =>
    bF (.ptr r 0) fun t46=>aB t46 0 fun t47=>aC dI t47 t45 1 fun jB=>K jB):=by
 obtain⟨v,hr,hs,hc,hS⟩:=h.row
 have hrl:=h.lt
 rw[aI,aU,jy [v,Bo g] hr (by simp) rfl rfl rfl,aI,aU,aj (aN _) rfl]
 have kk:ag [r] M (M.put r (.row [v,Bo g] false T 0)):=(ag.refl _ _).put _ (.inr (by simp))
 have hh:(M.put r (.row [v,Bo g] false T 0)).heap r=some (.row [v,Bo g] false T 0):=aN _
 have nn:(M.put r (.row [v,Bo g] false T 0)).next=M.next:=rfl
 generalize M.put r (.row [v,Bo g] false T 0)=M1 at *
 have s1:Sl BY M1 v bs:=aL.keep hs kk (fun d hd hm=>by simp at hm; subst hm; exact h.nb (hS d hd))
 refine aJ (fun hg=>?_) (fun hg=>?_)
 ·subst hg
  exact h1 rfl M1 ⟨by omega,⟨v,hh,s1,hc,hS⟩,h.nb⟩ kk nn
 ·subst hg
  rw[aI,aU,aj hh rfl]
  obtain⟨v',e1,e2,e3,e4⟩:=GR rfl s1 hc hn
  rw[e1,dN,aI,aU,jy [v',Bo false] hh (by simp) (aL.cells e2) (aL.one e2) rfl]
  have k2:ag [r] M1 (M1.put r (.row [v',Bo false] false T 0)):=(ag.refl _ _).put _ (.inr (by simp))
  exact h2 rfl _ ⟨by rw[jk]; omega,⟨v',aN _,aL.keep e2 k2 (fun d hd hm=>by simp at hm; subst hm; exact h.nb (hS d (e4 d hd))),e3,fun d hd=>hS d (e4 d hd)⟩,h.nb⟩ (kk.trans k2) (by rw[jk]; exact nn)
theorem aeV {T:Nat} {cn:au} (hn:acg T cn) : Qi T fun args M Q=>∃ a0 a1,args=[a0,a1]∧Ac cn a0 a1 M Q:=by
 intro M r most S bs f Q h hm hQ
 refine⟨_,_,rfl, ?_⟩
 unfold Ac
 simp only[gQ]
 refine hn h ?_
 obtain⟨v,hr,hs,hc,hS⟩:=h.row
 unfold aR at hQ
 unfold abb
 cases hnb:ui bs with
 | none =>
   simp only[hnb] at hQ
   dsimp only
   rw[eD,eF,ma,aI,aU,aj hr rfl]
   refine Vp (v:=0) (ok:=false) hm ?_
   refine CB (n:=0) (Z:=Q) h (Nat.zero_le _) (fun _ M' q1 q2 q3=>hQ M' q1 q2 q3) (fun hg=>by simp at hg)
 | some p =>
   obtain⟨w,n⟩:=p
   simp only[hnb] at hQ
   dsimp only
   rw[eD,eF,ma,aI,aU,aj hr rfl]
   refine Vp (v:=w) (ok:=true) hm ?_
   refine CB (n:=n) (Z:=Q) h (Ew hnb).2.2.1 (fun hg M' q1 q2 q3=>?_) (fun hg M' q1 q2 q3=>?_)
   ·have hg:(f || decide (most<w))=true:=by simpa using hg
    rw[if_pos hg] at hQ
    exact hQ M' q1 q2 q3
   ·have hg:(f || decide (most<w))=false:=by simpa using hg
    rw[if_neg (by simp[hg])] at hQ
    have hw:w≤most:=by simp at hg; omega
    rw[dY,bB (by omega) (by omega)]
    exact hQ M' q1 q2 q3
theorem ZL {T:Nat} {cn:au} (hn:acg T cn) : OZ T fun args M Q=>∃ a0,args=[a0]∧y9 cn a0 M Q:=by
 intro M r S bs f Q h hQ
 refine⟨_,rfl, ?_⟩
 unfold y9
 simp only[gQ]
 refine hn h ?_
 obtain⟨v,hr,hs,hc,hS⟩:=h.row
 unfold aR at hQ
 unfold abb
 cases hnb:ui bs with
 | none =>
   simp only[hnb] at hQ
   dsimp only
   rw[eD,eF,ma,aI,aU,aj hr rfl]
   refine Rx (ok:=false) ?_
   refine CB (n:=0) (Z:=Q) h (Nat.zero_le _) (fun _ M' q1 q2 q3=>hQ M' q1 q2 q3) (fun hg=>by simp at hg)
 | some p =>
   obtain⟨w,n⟩:=p
   simp only[hnb] at hQ
   dsimp only
   rw[eD,eF,ma,aI,aU,aj hr rfl]
   refine Rx (ok:=true) ?_
   have hw:decide (18446744073709551615<w)=false:=by
    have:=(Ew hnb).1
    simp; omega
   rw[hw,Bool.or_false] at hQ
   refine CB (n:=n) (Z:=Q) h (Ew hnb).2.2.1 (fun hg M' q1 q2 q3=>?_) (fun hg M' q1 q2 q3=>?_)
   ·have hg:f=true:=by simpa using hg
    rw[if_pos hg] at hQ
    exact hQ M' q1 q2 q3
   ·have hg:f=false:=by simpa using hg
    rw[if_neg (by simp[hg])] at hQ
    exact hQ M' q1 q2 q3
def Nt (T:Nat) (c:au) : Prop:=∀ {M:RM} {v:AV} {bs:List UInt8} {Q:ak},Sl BY M v bs→bs.length≤140737488355328 →
 (∀ r M',sJ T (fun d=>M.next≤d∧d<r) M' r bs false→M.next≤r→ag [] M M'→Q (.ptr r 0) M')→c [v] M Q
theorem adt {T TB:Nat} {cc:au} (hcl:EA TB 1 1 cc) : Nt T fun args M Q=>∃ a0,args=[a0]∧U6 cc T a0 M Q:=by
 intro M v bs Q h hl hQ
 refine⟨_,rfl, ?_⟩
 unfold U6
 refine hcl h (Enc.qB _ _) (by omega) (by omega) fun b0 M1 ho hk=>?_
 rw[eY]
 refine⟨[b0,Bo false], ?_, ?_⟩
 ·have:=ho.cells
  have hkn:=ho.jm.known
  simp[wN,hkn,this]
 rw[dU (by simp[ho.one]; rfl) (by simp),bn]
 have k2:ag [] M1 (M1.push (.row [b0,Bo false] false T 0)):=(ag.refl _ _).push _
 refine hQ M1.next _ ⟨by rw[I6]; omega,⟨b0,RM.aT _,aL.keep ho.jm k2 (by simp),Own.eZ ho,fun d hd=>ho.blk d hd⟩,fun h=>by omega⟩ hk.next (hk.trans k2)
def ZE (T:Nat) (c:au) : Prop:=∀ {M:RM} {r:Nat} {S:Nat→Prop} {bs:List UInt8} {f:Bool} {Q:ak},sJ T S M r bs f→Q (N .i64 (if f then 14 else 0)) M→c [.ptr r 0] M Q
theorem aeq {T:Nat} : ZE T fun args M Q=>∃ a0,args=[a0]∧A9 a0 M Q:=by
 intro M r S bs f Q h hQ
 refine⟨_,rfl, ?_⟩
 unfold A9
 obtain⟨v,hr,hs,hc,hS⟩:=h.row
 rw[aI,aU,aj hr rfl]
 cases f with
 | true=>rw[cO]; exact hQ
 | false=>rw[bJ]; exact hQ
def VW (T:Nat) (c:au) : Prop:=∀ {M:RM} {r:Nat} {S:Nat→Prop} {bs:List UInt8} {f:Bool} {Q:ak},sJ T S M r bs f→Q (N .i64 (if f || !bs.isEmpty then 14 else 0)) M→c [.ptr r 0] M Q
theorem aef {T:Nat} : VW T fun args M Q=>∃ a0,args=[a0]∧Ay a0 M Q:=by
 intro M r S bs f Q h hQ
 refine⟨_,rfl, ?_⟩
 unfold Ay
 simp only[gQ]
 obtain⟨v,hr,hs,hc,hS⟩:=h.row
 rw[aI,aU,aj hr rfl]
 cases f with
 | true =>
   rw[bM]
   dsimp only
   rw[cK,cO]; exact hQ
 | false =>
   rw[bg]
   dsimp only
   rw[aI,aU,aj hr rfl,aL.len hs,dF,bK]
   cases bs with
   | nil =>
     rw[show decide (((([] : List UInt8).length:Nat) : Int) > 0)=false by simp,bJ]; exact hQ
   | cons b bs =>
     rw[show decide ((((b :: bs).length:Nat) : Int) > 0)=true by simp,cO]; exact hQ
def ahW (f:(List AV→RM→Prop)→Prop) (g:List AV→RM→Prop) : Prop:=f g
theorem fo (f:(List AV→RM→Prop)→Prop) (g:List AV→RM→Prop) : ek f g=ahW f g:=rfl
theorem di {H:(List AV→RM→Prop)→Prop} {G:List AV→RM→Prop} (P:List AV→RM→Prop) (hT:∀ xs M,P xs M→G xs M)
  (hH:∀ J:List AV→RM→Prop,(∀ xs M,P xs M→J xs M)→H J) : ahW H G:=hH G hT
def PRE:Enc (Nat × Nat):=⟨2,fun p=>[N .i64 (p.1:Int),N .u64 (p.2:Int)],fun _=>rfl,fun _=>rfl⟩
abbrev gL:=(Nat × Nat) × List Nat
def Fz:qP gL:=qP.pre PRE (aX.Bg.slice)
theorem acC {M:RM} {i u:Nat} {v:AV} {xs:List Nat} {S:Nat→Prop} (h:iZ aX.Bg M v xs S) : Fz.rel M [N .i64 (i:Int),N .u64 (u:Int),v] ((i,u),xs) S:=⟨[v],rfl,⟨v,rfl,h⟩⟩
theorem ak0 {x y z a b c:AV} (h1:known x=true) (h2:x.cells=[x]) (h3:known y=true) (h4:y.cells=[y]) (h5:known z=true) (h6:z.cells=[z]) : wN [a,b,c] [(0,1,x),(1,1,y),(2,1,z)]=some [x,y,z]:=by
 simp[wN,h1,h2,h3,h4,h5,h6]
def nO (ps:List Pt) : Nat→List gL
 | 0=>[]
 | i + 1=>nO ps i++(if 0<(ps.getD i (0,[])).1∨0<(ps.getD i (0,[])).2.length then[((i,(ps.getD i (0,[])).1),(ps.getD i (0,[])).2)] else[])
def parts (ps:List Pt) : List gL:=nO ps 16
theorem vM (ps:List Pt) : ∀ i,(nO ps i).length≤i
 | 0=>Nat.le_refl _
 | i + 1=>by
   have:=vM ps i
   rw[nO,List.length_append]
   split <;> simp <;> omega
def VR (T TP:Nat) (c:au) : Prop:=∀ {M:RM} {b:Nat} {ps:List Pt} {S:Nat→Prop} {Q:ak},iy T S M b ps→(∀ p∈ps,p.2.length≤1000000) →
 (∀ v M',lM Fz M' M.next TP v (parts ps) (fun d=>M.next≤d∧d<M'.next∧d ∉ aG v)→ag [] M M'→Q v M')→c [.ptr b 0] M Q
theorem aaA {TS T TP TU:Nat} {cc:au} (hcl:EA TU 1 8 cc) : VR TS TP fun args M Q=>∃ a0,args=[a0]∧Dm T cc TP a0 M Q:=by
 intro M b ps S Q h hlen hQ
 refine⟨_,rfl, ?_⟩
 unfold Dm
 simp only[gQ,fo]
 obtain⟨l,hb,IE,hrow⟩:=h.row
 rw[aI,aU,bI (n:=32) hb IE]
 refine aQ (fun m ys M3=>∃ (i:Nat) (v:AV),m=16 - i∧ys=[v,N .i64 (i:Int)]∧i≤16∧ag [] M M3∧lM Fz M3 M.next TP v (nO ps i) (fun d=>M.next≤d∧d<M3.next∧d ∉ aG v)) _
  ⟨0,aZ,rfl,rfl,Nat.zero_le _,ag.refl _ _,.nil⟩ ?_
 rintro next m ys M3 hnext ⟨i,v,rfl,rfl,hi,hK,ho⟩
 dsimp only[aa]
 rw[bZ]
 refine aJ (fun hlt=>?_) (fun hge=>?_)
 ·have hlt:i<16:=by
   have:(i:Int)<16:=of_decide_eq_true hlt
   omega
  refine di (fun zs M'=>∃ w,zs=[w]∧ag [] M M'∧lM Fz M' M.next TP w (nO ps (i + 1)) (fun d=>M.next≤d∧d<M'.next∧d ∉ aG w)) ?_ ?_
  ·rintro zs M' ⟨w,rfl,hk',ho'⟩
   dsimp only[aa]
   rw[bS,eB (by omega)]
   exact hnext _ _ _ (by omega) ⟨i + 1,w,rfl,rfl,by omega,hk',ho'⟩
  intro J hJ
  have hil:i<ps.length:=by rw[h.len]; exact hlt
  obtain⟨w,a1,a2,a3,a4,a5⟩:=hrow i hil
  have hpD:ps.getD i (0,[])=ps[i]:=by rw[List.getD_eq_getElem?_getD,List.getElem?_eq_getElem hil]; rfl
  have hcut:(l.drop (2 * i)).take 2=[N .u64 (ps[i].1:Int),w]:=by
   have h1:=(List.getElem?_eq_some_iff.1 a1)
   have h2:=(List.getElem?_eq_some_iff.1 a2)
   obtain⟨q1,q2⟩:=h1
   obtain⟨r1,r2⟩:=h2
   rw[List.drop_eq_getElem_cons q1,List.drop_eq_getElem_cons r1,q2,r2]; rfl
  rw[I7]
  refine⟨by omega,by omega,by simp only[Int.toNat_natCast]; omega, ?_⟩
  rw[Int.toNat_natCast,Nat.mul_comm i 2,hcut,bn]
  have hw1:=aL.one a3
  have hwc:=aL.cells a3
  rw[dB (n:=2) (x:=.agg [N .u64 (ps[i].1:Int),w]) (l:=[N .u64 0,.sc (.slice none 0 0)]) (RM.aT _) rfl rfl (by simp[AV.cells,hw1]; rfl)]
  have kk:ag [] M3 ((M3.push (.row [N .u64 0,.sc (.slice none 0 0)] false T 0)).put M3.next (.row (AV.agg [N .u64 (ps[i].1:Int),w]).cells false T 0)):=((ag.refl _ _).push _).new _ (Nat.le_refl _)
  have hh:((M3.push (.row [N .u64 0,.sc (.slice none 0 0)] false T 0)).put M3.next (.row (AV.agg [N .u64 (ps[i].1:Int),w]).cells false T 0)).heap M3.next=some (.row [N .u64 (ps[i].1:Int),w] false T 0):=aN _
  have hnx:((M3.push (.row [N .u64 0,.sc (.slice none 0 0)] false T 0)).put M3.next (.row (AV.agg [N .u64 (ps[i].1:Int),w]).cells false T 0)).next=M3.next + 1:=rfl
  generalize (M3.push (.row [N .u64 0,.sc (.slice none 0 0)] false T 0)).put M3.next (.row (AV.agg [N .u64 (ps[i].1:Int),w]).cells false T 0)=M4 at *
  have hvl:=ho.blk
  have n3:=hK.next
  have ho4:=(ho.keep kk (by simp) (by simp)).mono (S':=fun d=>M.next≤d∧d<M4.next∧d ∉ aG v) fun d hd=>⟨hd.1,by omega,hd.2.2⟩
  have s4:Sl aX M4 w ps[i].2:=aL.keep (aL.keep a3 hK (by simp)) kk (by simp)
  rw[aU,aj hh rfl,dF]
  have skip:¬ (0<ps[i].1∨0<ps[i].2.length)→J [v] M4:=fun hn=>hJ _ _ ⟨v,rfl,hK.trans kk,by
   rw[nO,hpD,if_neg hn,List.append_nil]; exact ho4⟩
  have take:(0<ps[i].1∨0<ps[i].2.length)→aB (.ptr M3.next 0) 0 fun t25=>ai M4 t25 fun t26=>aB (.ptr M3.next 0) 1 fun t27=>ai M4 t27 fun t28=>cc [t28] M4 fun t29 dC=>ai dC t25 fun Vk =>
    (Vk=t26∧iM [(N .i64 0),(N .u64 0),(.sc (.slice none 0 0))] [(0,1,N .i64 (i:Int)),(1,1,t26),(2,1,t29)] fun t30 =>
    fO TP 1 [(N .i64 0),(N .u64 0),(.sc (.slice none 0 0))] [(0,3,t30)] fun r f=>wB r f dC fun t31 eO b=>appW TP 3 40 [(N .i64 0),(N .u64 0),(.sc (.slice none 0 0))] false v t31 eO fun t32 fF=>J [t32] fF):=fun hy=>by
   rw[aU,aj hh rfl,aU,aj hh rfl]
   have hm:=hlen _ (List.getElem_mem hil)
   refine hcl s4 (Enc.qB _ _) (by omega) (by omega) fun y M5 hy5 k5=>?_
   have n5:=k5.next
   rw[aj (k5.aD hh (by omega) (by simp)) rfl]
   refine⟨rfl, ?_⟩
   rw[eY]
   refine⟨_,ak0 rfl rfl rfl rfl hy5.jm.known hy5.cells, ?_⟩
   have hall:([N .i64 (i:Int),N .u64 (ps[i].1:Int),y] : List AV).all oneCell=true:=by simp[hy5.one]; exact⟨rfl,rfl⟩
   rw[sI (x:=.agg [N .i64 (i:Int),N .u64 (ps[i].1:Int),y]) (size:=3) rfl hall rfl,pF]
   have axB:=ho4.blk
   let S' : Nat→Prop:=fun d=>M.next≤d∧d<M5.next∧d ∉ aG v
   have ho5:=(ho4.keep k5 (by simp) (by simp)).mono (S':=S') fun d hd=>⟨hd.1,by omega,hd.2.2⟩
   have hel:Fz.rel M5 [N .i64 (i:Int),N .u64 (ps[i].1:Int),y] ((i,ps[i].1),ps[i].2) S' :=
    acC (iZ.aib hy5.jm fun d hd=>⟨by have:=(hy5.blk d hd).1; omega,(hy5.blk d hd).2,fun hb=>by have:=(axB d hb).2; have:=(hy5.blk d hd).1; omega⟩)
   refine lM.app (R:=Fz) ho5 hel (by omega) (by decide) (fun b hb h=>h.2.2 hb) (fun b h=>h.2.1) (by have:=vM ps i; omega) (by have:=vM ps i; omega) ?_
   intro w' M6 o6 k6 n6 _ hd6
   refine hJ _ _ ⟨w',rfl, ?_, ?_⟩
   ·exact((hK.trans kk).trans k5).bG k6 fun c hc=>.inl (hvl c hc).1
   ·rw[nO,hpD,if_pos hy]
    exact o6.mono fun d hd=>⟨hd.1,by have:=hd.2.1; omega,fun hb=>hd6 d hb hd⟩
  by_cases hu:0<ps[i].1
  ·rw[show decide ((ps[i].1:Int) > 0)=true by simpa using hu,bM]
   dsimp only
   rw[cK,cO]
   exact take (.inl hu)
  ·rw[show decide ((ps[i].1:Int) > 0)=false by simp; omega,bg]
   dsimp only
   rw[aU,aj hh rfl,aL.len s4,dF,bK]
   refine aJ (fun hg=>take (.inr ?_)) (fun hg=>?_)
   ·have:((ps[i].2.length:Nat) : Int) > 0:=of_decide_eq_true hg
    omega
   ·refine skip ?_
    have:¬ ((ps[i].2.length:Nat) : Int) > 0:=of_decide_eq_false hg
    omega
 ·have he:i=16:=by
   have:¬ (i:Int)<16:=of_decide_eq_false hge
   omega
  subst he
  exact hQ v M3 ho hK
@[irreducible] def Kq (x a:Nat) : Nat:=(x + 18446744073709551616 - a) % 18446744073709551616
theorem aiY {x a:Nat} (h:a<18446744073709551616) : IntKind.wrap .u64 ((x:Int) - (a:Int))=((Kq x a:Nat) : Int):=by
 simp only[IntKind.wrap,IntKind.bits,IntKind.signed,Kq]
 simp
 omega
theorem Vd (x a:Nat) : Kq x a<2 ^ 64:=by unfold Kq; exact Nat.mod_lt _ (by decide)
def qm:Nat→List Nat→List UInt8
 | _,[]=>[]
 | a,x :: xs=>bE (Kq x a)++qm x xs
def nu (p:gL) : List UInt8:=bE p.1.1++bE p.1.2++bE p.2.length++qm p.1.2 p.2
def agv (l:List gL) : List UInt8:=bE l.length++l.flatMap nu
def encS (ps:List Pt) : List UInt8:=agv (parts ps)
theorem bW {v:Nat} (h:v<2 ^ 64) : (bE v).length≤10:=JH 10 v (by omega) (by omega)
theorem Cy:∀ (xs:List Nat) (a:Nat),(qm a xs).length≤10 * xs.length
 | [],_=>Nat.le_refl _
 | x :: xs,a=>by
   rw[qm,List.length_append,List.length_cons]
   have:=Cy xs x
   have:=bW (Vd x a)
   omega
theorem Om {ps:List Pt} : ∀ {i:Nat} {x:gL},x∈nO ps i→∃ j,j<i∧x=((j,(ps.getD j (0,[])).1),(ps.getD j (0,[])).2)
 | 0,x,h=>by simp[nO] at h
 | i + 1,x,h=>by
   rw[nO,List.mem_append] at h
   rcases h with h | h
   ·obtain⟨j,h1,h2⟩:=Om h
    exact⟨j,by omega,h2⟩
   ·split at h
    ·simp only[List.mem_singleton] at h
     exact⟨i,by omega,h⟩
    ·simp at h
def Bd (p:Pt) : Prop:=p.1<2 ^ 64∧p.2.length≤1000000∧∀ x∈p.2,x<2 ^ 64
theorem af5 {ps:List Pt} (h:∀ p∈ps,Bd p) {x:gL} (hx:x∈parts ps) : x.1.1<16∧Bd (x.1.2,x.2):=by
 obtain⟨j,h1,rfl⟩:=Om hx
 refine⟨h1, ?_⟩
 rw[List.getD_eq_getElem?_getD]
 by_cases hj:j<ps.length
 ·rw[List.getElem?_eq_getElem hj]
  exact h _ (List.getElem_mem hj)
 ·rw[List.getElem?_eq_none (by omega)]
  exact⟨(by decide:0<2 ^ 64),Nat.zero_le _,fun x hx=>by simp at hx⟩
theorem pG.bd {p:Pt} (h:pG p) : Bd p:=⟨by have:=h.2.2.1; omega,by have:=h.2.2.2.2; omega,fun x hx=>by have:=h.2.2.2.1 x hx; omega⟩
theorem agn {p:gL} (h1:p.1.1<16) (h:Bd (p.1.2,p.2)) : (nu p).length≤10000030:=by
 unfold nu
 simp only[List.length_append]
 have:=bW (v:=p.1.1) (by omega)
 have:=bW (v:=p.1.2) h.1
 have h2:p.2.length≤1000000:=h.2.1
 have:=bW (v:=p.2.length) (by omega)
 have:=Cy p.2 p.1.2
 omega
def KN (TS T:Nat) (c:au) : Prop:=∀ {M:RM} {b:Nat} {ps:List Pt} {S:Nat→Prop} {Q:ak},iy TS S M b ps→(∀ p∈ps,Bd p) →
 (∀ v M',Own M' M.next T 1 v (dL (encS ps)) (encS ps).length→(encS ps).length≤200000000→ag [] M M'→Q v M')→c [.ptr b 0] M Q
theorem lJ (a b:List UInt8) : dL (a++b)=dL a++dL b:=List.map_append
theorem Sy:∀ {xs:List Nat} {i a q:Nat} (hi:i<xs.length) (hq:(a :: xs)[i]?=some q),qm a (xs.take (i + 1))=qm a (xs.take i)++bE (Kq xs[i] q)
 | x :: xs,0,a,q,hi,hq=>by
   simp only[List.getElem?_cons_zero,Option.some.injEq] at hq
   subst hq
   rw[List.take_succ_cons,List.take_zero,List.take_zero,qm,qm,qm,List.append_nil,List.nil_append]
   rfl
 | x :: xs,i + 1,a,q,hi,hq=>by
   rw[List.getElem?_cons_succ] at hq
   have:=Sy (a:=x) (xs:=xs) (i:=i) (by simpa using hi) hq
   rw[List.take_succ_cons,List.take_succ_cons,qm,qm,this,List.append_assoc]
   rfl
theorem BV.app {T:Nat} {c:au} (hc:BV T c) {M:RM} {base v:Nat} {b:AV} {L:List UInt8} {Q:ak} (ho:Own M base T 1 b (dL L) L.length) (hb:base≤M.next) (hL:L.length + 10≤140737488355328) (hv:v<2 ^ 64)
  (hQ:∀ r M',Own M' base T 1 r (dL (L++bE v)) (L++bE v).length→ag [] M M'→Q r M') : c [b,N .u64 (v:Int)] M Q:=by
 refine hc ho.jm (lW _) hL hv fun r M' h1 h2=>hQ r M' ?_ h2
 rw[lJ,List.length_append]
 exact h1.mono hb
theorem Yz {TS TP T:Nat} {cp cu:au} (hp:VR TS TP cp) (hu:BV T cu) : KN TS T fun args M Q=>∃ a0,args=[a0]∧Bh cp cu TP a0 M Q:=by
 intro M b ps S Q h hbd hQ
 refine⟨_,rfl, ?_⟩
 unfold Bh
 refine hp h (fun p hp=>(hbd p hp).2.1) fun v M1 ho k1=>?_
 have hls:iZ Fz M1 v (parts ps) (fun d=>M.next≤d):=(ho.mono (fun d h=>h.1)).slD fun d h1 h2=>h1
 have hpl:(parts ps).length≤16:=vM ps 16
 have hpb:∀ x∈parts ps,x.1.1<16∧Bd (x.1.2,x.2):=fun x hx=>af5 hbd hx
 unfold encS agv at hQ
 generalize parts ps=ls at *
 have u10:=bW (v:=ls.length) (by omega)
 have n1:=k1.next
 rw[hls.len,dY,wrap_u64,Nat.mod_eq_of_lt (by omega)]
 refine hu.app (L:=[]) .nil n1 (by simp) (by omega) fun r0 M2 ho2 k2=>?_
 rw[List.nil_append] at ho2
 rw[hls.len]
 refine aQ (fun m ys M3=>∃ (i:Nat) (v:AV),m=ls.length - i∧ys=[v,N .i64 (i:Int)]∧i≤ls.length∧ag [] M1 M3∧Own M3 M.next T 1 v (dL (bE ls.length++(ls.take i).flatMap nu)) (bE ls.length++(ls.take i).flatMap nu).length∧(bE ls.length++(ls.take i).flatMap nu).length≤10 + 10000030 * i) _
  ⟨0,r0,rfl,rfl,Nat.zero_le _,k2,by simpa using ho2,by simpa using u10⟩ ?_
 rintro next m ys M3 hnext ⟨i,w,rfl,rfl,hi,hK,ho3,hle3⟩
 dsimp only[aa]
 rw[bZ]
 refine aJ (fun hlt=>?_) (fun hge=>?_)
 ·have hlt:i<ls.length:=by simpa using hlt
  have hpb:=hpb _ (List.getElem_mem hlt)
  have hL:(bE ls.length++(ls.take (i + 1)).flatMap nu)=(bE ls.length++(ls.take i).flatMap nu)++nu ls[i]:=by
   rw[List.take_succ_eq_append_getElem hlt,List.flatMap_append,List.append_assoc]; simp
  have hLl:(bE ls.length++(ls.take (i + 1)).flatMap nu).length≤10 + 10000030 * (i + 1):=by
   rw[hL,List.length_append]
   have:=agn hpb.1 hpb.2
   omega
  rw[hL] at hLl
  have avS:=hls.keep hK (by simp)
  obtain⟨b1,o1,cs,_,_,hidx,hld,hrel⟩:=avS.at (i:=i) 3 (i:Int) hlt rfl rfl
  have hstep:∀ w M',ag [] M1 M'→Own M' M.next T 1 w (dL ((bE ls.length++(ls.take i).flatMap nu)++nu ls[i])) ((bE ls.length++(ls.take i).flatMap nu)++nu ls[i]).length→next [w,N .i64 ((i + 1:Nat) : Int)] M':=fun w M' k o=>by
   refine hnext _ _ _ (by omega) ⟨i + 1,w,rfl,rfl,by omega,k, ?_, ?_⟩
   ·rw[hL]; exact o
   ·rw[hL]; exact hLl
  generalize bE ls.length++(ls.take i).flatMap nu=L at *
  have hLb:L.length≤10 + 10000030 * 16:=by omega
  generalize ls[i]=pt at *
  obtain⟨⟨dv,u⟩,xs⟩:=pt
  obtain⟨ds,rfl,w',rfl,hxs⟩:=hrel
  simp only[PRE] at *
  have hxl:xs.length≤1000000:=hpb.2.2.1
  have hub:u<2 ^ 64:=hpb.2.1
  have hxb:∀ x∈xs,x<2 ^ 64:=hpb.2.2.2
  have hdv:dv<16:=hpb.1
  have n3:=hK.next
  rw[hidx,kV]
  refine⟨_,hld, ?_⟩
  have hw1:=hxs.one
  rw[bn,dB (n:=3) (x:=.agg ([N .i64 (dv:Int),N .u64 (u:Int)]++[w'])) (l:=[(N .i64 0),(N .u64 0),(.sc (.slice none 0 0))]) (RM.aT _) rfl rfl (by simp[AV.cells,hw1]; exact⟨rfl,rfl⟩)]
  have kk:ag [] M3 ((M3.push (.row [(N .i64 0),(N .u64 0),(.sc (.slice none 0 0))] false TP 0)).put M3.next (.row (AV.agg ([N .i64 (dv:Int),N .u64 (u:Int)]++[w'])).cells false TP 0)):=((ag.refl _ _).push _).new _ (Nat.le_refl _)
  have hh:((M3.push (.row [(N .i64 0),(N .u64 0),(.sc (.slice none 0 0))] false TP 0)).put M3.next (.row (AV.agg ([N .i64 (dv:Int),N .u64 (u:Int)]++[w'])).cells false TP 0)).heap M3.next=some (.row [N .i64 (dv:Int),N .u64 (u:Int),w'] false TP 0):=aN _
  have hnx:((M3.push (.row [(N .i64 0),(N .u64 0),(.sc (.slice none 0 0))] false TP 0)).put M3.next (.row (AV.agg ([N .i64 (dv:Int),N .u64 (u:Int)]++[w'])).cells false TP 0)).next=M3.next + 1:=rfl
  generalize (M3.push (.row [(N .i64 0),(N .u64 0),(.sc (.slice none 0 0))] false TP 0)).put M3.next (.row (AV.agg ([N .i64 (dv:Int),N .u64 (u:Int)]++[w'])).cells false TP 0)=M4 at *
  have hx4:=(hxs.keep kk (by simp)).sl
  have ho4:=ho3.keep kk (by simp)
  rw[aU,aj hh rfl,dY,dw (by omega) (by omega),aU,aj hh rfl,aU,aj hh rfl,aL.len hx4,dY,dw (by omega) (by omega)]
  refine hu.app ho4 (by omega) (by omega) (by omega) fun r5 M5 ho5 k5=>?_
  have e5:=bW (v:=dv) (by omega)
  rw[aj (k5.aD hh (by omega) (by simp)) rfl]
  refine⟨rfl, ?_⟩
  rw[aj (k5.aD hh (by omega) (by simp)) rfl]
  refine⟨rfl, ?_⟩
  have n5:=k5.next
  refine hu.app ho5 (by omega) (by rw[List.length_append]; omega) hub fun r6 M6 ho6 k6=>?_
  have e6:=bW hub
  have n6:=k6.next
  have k46:=k5.trans k6
  rw[aj (k46.aD hh (by omega) (by simp)) rfl]
  refine⟨rfl, ?_⟩
  refine hu.app ho6 (by omega) (by simp only[List.length_append]; omega) (by omega) fun r7 M7 ho7 k7=>?_
  have e7:=bW (v:=xs.length) (by omega)
  have n7:=k7.next
  have k47:=k46.trans k7
  have hh7:=k47.aD hh (by omega) (by simp)
  have hx7:Sl aX M7 w' xs:=aL.keep hx4 k47 (by simp)
  rw[aU,aj hh7 rfl,aU,aj hh7 rfl,aL.len hx7]
  have atj:L++nu ((dv,u),xs)=L++bE dv++bE u++bE xs.length++qm u xs:=by simp only[nu,List.append_assoc]
  rw[atj] at hstep
  have k37:=hK.trans (kk.trans k47)
  have hL7:(L++bE dv++bE u++bE xs.length).length≤L.length + 30:=by simp only[List.length_append]; omega
  generalize L++bE dv++bE u++bE xs.length=L7 at *
  refine aQ (fun m ys M8=>∃ (j q:Nat) (w:AV),m=xs.length - j∧ys=[w,N .u64 (q:Int),N .i64 (j:Int)]∧j≤xs.length∧(u :: xs)[j]?=some q∧ag [] M7 M8∧Own M8 M.next T 1 w (dL (L7++qm u (xs.take j))) (L7++qm u (xs.take j)).length) _
   ⟨0,u,r7,rfl,rfl,Nat.zero_le _,rfl,ag.refl _ _,by simpa [qm] using ho7⟩ ?_
  rintro lD m ys M8 fI ⟨j,q,w8,rfl,rfl,hj,hq,hK8,ho8⟩
  dsimp only[aa]
  rw[bZ]
  refine aJ (fun hlt=>?_) (fun hge=>?_)
  ·have hlt:j<xs.length:=by simpa using hlt
   obtain⟨b2,o2,_,_,Kg,hc2⟩:=Sl.Bu (E:=aX) (aL.keep hx7 hK8 (by simp)) (j:Int) hlt
   have hxj:=hxb _ (List.getElem_mem hlt)
   have hqb:q<2 ^ 64:=by
    have:=List.mem_of_getElem? hq
    rcases List.mem_cons.1 this with rfl | h
    ·exact hub
    ·exact hxb _ h
   rw[Kg,gI]
   refine⟨_,hc2 _ rfl, ?_⟩
   have n8:=hK8.next
   have hg:=Cy (xs.take j) u
   rw[List.length_take] at hg
   rw[jG,aiY (by omega)]
   refine hu.app ho8 (by omega) (by rw[List.length_append]; omega) (Vd _ _) fun r9 M9 ho9 k9=>?_
   rw[bS,eB (by omega)]
   refine fI _ _ _ (by omega) ⟨j + 1,xs[j],r9,rfl,rfl,by omega,by rw[List.getElem?_cons_succ,List.getElem?_eq_getElem hlt],hK8.trans k9, ?_⟩
   rw[Sy hlt hq,← List.append_assoc]
   exact ho9
  ·have he:j=xs.length:=by simp at hge; omega
   subst he
   rw[bS,eB (by omega)]
   refine hstep _ _ (k37.trans hK8) ?_
   rw[List.take_length] at ho8
   exact ho8
 ·have he:i=ls.length:=by simp at hge; omega
  subst he
  rw[List.take_length] at ho3 hle3
  exact hQ w M3 ho3 (by omega) (k1.trans hK)
structure uJ (T TU base:Nat) (M:RM) (b:Nat) (ps:List Pt) : Prop where
 lt:b<M.next
 len:ps.length=16
 row:∃ (l:List AV) (vs:Nat→AV),M.heap b=some (.row l false T 0)∧l.length=32∧(∀ (i:Nat) (hi:i<ps.length),l[2 * i]?=some (N .u64 (ps[i].1:Int))∧l[2 * i + 1]?=some (vs i)∧Ow aX M base TU (vs i) ps[i].2) ∧
  ∀ i j,i<16→j<16→i≠j→∀ d∈aG (vs i),d ∉ aG (vs j)
 nb:b<base
theorem uJ.setH {T TU base:Nat} {M:RM} {b:Nat} {ps:List Pt} (h:uJ T TU base M b ps) : iy T (fun d=>base≤d) M b ps:=by
 obtain⟨l,vs,h1,h2,h3,h4⟩:=h.row
 refine⟨h.lt,h.len,⟨l,h1,h2,fun i hi=>⟨vs i,(h3 i hi).1,(h3 i hi).2.1,(h3 i hi).2.2.jm,Own.eZ (h3 i hi).2.2,fun d hd=>((h3 i hi).2.2.blk d hd).1⟩⟩,by have:=h.nb; omega⟩
def aaT (T TU:Nat) (c:au) : Prop:=∀ {M:RM} {Q:ak},(∀ M',uJ T TU (M.next + 1) M' M.next ik→ag [] M M'→M'.next=M.next + 1→Q (.ptr M.next 0) M')→c [] M Q
theorem adI {T TU:Nat} : aaT T TU fun args M Q=>args=[]∧Eo T M Q:=by
 intro M Q hQ
 refine⟨rfl, ?_⟩
 unfold Eo
 rw[eY]
 refine⟨_,rfl, ?_⟩
 rw[dU rfl (by simp),bn]
 refine hQ _ ⟨by simp[RM.push],rfl,⟨_,fun _=>aZ,RM.aT _,rfl,fun i hi=>?_,fun i j _ _ _ d hd=>by simp[aG] at hd⟩,by omega⟩ ((ag.refl _ _).push _) rfl
 have hi:i<16:=hi
 refine⟨?_, ?_, ?_⟩
 ·obtain rfl | rfl | rfl | rfl | rfl | rfl | rfl | rfl | rfl | rfl | rfl | rfl | rfl | rfl | rfl | rfl:i=0∨i=1∨i=2∨i=3∨i=4∨i=5∨i=6∨i=7∨i=8∨i=9∨i=10∨i=11∨i=12∨i=13∨i=14∨i=15:=by omega
  all_goals rfl
 ·obtain rfl | rfl | rfl | rfl | rfl | rfl | rfl | rfl | rfl | rfl | rfl | rfl | rfl | rfl | rfl | rfl:i=0∨i=1∨i=2∨i=3∨i=4∨i=5∨i=6∨i=7∨i=8∨i=9∨i=10∨i=11∨i=12∨i=13∨i=14∨i=15:=by omega
  all_goals rfl
 ·simp only[ik,List.getElem_replicate]; exact .nil
theorem uJ.keep {T TU base:Nat} {M M' : RM} {b:Nat} {ps:List Pt} {bs:List Nat} (h:uJ T TU base M b ps) (hk:ag bs M M') (hb:b ∉ bs) (hs:∀ d∈bs,d<base) : uJ T TU base M' b ps:=by
 obtain⟨l,vs,h1,h2,h3,h4⟩:=h.row
 refine⟨Nat.lt_of_lt_of_le h.lt hk.next,h.len,⟨l,vs,hk.aD h1 h.lt hb,h2,fun i hi=>⟨(h3 i hi).1,(h3 i hi).2.1,(h3 i hi).2.2.keep hk fun d hd hm=>?_⟩,h4⟩,h.nb⟩
 have:=((h3 i hi).2.2.blk d hd).1
 have:=hs d hm
 omega
theorem uJ.upto {T TU base:Nat} {M:RM} {b i u:Nat} {ps:List Pt} (h:uJ T TU base M b ps) (hi:i<16) {K:RM→Prop}
  (hK:∀ M',uJ T TU base M' b (ps.set i (u,(ps.getD i (0,[])).2))→ag [b] M M'→M'.next=M.next→(M'.heap b).isSome→K M') : aC M (.ptr b (2 * i)) (N .u64 (u:Int)) 1 K:=by
 obtain⟨l,vs,h1,h2,h3,h4⟩:=h.row
 have hnb:=h.nb
 rw[gV h1 (by omega) rfl rfl]
 have kk:ag [b] M (M.put b (.row (l.set (2 * i) (N .u64 (u:Int))) false T 0)):=(ag.refl _ _).put _ (.inr (by simp))
 have hil:i<ps.length:=by rw[h.len]; exact hi
 have hpD:ps.getD i (0,[])=ps[i]:=by rw[List.getD_eq_getElem?_getD,List.getElem?_eq_getElem hil]; rfl
 refine hK _ ⟨h.lt,by rw[List.length_set]; exact h.len,⟨_,vs,aN _,by rw[List.length_set]; exact h2,fun j hj=>?_,h4⟩,h.nb⟩ kk rfl (by rw[aN]; rfl)
 have hj' : j<ps.length:=by rw[List.length_set] at hj; exact hj
 have ow:=(h3 j hj').2.2.keep kk fun d hd hm=>by
  have:=((h3 j hj').2.2.blk d hd).1
  simp at hm; omega
 by_cases hji:j=i
 ·subst hji
  refine⟨?_, ?_, ?_⟩
  ·rw[List.getElem?_set_self (by omega),List.getElem_set_self]
  ·rw[List.getElem?_set_ne (by omega)]; exact(h3 j hj').2.1
  ·rw[List.getElem_set_self,hpD]; exact ow
 ·refine⟨?_, ?_, ?_⟩
  ·rw[List.getElem?_set_ne (by omega),List.getElem_set_ne (Ne.symm hji)]; exact(h3 j hj').1
  ·rw[List.getElem?_set_ne (by omega)]; exact(h3 j hj').2.1
  ·rw[List.getElem_set_ne (Ne.symm hji)]; exact ow
theorem uJ.more {T TU base:Nat} {M:RM} {b i x:Nat} {ps:List Pt} (h:uJ T TU base M b ps) (hi:i<16) (hlen:(ps.getD i (0,[])).2.length≤1000000) (hbase:base≤M.next) {K:RM→Prop}
  (hK:∀ M' ks,uJ T TU base M' b (ps.set i ((ps.getD i (0,[])).1,(ps.getD i (0,[])).2++[x]))→ag ks M M'→(∀ d∈ks,d=b∨base≤d)→K M') :
  ai M (.ptr b (2 * i + 1)) fun t55=>fO TU 1 [(N .u64 0)] [(0,1,N .u64 (x:Int))] fun r f=>dx r f M fun t57 fu=>appW TU 1 8 [(N .u64 0)] false t55 t57 fu fun t58 gm =>
   bF (.ptr b (2 * i)) fun t59=>aB t59 1 fun t60=>aC gm t60 t58 1 K:=by
 obtain⟨l,vs,h1,h2,h3,h4⟩:=h.row
 have hnb:=h.nb
 have hblt:=h.lt
 have hil:i<ps.length:=by rw[h.len]; exact hi
 have hpD:ps.getD i (0,[])=ps[i]:=by rw[List.getD_eq_getElem?_getD,List.getElem?_eq_getElem hil]; rfl
 rw[hpD] at hlen hK
 rw[aj h1 (h3 i hil).2.1,sI (x:=N .u64 (x:Int)) (size:=1) rfl rfl rfl,bn]
 refine KH (E:=aX) (a:=x) (h3 i hil).2.2 hbase (Nat.le_refl _) (by omega) (by omega) ?_
 intro v' M' o1 k1 n1 hv
 have hbv:∀ j,b ∉ aG (vs j)∨¬ j<16:=fun j=>by
  by_cases hj:j<16
  ·refine .inl fun hm=>?_
   have:=((h3 j (by rw[h.len]; exact hj)).2.2.blk b hm).1
   omega
  ·exact .inr hj
 have hh:M'.heap b=some (.row l false T 0):=k1.aD h1 hblt (by rcases hbv i with h | h; exact h; exact absurd hi h)
 rw[aI,aO,gV hh (by omega) o1.cells o1.one]
 have kk:ag [b] M' (M'.put b (.row (l.set (2 * i + 1) v') false T 0)):=(ag.refl _ _).put _ (.inr (by simp))
 have nbv:b ∉ aG v':=fun hm=>by have:=(o1.blk b hm).1; omega
 refine hK _ (b :: aG (vs i)) ⟨Nat.lt_of_lt_of_le hblt n1,by rw[List.length_set]; exact h.len,⟨_,fun j=>if j=i then v' else vs j,aN _,by rw[List.length_set]; exact h2,fun j hj=>?_,fun j1 j2 q1 q2 hne d hd=>?_⟩,h.nb⟩ ?_ ?_
 ·have hj' : j<ps.length:=by rw[List.length_set] at hj; exact hj
  by_cases hji:j=i
  ·subst hji
   refine⟨?_, ?_, ?_⟩
   ·rw[List.getElem?_set_ne (by omega),List.getElem_set_self]; exact(h3 j hj').1
   ·rw[List.getElem?_set_self (by omega)]; simp
   ·rw[List.getElem_set_self]; simp only[if_true]
    exact o1.keep kk fun d hd hm=>by simp at hm; subst hm; exact nbv hd
  ·have afs:j<16:=by rw[← h.len]; exact hj'
   refine⟨?_, ?_, ?_⟩
   ·rw[List.getElem?_set_ne (by omega),List.getElem_set_ne (Ne.symm hji)]; exact(h3 j hj').1
   ·rw[List.getElem?_set_ne (by omega)]; simp only[if_neg hji]; exact(h3 j hj').2.1
   ·rw[List.getElem_set_ne (Ne.symm hji)]; simp only[if_neg hji]
    refine((h3 j hj').2.2.keep k1 fun d hd hm=>h4 j i afs hi hji d hd hm).keep kk fun d hd hm=>?_
    simp at hm; subst hm
    rcases hbv j with h | h
    ·exact h hd
    ·exact h afs
 ·simp only at hd ⊢
  by_cases e1:j1=i
  ·rw[if_pos e1] at hd
   rw[if_neg (fun e=>hne (e1.trans e.symm))]
   rcases hv with rfl | hv
   ·exact h4 i j2 hi q2 (fun e=>hne (e1.trans e)) d hd
   ·intro hm
    have:=hv d hd
    have:=((h3 j2 (by rw[h.len]; exact q2)).2.2.blk d hm).2
    omega
  ·rw[if_neg e1] at hd
   by_cases e2:j2=i
   ·rw[if_pos e2]
    rcases hv with rfl | hv
    ·exact h4 j1 i q1 hi e1 d hd
    ·intro hm
     have:=hv d hm
     have:=((h3 j1 (by rw[h.len]; exact q1)).2.2.blk d hd).2
     omega
   ·rw[if_neg e2]
    exact h4 j1 j2 q1 q2 hne d hd
 ·exact(k1.mono (fun d hd=>List.mem_cons_of_mem _ hd)).trans (kk.mono (by simp))
 ·intro d hd
  rcases List.mem_cons.1 hd with rfl | hd
  ·exact .inl rfl
  ·exact .inr ((h3 i hil).2.2.blk d hd).1
def chain:Nat→List Nat→Bool
 | _,[]=>true
 | a,x :: xs=>decide (a<x) && chain x xs
def wL (p:Pt) : Bool:=chain (p.1 + 1) p.2
def PU (T:Nat) (c:au) : Prop:=∀ {M:RM} {b:Nat} {ps:List Pt} {S:Nat→Prop} {Q:ak},iy T S M b ps→(∀ p∈ps,p.2.length≤1000000∧p.1≤1099511627776) →
 (∀ M',ag [] M M'→Q (Bo (ps.all wL)) M')→c [.ptr b 0] M Q
theorem XT {TS T:Nat} : PU TS fun args M Q=>∃ a0,args=[a0]∧Ag T a0 M Q:=by
 intro M b ps S Q h hbd hQ
 refine⟨_,rfl, ?_⟩
 unfold Ag
 simp only[gQ]
 obtain⟨l,hb,IE,hrow⟩:=h.row
 rw[aI,aU,bI (n:=32) hb IE]
 refine aQ (fun m ys M3=>∃ (i:Nat),m=16 - i∧ys=[N .i64 (i:Int)]∧i≤16∧ag [] M M3∧ps.all wL=(ps.drop i).all wL) _
  ⟨0,rfl,rfl,Nat.zero_le _,ag.refl _ _,rfl⟩ ?_
 rintro next m ys M3 hnext ⟨i,rfl,rfl,hi,hK,hset⟩
 dsimp only[aa]
 rw[bZ]
 refine aJ (fun hlt=>?_) (fun hge=>?_)
 ·have hlt:i<16:=by
   have:(i:Int)<16:=of_decide_eq_true hlt
   omega
  have hil:i<ps.length:=by rw[h.len]; exact hlt
  obtain⟨w,a1,a2,a3,a4,a5⟩:=hrow i hil
  have hcut:(l.drop (2 * i)).take 2=[N .u64 (ps[i].1:Int),w]:=by
   have h1:=(List.getElem?_eq_some_iff.1 a1)
   have h2:=(List.getElem?_eq_some_iff.1 a2)
   obtain⟨q1,q2⟩:=h1
   obtain⟨r1,r2⟩:=h2
   rw[List.drop_eq_getElem_cons q1,List.drop_eq_getElem_cons r1,q2,r2]; rfl
  rw[I7]
  refine⟨by omega,by omega,by simp only[Int.toNat_natCast]; omega, ?_⟩
  rw[Int.toNat_natCast,Nat.mul_comm i 2,hcut,bn]
  have hw1:=aL.one a3
  have hwc:=aL.cells a3
  rw[dB (n:=2) (x:=.agg [N .u64 (ps[i].1:Int),w]) (l:=[N .u64 0,.sc (.slice none 0 0)]) (RM.aT _) rfl rfl (by simp[AV.cells,hw1]; rfl)]
  have kk:ag [] M3 ((M3.push (.row [N .u64 0,.sc (.slice none 0 0)] false T 0)).put M3.next (.row (AV.agg [N .u64 (ps[i].1:Int),w]).cells false T 0)):=((ag.refl _ _).push _).new _ (Nat.le_refl _)
  have hh:((M3.push (.row [N .u64 0,.sc (.slice none 0 0)] false T 0)).put M3.next (.row (AV.agg [N .u64 (ps[i].1:Int),w]).cells false T 0)).heap M3.next=some (.row [N .u64 (ps[i].1:Int),w] false T 0):=aN _
  generalize (M3.push (.row [N .u64 0,.sc (.slice none 0 0)] false T 0)).put M3.next (.row (AV.agg [N .u64 (ps[i].1:Int),w]).cells false T 0)=M4 at *
  have s4:Sl aX M4 w ps[i].2:=aL.keep (aL.keep a3 hK (by simp)) kk (by simp)
  obtain⟨hxl,hub⟩:=hbd _ (List.getElem_mem hil)
  rw[List.drop_eq_getElem_cons hil,List.all_cons] at hset
  have hk4:=hK.trans kk
  unfold wL at hset
  change ps.all wL=(chain (ps[i].1 + 1) ps[i].2 && (ps.drop (i + 1)).all wL) at hset
  generalize hu:ps[i].1=u at *
  generalize hxs:ps[i].2=xs at *
  rw[aU,aj hh rfl,aL.len s4]
  refine aQ (fun m ys M5=>∃ (j q:Nat),m=xs.length - j∧ys=[N .i64 (j:Int)]∧j≤xs.length∧M5=M4∧((u + 1) :: xs)[j]?=some q∧chain (u + 1) xs=chain q (xs.drop j)) _
   ⟨0,u + 1,rfl,rfl,Nat.zero_le _,rfl,rfl,rfl⟩ ?_
  rintro lD m ys M5 fI ⟨j,q,rfl,rfl,hj,rfl,hq,hch⟩
  dsimp only[aa]
  rw[bZ]
  refine aJ (fun hlt2=>?_) (fun vZ=>?_)
  ·have hlt2:j<xs.length:=by simpa using hlt2
   obtain⟨b2,o2,_,_,Kg,hc2⟩:=Sl.Bu (E:=aX) s4 (j:Int) hlt2
   rw[List.drop_eq_getElem_cons hlt2,chain] at hch
   rw[Kg,gI]
   refine⟨_,hc2 _ rfl, ?_⟩
   have bad:xs[j]≤q→Q (Bo false) M5:=fun hle=>by
    have:chain (u + 1) xs=false:=by rw[hch,show decide (q<xs[j])=false by simp; omega,Bool.false_and]
    rw[hset,this,Bool.false_and] at hQ
    exact hQ M5 hk4
   have ok:¬ xs[j]≤q→ae .add (N .i64 (j:Int)) (N .i64 1) fun t45=>lD [t45] M5:=fun hle=>by
    rw[bS,eB (by omega)]
    refine fI _ _ _ (by omega) ⟨j + 1,xs[j],rfl,rfl,by omega,rfl,by rw[List.getElem?_cons_succ,List.getElem?_eq_getElem hlt2], ?_⟩
    rw[hch,show decide (q<xs[j])=true by simp; omega,Bool.true_and]
   rw[bT]
   by_cases hj0:j=0
   ·subst hj0
    simp only[List.getElem?_cons_zero,Option.some.injEq] at hq
    subst hq
    rw[show((((0:Nat) : Int)) == 0)=true from rfl,bU]
    dsimp only
    rw[aU,aj hh rfl,bS,dw (by omega) (by omega),lF,cK]
    by_cases hle:xs[0]≤u + 1
    ·rw[show decide (((xs[0] : Nat) : Int)≤(u:Int) + 1)=true by simp; omega,bM]
     dsimp only
     rw[iO]
     dsimp only
     rw[bM]
     dsimp only
     rw[cK,cO]
     exact bad hle
    ·rw[show decide (((xs[0] : Nat) : Int)≤(u:Int) + 1)=false by simp; omega,bg]
     dsimp only
     rw[dF,show decide (((0:Nat) : Int) > 0)=false from rfl,bC]
     dsimp only
     rw[bg]
     dsimp only
     rw[bK,bK,bJ]
     exact ok hle
   ·rw[show((j:Int) == 0)=false by simp; omega,bC]
    dsimp only
    rw[bK,bg]
    dsimp only
    rw[dF,show decide ((j:Int) > 0)=true by simp; omega,bU]
    dsimp only
    obtain⟨b3,o3,_,_,asC,hc3⟩:=Sl.Bu (E:=aX) (i:=j - 1) s4 ((j - 1:Nat) : Int) (by omega)
    rw[aU,aj hh rfl,jG,bB (by omega) (by omega),show(j:Int) - 1=((j - 1:Nat) : Int) by omega,asC,gI]
    refine⟨_,hc3 _ rfl, ?_⟩
    have hqe:xs[j - 1]=q:=by
     have e:j=(j - 1) + 1:=by omega
     rw[e,List.getElem?_cons_succ,List.getElem?_eq_getElem (by omega)] at hq
     exact Option.some.inj hq
    rw[hqe,lF,bg]
    dsimp only
    rw[cK,bK]
    refine aJ (fun hg=>bad ?_) (fun hg=>ok ?_)
    ·have:((xs[j] : Nat) : Int)≤(q:Int):=of_decide_eq_true hg
     omega
    ·have:¬ ((xs[j] : Nat) : Int)≤(q:Int):=of_decide_eq_false hg
     omega
  ·have he:j=xs.length:=by simp at vZ; omega
   subst he
   rw[List.drop_length,chain] at hch
   rw[bS,eB (by omega)]
   refine hnext _ _ _ (by omega) ⟨i + 1,rfl,rfl,by omega,hk4, ?_⟩
   rw[hset,hch,Bool.true_and]
 ·have he:i=16:=by
   have:¬ (i:Int)<16:=of_decide_eq_false hge
   omega
  subst he
  rw[List.drop_of_length_le (by rw[h.len]; exact Nat.le_refl _)] at hset
  rw[hset] at hQ
  exact hQ M3 hK
def OX (c:au) : Prop:=∀ {M:RM} {v w:AV} {x y:List UInt8} {Q:ak},Sl BY M v x→Sl BY M w y→Q (Bo (x == y)) M→c [v,w] M Q
theorem ZI:OX fun args M Q=>∃ a0 a1,args=[a0,a1]∧yQ a0 a1 M Q:=by
 intro M v w x y Q h1 h2 hQ
 refine⟨_,_,rfl, ?_⟩
 unfold yQ
 rw[Sl.str h1,Sl.str h2,qV]
 exact hQ
theorem Own.sl {M:RM} {base T:Nat} {v:AV} {L:List UInt8} (h:Own M base T 1 v (dL L) L.length) : Sl BY M v L:=by
 have:=h.jm
 show aL M 1 v (BY.row L) L.length
 rw[yC]; exact this
@[irreducible] def eu (bs:List UInt8) (f:Bool) : Nat × List UInt8 × Bool:=aR 18446744073709551615 bs f
theorem ML {bs:List UInt8} {f:Bool} : (eu bs f).1<2 ^ 64:=by
 unfold eu
 have:=(kN (most:=18446744073709551615) (bs:=bs) (f:=f)).1
 omega
def Kh:Nat→Nat→List UInt8→Bool→List Nat→Option (Nat × List UInt8 × Bool × List Nat)
 | 0,a,bs,f,acc=>some (a,bs,f,acc)
 | k + 1,a,bs,f,acc =>
   if (eu bs f).2.2=true∨1099511627776<(eu bs f).1∨1099511627776<a then none
   else Kh k (a + (eu bs f).1) (eu bs f).2.1 (eu bs f).2.2 (acc++[a + (eu bs f).1])
def Ak:Nat→List UInt8→Bool→List Pt→Option (List UInt8 × Bool × List Pt)
 | 0,bs,f,ps=>some (bs,f,ps)
 | k + 1,bs,f,ps =>
   let d:=aR 15 bs f
   let u:=eu d.2.1 d.2.2
   let n:=aR 4096 u.2.1 u.2.2
   match Kh n.1 u.1 n.2.1 n.2.2 (ps.getD d.1 (0,[])).2 with
   | none=>none
   | some (a,bs',f',acc)=>if 1099511627776<u.1∨1099511627776<a then none else Ak k bs' f' (ps.set d.1 (u.1,acc))
def decode (bs:List UInt8) : Option (List Pt) :=
 match Ak (aR 16 bs false).1 (aR 16 bs false).2.1 (aR 16 bs false).2.2 ik with
 | none=>none
 | some (bs',f,ps)=>if f=true∨bs'≠[]∨ps.all wL=false∨encS ps≠bs then none else some ps
def RU (T:Nat) (c:au) : Prop:=∀ {M:RM} {r:Nat} {S:Nat→Prop} {bs:List UInt8} {f:Bool} {Q:ak},sJ T S M r bs f →
 (∀ M',sJ T S M' r (eu bs f).2.1 (eu bs f).2.2→ag [r] M M'→M'.next=M.next→Q (N .u64 (((eu bs f).1:Nat) : Int)) M')→c [.ptr r 0] M Q
theorem OZ.ru {T:Nat} {c:au} (h:OZ T c) : RU T c:=by
 intro M r S bs f Q hr hQ
 unfold eu at hQ
 exact h hr hQ
def Bi (k:Nat) (p:Pt) : Prop:=p.1≤1099511627776∧p.2.length≤k∧∀ x∈p.2,x≤4398046511104
theorem aj9 {k:Nat} {ps:List Pt} (h:∀ p∈ps,Bi k p) (i:Nat) : Bi k (ps.getD i (0,[])):=by
 rw[List.getD_eq_getElem?_getD]
 by_cases hj:i<ps.length
 ·rw[List.getElem?_eq_getElem hj]
  exact h _ (List.getElem_mem hj)
 ·rw[List.getElem?_eq_none (by omega)]
  exact⟨Nat.zero_le _,Nat.zero_le _,fun x hx=>by simp at hx⟩
theorem ze {ps:List Pt} {i:Nat} (h:i<ps.length) (p:Pt) : (ps.set i p).getD i (0,[])=p:=by
 rw[List.getD_eq_getElem?_getD,List.getElem?_set_self h]; rfl
def Rf (TS TU:Nat) (c:au) : Prop:=∀ {M:RM} {v:AV} {bs:List UInt8} {Q:ak},Sl BY M v bs→bs.length≤140737488355328 →
 (decode bs=none→∀ M',ag [] M M'→Q (.tup [.sc (.pointer none),N .i64 14]) M') →
 (∀ ps,decode bs=some ps→(∀ p∈ps,Bi 65536 p)→∀ s M',M.next≤s→uJ TS TU (s + 1) M' s ps→ag [] M M'→Q (.tup [.ptr s 0,N .i64 0]) M')→c [v] M Q
theorem YE {TR TS TU TB:Nat} {crd cn ci cu ce cE cf cen ceq:au} (hrd:Nt TR crd) (hn:aaT TS TU cn) (hi:Qi TR ci) (hu:RU TR cu) (he:ZE TR ce) (hE:VW TR cE) (hf:PU TS cf) (hen:KN TS TB cen) (heq:OX ceq) :
  Rf TS TU fun args M Q=>∃ a0,args=[a0]∧FE crd cn ci cu ce TU cE cf cen ceq a0 M Q:=by
 intro M0 v bs Q hv hlen hN hS
 refine⟨_,rfl, ?_⟩
 unfold FE
 simp only[gQ]
 refine hrd hv hlen fun r M1 hr1 hr0 k1=>?_
 have axL:=hr1.lt
 refine hn fun M2 hs2 k2 n2=>?_
 have k02:=k1.trans k2
 have hr2:=hr1.keep k2 (by simp) (by simp)
 generalize M1.next=s at *
 refine hi (most:=16) hr2 (by omega) fun M3 hr3 k3 n3=>?_
 have hrs:r<s:=axL
 have hs3:=hs2.keep k3 (by simp; omega) (by simp; omega)
 have hle:=(kN (most:=16) (bs:=bs) (f:=false)).1
 unfold decode at hN hS
 generalize (aR 16 bs false).1=n at *
 generalize (aR 16 bs false).2.1=bs1 at *
 generalize (aR 16 bs false).2.2=f1 at *
 have k03:ag [] M0 M3:=k02.bG k3 (by simp; omega)
 refine aQ (fun m ys M4=>∃ (i:Nat) (bs' : List UInt8) (f:Bool) (ps:List Pt),m=n - i∧ys=[N .i64 (i:Int)]∧i≤n∧ag [] M0 M4∧s<M4.next∧sJ TR (fun d=>M0.next≤d∧d<r) M4 r bs' f∧uJ TS TU (s + 1) M4 s ps∧(∀ p∈ps,Bi (4096 * i) p) ∧
   Ak n bs1 f1 ik=Ak (n - i) bs' f ps) _
  ⟨0,bs1,f1,ik,rfl,rfl,Nat.zero_le _,k03,by omega,hr3,hs3,fun p hp=>by simp only[ik,List.mem_replicate] at hp; rw[hp.2]; exact⟨Nat.zero_le _,Nat.zero_le _,fun x hx=>by simp at hx⟩,rfl⟩ ?_
 rintro next m ys M4 hnext ⟨i,bs',f,ps,rfl,rfl,hi4,hk4,n4,hr4,hs4,hb4,hdec⟩
 dsimp only[aa]
 rw[bZ]
 refine aJ (fun hlt=>?_) (fun hge=>?_)
 ·have hlt:i<n:=by simpa using hlt
  rw[show n - i=(n - i - 1) + 1 by omega,Ak] at hdec
  rw[aI,aU]
  refine hi (most:=15) hr4 (by omega) fun M5 hr5 k5 n5=>?_
  have hd15:=(kN (most:=15) (bs:=bs') (f:=f)).1
  generalize (aR 15 bs' f).1=dv at *
  generalize (aR 15 bs' f).2.1=bsA at *
  generalize (aR 15 bs' f).2.2=fA at *
  have hs5:=hs4.keep k5 (by simp; omega) (by simp; omega)
  have hk5:ag [] M0 M5:=hk4.bG k5 (by simp; omega)
  rw[xg]
  refine⟨by omega,by omega, ?_⟩
  rw[Int.toNat_natCast,Nat.zero_add,Nat.mul_comm dv 2]
  refine hu hr5 fun M6 hr6 k6 n6=>?_
  have hult:=ML (bs:=bsA) (f:=fA)
  generalize (eu bsA fA).1=u at *
  generalize (eu bsA fA).2.1=bsB at *
  generalize (eu bsA fA).2.2=fB at *
  have hs6:=hs5.keep k6 (by simp; omega) (by simp; omega)
  have hk6:ag [] M0 M6:=hk5.bG k6 (by simp; omega)
  rw[aI,aO,Nat.add_zero]
  refine hs6.upto (by omega) fun M7 hs7 k7 n7 _=>?_
  have hpB:=aj9 hb4 dv
  have hdl:dv<ps.length:=by rw[hs4.len]; omega
  have hk7:ag [] M0 M7:=hk6.bG k7 (by simp; have:=k1.next; omega)
  have hr7:=hr6.keep k7 (by simp; omega) (by simp; omega)
  obtain⟨l7,vs7,hh7,_,ata,_⟩:=hs7.row
  have hu7:=(ata dv (by rw[List.length_set]; exact hdl)).1
  rw[List.getElem_set_self] at hu7
  rw[aI,aO,Nat.add_zero,aj hh7 hu7]
  refine hi (most:=4096) hr7 (by omega) fun M8 hr8 k8 n8=>?_
  have hn4096:=(kN (most:=4096) (bs:=bsB) (f:=fB)).1
  generalize (aR 4096 bsB fB).1=nn at *
  generalize (aR 4096 bsB fB).2.1=bsC at *
  generalize (aR 4096 bsB fB).2.2=fC at *
  have hs8:=hs7.keep k8 (by simp; omega) (by simp; omega)
  have hk8:ag [] M0 M8:=hk7.bG k8 (by simp; omega)
  have refuse:Ak n bs1 f1 ik=none→∀ M',ag [] M0 M'→Q (.tup [.sc (.pointer none),N .i64 14]) M':=fun h=>hN (by rw[h])
  refine aQ (fun m ys M9=>∃ (j a:Nat) (bs9:List UInt8) (f9:Bool) (acc:List Nat),m=nn - j∧ys=[N .u64 (a:Int),N .i64 (j:Int)]∧j≤nn∧ag [] M0 M9∧s<M9.next∧sJ TR (fun d=>M0.next≤d∧d<r) M9 r bs9 f9∧uJ TS TU (s + 1) M9 s (ps.set dv (u,acc))∧(acc.length≤4096 * i + j∧∀ x∈acc,x≤4398046511104) ∧
    Kh nn u bsC fC (ps.getD dv (0,[])).2=Kh (nn - j) a bs9 f9 acc) _
   ⟨0,u,bsC,fC,_,rfl,rfl,Nat.zero_le _,hk8,by omega,hr8,hs8,⟨by have:=hpB.2.1; omega,hpB.2.2⟩,rfl⟩ ?_
  rintro lD m ys M9 fI ⟨j,a,bs9,f9,acc,rfl,rfl,hj,hk9,n9,hr9,hs9,hacc,hdi⟩
  dsimp only[aa]
  rw[bZ]
  refine aJ (fun hlt2=>?_) (fun vZ=>?_)
  ·have hlt2:j<nn:=by simpa using hlt2
   rw[show nn - j=(nn - j - 1) + 1 by omega,Kh] at hdi
   refine hu hr9 fun M10 aac k10 n10=>?_
   have hdlt:=ML (bs:=bs9) (f:=f9)
   generalize (eu bs9 f9).1=d at *
   generalize (eu bs9 f9).2.1=bsD at *
   generalize (eu bs9 f9).2.2=fD at *
   have avm:=hs9.keep k10 (by simp; omega) (by simp; omega)
   have hk10:ag [] M0 M10:=hk9.bG k10 (by simp; omega)
   refine he aac ?_
   have stop:(fD=true∨1099511627776<d∨1099511627776<a)→Q (.tup [.sc (.pointer none),N .i64 14]) M10:=fun h=>by
    rw[if_pos h] at hdi
    rw[hdi] at hdec
    exact refuse hdec M10 hk10
   rw[fM]
   cases fD with
   | true =>
     simp only[if_true]
     rw[show((14:Int) != 0)=true from rfl,bM]
     dsimp only
     rw[cK,bM]
     dsimp only
     rw[cK,cO]
     exact stop (.inl rfl)
   | false =>
     simp only[Bool.false_eq_true,if_false]
     rw[show((0:Int) != 0)=false from rfl,bg]
     dsimp only
     rw[dF,bK]
     by_cases hd:1099511627776<d
     ·rw[show decide ((d:Int) > 1099511627776)=true by simp; omega,bM]
      dsimp only
      rw[cK,cO]
      exact stop (.inr (.inl hd))
     ·rw[show decide ((d:Int) > 1099511627776)=false by simp; omega,bg]
      dsimp only
      rw[dF,bK]
      refine aJ (fun hg=>stop (.inr (.inr ?_))) (fun hg=>?_)
      ·have:(a:Int) > 1099511627776:=of_decide_eq_true hg
       omega
      ·have hal:¬ 1099511627776<a:=by
        have:¬ (a:Int) > 1099511627776:=of_decide_eq_false hg
        omega
       rw[if_neg (by simp; omega)] at hdi
       rw[bS,show(a:Int) + (d:Int)=((a + d:Nat) : Int) by omega,dw (by omega) (by omega),aI,aO]
       have hgs:=ze hdl (u,acc)
       refine avm.more (i:=dv) (x:=a + d) (by omega) (by rw[hgs]; have:=hacc.1; simp only; omega) (by omega) fun M11 ks apV k11 hks=>?_
       rw[hgs,List.set_set] at apV
       have n11:=k11.next
       have awf:=aac.keep k11 (fun h=>by rcases hks _ h with h | h <;> omega) (fun d hd h=>by rcases hks _ hd with h | h <;> omega)
       have awj:ag [] M0 M11:=hk10.bG k11 (fun d hd=>.inl (by rcases hks _ hd with h | h <;> (have:=k1.next; omega)))
       rw[bS,eB (by omega)]
       refine fI _ _ _ (by omega) ⟨j + 1,a + d,bsD,false,acc++[a + d],rfl,rfl,by omega,awj,by omega,awf,apV,⟨by simp; have:=hacc.1; omega,fun x hx=>?_⟩,hdi⟩
       rcases List.mem_append.1 hx with hx | hx
       ·exact hacc.2 x hx
       ·simp at hx; omega
  ·have he2:j=nn:=by simp at vZ; omega
   subst he2
   rw[Nat.sub_self,Kh] at hdi
   rw[hdi] at hdec
   simp only at hdec
   obtain⟨l9,vs9,hh9,_,atm,_⟩:=hs9.row
   have hu9:=(atm dv (by rw[List.length_set]; exact hdl)).1
   rw[List.getElem_set_self] at hu9
   rw[aI,aO,Nat.add_zero,aj hh9 hu9,dF]
   have stop:(1099511627776<u∨1099511627776<a)→Q (.tup [.sc (.pointer none),N .i64 14]) M9:=fun h=>by
    rw[if_pos h] at hdec
    exact refuse hdec M9 hk9
   by_cases hub:1099511627776<u
   ·rw[show decide ((u:Int) > 1099511627776)=true by simp; omega,bM]
    dsimp only
    rw[cK,cO]
    exact stop (.inl hub)
   ·rw[show decide ((u:Int) > 1099511627776)=false by simp; omega,bg]
    dsimp only
    rw[dF,bK]
    refine aJ (fun hg=>stop (.inr ?_)) (fun hg=>?_)
    ·have:(a:Int) > 1099511627776:=of_decide_eq_true hg
     omega
    ·have hal:¬ 1099511627776<a:=by
      have:¬ (a:Int) > 1099511627776:=of_decide_eq_false hg
      omega
     rw[if_neg (by omega)] at hdec
     rw[bS,eB (by omega)]
     refine hnext _ _ _ (by omega) ⟨i + 1,bs9,f9,ps.set dv (u,acc),rfl,rfl,by omega,hk9,n9,hr9,hs9,fun p hp=>?_,hdec⟩
     rcases List.mem_or_eq_of_mem_set hp with hp | rfl
     ·have:=hb4 p hp
      exact⟨this.1,by have:=this.2.1; omega,this.2.2⟩
     ·exact⟨by simp only; omega,by have:=hacc.1; simp only; omega,hacc.2⟩
 ·have he4:i=n:=by simp at hge; omega
  subst he4
  rw[Nat.sub_self,Ak] at hdec
  rw[hdec] at hN hS
  simp only at hN hS
  have hH:=hs4.setH
  refine hE hr4 ?_
  have refuse:∀ M',(f=true∨bs'≠[]∨ps.all wL=false∨encS ps≠bs)→ag [] M0 M'→Q (.tup [.sc (.pointer none),N .i64 14]) M':=fun M' h k=>hN (by rw[if_pos h]) M' k
  rw[fM]
  by_cases hfb:f=true∨bs'≠[]
  ·have:(f || !bs'.isEmpty)=true:=by
    rcases hfb with h | h
    ·rw[h]; rfl
    ·cases bs' with
     | nil=>exact absurd rfl h
     | cons x y=>simp
   rw[this]
   simp only[if_true]
   rw[show((14:Int) != 0)=true from rfl,bM]
   dsimp only
   rw[cK,bM]
   dsimp only
   rw[cK,cO]
   exact refuse M4 (hfb.elim .inl fun h=>.inr (.inl h)) hk4
  ·have hf0:f=false:=by cases f; rfl; exact absurd (.inl rfl) hfb
   have hb0:bs'=[]:=Classical.byContradiction fun h=>hfb (.inr h)
   subst hf0 hb0
   simp only[List.isEmpty_nil,Bool.not_true,Bool.or_false,Bool.false_eq_true,if_false]
   rw[show((0:Int) != 0)=false from rfl,bg]
   dsimp only
   have hbi:∀ p∈ps,Bi 65536 p:=fun p hp=>by
    have:=hb4 p hp
    exact⟨this.1,by have:=this.2.1; omega,this.2.2⟩
   refine hf hH (fun p hp=>⟨by have:=(hbi p hp).2.1; omega,(hbi p hp).1⟩) fun M5 k5=>?_
   have hk5:=hk4.trans k5
   have hs5:=hs4.keep k5 (by simp) (by simp)
   rw[aY,bK]
   cases hfo:ps.all wL with
   | false =>
     rw[Bool.not_false,bM]
     dsimp only
     rw[cK,cO]
     exact refuse M5 (.inr (.inr (.inl hfo))) hk5
   | true =>
     rw[Bool.not_true,bg]
     dsimp only
     refine hen hs5.setH (fun p hp=>⟨by have:=(hbi p hp).1; omega,by have:=(hbi p hp).2.1; omega,fun x hx=>by have:=(hbi p hp).2.2 x hx; omega⟩) fun w M6 ho6 hl6 k6=>?_
     have hk6:=hk5.trans k6
     have hv6:Sl BY M6 v bs:=aL.keep hv hk6 (by simp)
     refine heq (Own.sl ho6) hv6 ?_
     rw[aY,bK]
     by_cases hbe:encS ps=bs
     ·rw[show(encS ps == bs)=true by simpa using hbe,Bool.not_true,bJ]
      refine hS ps ?_ hbi s M6 (by omega) (hs5.keep k6 (by simp) (by simp)) hk6
      rw[if_neg]
      rintro(h | h | h | h)
      ·cases h
      ·exact h rfl
      ·rw[hfo] at h; cases h
      ·exact h hbe
     ·rw[show(encS ps == bs)=false by simpa using hbe,Bool.not_false,cO]
      exact refuse M6 (.inr (.inr (.inr hbe))) hk6
end Go.Ab.ay
