/- Part 4 of the ground of the proofs of this seat (texts R10 to F1). By an AI agent. -/
import Derived.Test.YtngfappichkflaaGreatLis3
import Derived.ChangeShapes
import Derived.OpenShut
import Derived.WideKeyArgs
import GoSem.ClaimJoined
import Derived.Sort.AssemblyPlain
set_option linter.unusedVariables false
set_option linter.unusedSimpArgs false
namespace Go.Ab
open Go Go.RowKit
def RM.cell (M:RM) (b o:Nat) : Option AV:=(M.cells b).bind (·[o]?)
section
variable {M M' : RM} {K:AV→Prop} {KQ:ak}
theorem OJ {b o:Nat} {v:AV} : M.loads b o 1=some [v]↔M.cell b o=some v:=by
 unfold RM.loads RM.cell
 cases hc:M.cells b with
 | none=>simp
 | some l =>
   simp only[Option.bind_some]
   constructor
   ·intro h
    split at h
    ·rename_i hlt
     have h1:=Option.some.inj h
     have:((l.drop o).take 1)[0]?=some v:=by rw[h1]; rfl
     rw[List.getElem?_take,if_pos (by omega),List.getElem?_drop] at this
     simpa using this
    ·cases h
   ·intro h
    have hlt:=(List.getElem?_eq_some_iff.1 h).1
    rw[if_pos (by omega)]
    congr 1
    rw[List.drop_eq_getElem_cons hlt]
    simp only[List.take_succ_cons,List.take_zero]
    congr 1
    exact(List.getElem?_eq_some_iff.1 h).2
@[go_sem] theorem gL (b o:Nat) : au M (.ptr b o) K=∃ v,M.cell b o=some v∧K v:=by
 apply propext; unfold au
 constructor
 ·rintro⟨b',o',v,h,hl,hk⟩; cases h; exact⟨v,OJ.1 hl,hk⟩
 ·rintro⟨v,hl,hk⟩; exact⟨b,o,v,rfl,OJ.2 hl,hk⟩
@[go_sem] theorem gK (b o n:Nat) : aA M (.ptr b o) n K=∃ vs,M.loads b o n=some vs∧K (.agg vs):=by
 apply propext; unfold aA
 constructor
 ·rintro⟨b',o',v,h,hl,hk⟩; cases h; exact⟨v,hl,hk⟩
 ·rintro⟨v,hl,hk⟩; exact⟨b,o,v,rfl,hl,hk⟩
@[go_sem] theorem zJ (b p:Nat) (x:AV) (n:Nat) (K:RM→Prop) : aC M (.ptr b p) x n K=(x.cells.length=n∧∃ M',M.stores b p x.cells=some M'∧K M'):=by
 apply propext; unfold aC
 constructor
 ·rintro⟨b',o',M',h,h1,h2,hk⟩; cases h; exact⟨h1,M',h2,hk⟩
 ·rintro⟨h1,M',h2,hk⟩; exact⟨b,p,M',rfl,h1,h2,hk⟩
def afL (k:IntKind) (a b:Int) : Int:=k.wrap (BitVec.ofInt k.bits a &&& BitVec.ofInt k.bits b).toNat
def orI (k:IntKind) (a b:Int) : Int:=k.wrap (BitVec.ofInt k.bits a ||| BitVec.ofInt k.bits b).toNat
def abj (k:IntKind) (a b:Int) : Int:=k.wrap (BitVec.ofInt k.bits a ^^^ BitVec.ofInt k.bits b).toNat
def ag9 (k:IntKind) (a b:Int) : Int:=k.wrap (BitVec.ofInt k.bits a &&& ~~~BitVec.ofInt k.bits b).toNat
def ZT (k:IntKind) (a b:Int) : Int:=k.wrap (a * 2 ^ (min b.toNat k.bits))
def Vs (k:IntKind) (a b:Int) : Int:=a.fdiv (2 ^ (min b.toNat k.bits))
section
variable (k:IntKind) (a b:Int)
theorem iX {op:BinOp} {v:Value} (h:Bp op k a b=some v) : ae op (N k a) (N k b) K=K (.sc v):=by
 apply propext; unfold ae
 constructor
 ·rintro⟨k',a',b',u,h1,h2,h3,hk⟩; cases h1; cases h2; rw[h] at h3; cases h3; exact hk
 ·intro hk; exact⟨k,a,b,v,rfl,rfl,h,hk⟩
@[go_sem] theorem cZ:ae .add (N k a) (N k b) K=K (N k (k.wrap (a + b))):=iX k a b rfl
@[go_sem] theorem ig:ae .sub (N k a) (N k b) K=K (N k (k.wrap (a - b))):=iX k a b rfl
@[go_sem] theorem uO:ae .mul (N k a) (N k b) K=K (N k (k.wrap (a * b))):=iX k a b rfl
@[go_sem] theorem LW:ae .and (N k a) (N k b) K=K (N k (afL k a b)):=iX k a b rfl
@[go_sem] theorem aq3:ae .or (N k a) (N k b) K=K (N k (orI k a b)):=iX k a b rfl
@[go_sem] theorem xG:ae .xor (N k a) (N k b) K=K (N k (abj k a b)):=iX k a b rfl
@[go_sem] theorem amV:ae .andNot (N k a) (N k b) K=K (N k (ag9 k a b)):=iX k a b rfl
@[go_sem] theorem bU:ae .eql (N k a) (N k b) K=K (Bo (a == b)):=iX k a b rfl
@[go_sem] theorem ll:ae .neq (N k a) (N k b) K=K (Bo (a != b)):=iX k a b rfl
@[go_sem] theorem dB:ae .lss (N k a) (N k b) K=K (Bo (decide (a<b))):=iX k a b rfl
@[go_sem] theorem lV:ae .leq (N k a) (N k b) K=K (Bo (decide (a≤b))):=iX k a b rfl
@[go_sem] theorem jS:ae .gtr (N k a) (N k b) K=K (Bo (decide (a > b))):=iX k a b rfl
@[go_sem] theorem iK:ae .geq (N k a) (N k b) K=K (Bo (decide (a ≥ b))):=iX k a b rfl
@[go_sem] theorem lc:ae .quo (N k a) (N k b) K=(b≠0∧K (N k (k.wrap (a.tdiv b)))):=by
 apply propext; unfold ae Bp
 constructor
 ·rintro⟨k',a',b',u,h1,h2,h3,hk⟩; cases h1; cases h2
  simp only at h3
  split at h3
  ·cases h3
  ·cases h3; exact⟨‹_›,hk⟩
 ·rintro⟨h0,hk⟩; exact⟨k,a,b,_,rfl,rfl,by simp only[if_neg h0],hk⟩
@[go_sem] theorem apL:ae .rem (N k a) (N k b) K=(b≠0∧K (N k (a.tmod b))):=by
 apply propext; unfold ae Bp
 constructor
 ·rintro⟨k',a',b',u,h1,h2,h3,hk⟩; cases h1; cases h2
  simp only at h3
  split at h3
  ·cases h3
  ·cases h3; exact⟨‹_›,hk⟩
 ·rintro⟨h0,hk⟩; exact⟨k,a,b,_,rfl,rfl,by simp only[if_neg h0],hk⟩
variable (l:IntKind)
@[go_sem] theorem Dr:DL .shl (N k a) (N l b) K=(0≤b∧K (N k (ZT k a b))):=by
 apply propext; unfold DL N8
 constructor
 ·rintro⟨k',a',l',b',u,h1,h2,h3,hk⟩; cases h1; cases h2
  split at h3
  ·cases h3
  ·cases h3; exact⟨by omega,hk⟩
 ·rintro⟨h0,hk⟩; exact⟨k,a,l,b,_,rfl,rfl,by rw[if_neg (by omega)]; rfl,hk⟩
@[go_sem] theorem Jq:DL .shr (N k a) (N l b) K=(0≤b∧K (N k (Vs k a b))):=by
 apply propext; unfold DL N8
 constructor
 ·rintro⟨k',a',l',b',u,h1,h2,h3,hk⟩; cases h1; cases h2
  split at h3
  ·cases h3
  ·cases h3; exact⟨by omega,hk⟩
 ·rintro⟨h0,hk⟩; exact⟨k,a,l,b,_,rfl,rfl,by rw[if_neg (by omega)]; rfl,hk⟩
@[go_sem] theorem aqY {l:IntKind} {a:Int} {K:AV→Prop} : aaB (N l a) K=K (St (Utf8.encode a).data.toList):=by
 apply propext; unfold aaB
 constructor
 ·rintro⟨l',n,h,hk⟩; cases h; exact hk
 ·intro h; exact⟨_,_,rfl,h⟩
@[go_sem] theorem nJ:oO k (N l a) K=K (N k (k.wrap a)):=by
 apply propext; unfold oO
 constructor
 ·rintro⟨l',n,h,hk⟩; cases h; exact hk
 ·intro hk; exact⟨l,a,rfl,hk⟩
@[go_sem] theorem acn (mx:Bool) : Pf mx (N k a) (N k b) K=K (N k (if mx then(if b > a then b else a) else(if b<a then b else a))):=by
 apply propext; unfold Pf
 constructor
 ·rintro⟨k',a',b',h1,h2,hk⟩; cases h1; cases h2; exact hk
 ·intro hk; exact⟨k,a,b,rfl,rfl,hk⟩
@[go_sem] theorem aq5:ado (N k a) K=K (N k (k.wrap (0 - a))):=by
 apply propext; unfold ado
 constructor
 ·rintro⟨k',a',h1,hk⟩; cases h1; exact hk
 ·intro hk; exact⟨k,a,rfl,hk⟩
end
@[go_sem] theorem bH (b:Bool) : dE (Bo b) K=K (Bo (!b)):=by
 apply propext; unfold dE
 constructor
 ·rintro⟨b',h,hk⟩; cases h; exact hk
 ·intro hk; exact⟨b,rfl,hk⟩
@[go_sem] theorem am0 (neg a b:Bool) : IJ neg (Bo a) (Bo b) K=K (Bo ((a == b) != neg)):=by
 apply propext; unfold IJ
 constructor
 ·rintro⟨a',b',h,h',hk⟩; cases h; cases h'; exact hk
 ·intro hk; exact⟨a,b,rfl,rfl,hk⟩
@[go_sem] theorem UB (t:Bool) (a b:AV) : aK (Bo t) a b K=K (if t then a else b):=by
 apply propext; unfold aK
 constructor
 ·rintro⟨t',h,hk⟩; cases h; exact hk
 ·intro hk; exact⟨t,rfl,hk⟩
@[go_sem] theorem Xi (b:Bool) (p q:Prop) : av (Bo b) p q=((b=true→p)∧(b=false→q)):=rfl
@[go_sem] theorem aoZ {α:Type} (b want:Bool) (f g:α→Prop) (k:α) : oN (Bo b) want f g k=if b=want then f k else g k:=rfl
@[go_sem] theorem akJ {α:Type} (want:Bool) (f g:α→Prop) (k:α) : oN .undef want f g k=g k:=rfl
@[go_sem] theorem aM (b o:Nat) : cB (.ptr b o) K=K (.ptr b o):=by
 apply propext; unfold cB
 constructor
 ·rintro⟨b',o',h,hk⟩; cases h; exact hk
 ·intro hk; exact⟨b,o,rfl,hk⟩
@[go_sem] theorem aU (b o n:Nat) : aJ (.ptr b o) n K=K (.ptr b (o + n)):=by
 apply propext; unfold aJ
 constructor
 ·rintro⟨b',o',h,hk⟩; cases h; exact hk
 ·intro hk; exact⟨b,o,rfl,hk⟩
@[go_sem] theorem pW (b p len:Nat) (cap:Cap) (k:IntKind) (n:Int) (size:Nat) : ai (.slc b p len cap) (N k n) size K=(0≤n∧n<len∧K (.ptr b (p + n.toNat * size))):=by
 apply propext; unfold ai
 constructor
 ·rintro⟨b',p',l',c',k',n',h,h',h0,h1,hk⟩; cases h; cases h'; exact⟨h0,h1,hk⟩
 ·rintro⟨h0,h1,hk⟩; exact⟨b,p,len,cap,k,n,rfl,rfl,h0,h1,hk⟩
@[go_sem] theorem AJ (b p:Nat) (k:IntKind) (n:Int) (len size:Nat) : GN (.ptr b p) (N k n) len size K=(0≤n∧n<len∧K (.ptr b (p + n.toNat * size))):=by
 apply propext; unfold GN
 constructor
 ·rintro⟨b',p',k',n',h,h',h0,h1,hk⟩; cases h; cases h'; exact⟨h0,h1,hk⟩
 ·rintro⟨h0,h1,hk⟩; exact⟨b,p,k,n,rfl,rfl,h0,h1,hk⟩
@[go_sem] theorem ao4 (cs:List AV) (off:Nat) : aav (.agg cs) off K=∃ v,cs[off]?=some v∧K v:=by
 apply propext; unfold aav
 constructor
 ·rintro⟨cs',v,h,h1,hk⟩; cases h; exact⟨v,h1,hk⟩
 ·rintro⟨v,h1,hk⟩; exact⟨cs,v,rfl,h1,hk⟩
@[go_sem] theorem aoM (cs:List AV) (off n:Nat) : ZM (.agg cs) off n K=(off + n≤cs.length∧K (.agg ((cs.drop off).take n))):=by
 apply propext; unfold ZM
 constructor
 ·rintro⟨cs',h,h1,hk⟩; cases h; exact⟨h1,hk⟩
 ·rintro⟨h1,hk⟩; exact⟨cs,rfl,h1,hk⟩
@[go_sem] theorem aoU (cs:List AV) (k:IntKind) (n:Int) (len:Nat) : abp (.agg cs) (N k n) len K=(0≤n∧n<len∧∃ v,cs[n.toNat]?=some v∧K v):=by
 apply propext; unfold abp
 constructor
 ·rintro⟨cs',k',n',v,h,h',h0,h1,h2,hk⟩; cases h; cases h'; exact⟨h0,h1,v,h2,hk⟩
 ·rintro⟨h0,h1,v,h2,hk⟩; exact⟨cs,k,n,v,rfl,rfl,h0,h1,h2,hk⟩
@[go_sem] theorem acS (cs:List AV) (k:IntKind) (n:Int) (len size:Nat) : SF (.agg cs) (N k n) len size K=(0≤n∧n<len∧n.toNat * size + size≤cs.length∧K (.agg ((cs.drop (n.toNat * size)).take size))):=by
 apply propext; unfold SF
 constructor
 ·rintro⟨cs',k',n',h,h',h0,h1,h2,hk⟩; cases h; cases h'; exact⟨h0,h1,h2,hk⟩
 ·rintro⟨h0,h1,h2,hk⟩; exact⟨cs,k,n,rfl,rfl,h0,h1,h2,hk⟩
@[go_sem] theorem ahC (s:List UInt8) (k:IntKind) (n:Int) : Xj (St s) (N k n) K=(0≤n∧∃ b,s[n.toNat]?=some b∧K (N .u8 b.toNat)):=by
 apply propext; unfold Xj
 constructor
 ·rintro⟨s',k',n',b,h,h',h0,h1,hk⟩; cases h; cases h'; exact⟨h0,b,h1,hk⟩
 ·rintro⟨h0,b,h1,hk⟩; exact⟨s,k,n,b,rfl,rfl,h0,h1,hk⟩
@[go_sem] theorem Ul (vs:List AV) (i:Nat) : eB (.tup vs) i K=∃ v,vs[i]?=some v∧K v:=by
 apply propext; unfold eB
 constructor
 ·rintro⟨cs',v,h,h1,hk⟩; cases h; exact⟨v,h1,hk⟩
 ·rintro⟨v,h1,hk⟩; exact⟨vs,v,rfl,h1,hk⟩
@[go_sem] theorem eH (v:AV) : kJ (some v) K=K v:=by
 apply propext; unfold kJ
 constructor
 ·rintro⟨v',h,hk⟩; cases h; exact hk
 ·intro hk; exact⟨v,rfl,hk⟩
@[go_sem] theorem nX (b o n:Nat) (c:Cap) : bL (.slc b o n c) K=K (N .i64 n):=by
 apply propext; unfold bL
 constructor
 ·rintro⟨n',h,hk⟩; cases h; exact hk
 ·intro hk; exact⟨n,rfl,hk⟩
@[go_sem] theorem afn (b:Nat) : bL (.emp b) K=K (N .i64 0):=by
 apply propext; unfold bL
 constructor
 ·rintro⟨n',h,hk⟩; cases h; exact hk
 ·intro hk; exact⟨0,rfl,hk⟩
@[go_sem] theorem Ld:bL (.sc (.slice none 0 0)) K=K (N .i64 0):=by
 apply propext; unfold bL
 constructor
 ·rintro⟨n',h,hk⟩; cases h; exact hk
 ·intro hk; exact⟨0,rfl,hk⟩
@[go_sem] theorem pE (s:List UInt8) : rA (St s) K=K (N .i64 s.length):=by
 apply propext; unfold rA
 constructor
 ·rintro⟨s',h,hk⟩; cases h; exact hk
 ·intro hk; exact⟨s,rfl,hk⟩
@[go_sem] theorem ahK (b o n c:Nat) : Dk (.slc b o n (.ex c)) K=K (N .i64 c):=by
 apply propext; unfold Dk
 constructor
 ·rintro⟨n',h,hk⟩; cases h; exact hk
 ·intro hk; exact⟨c,rfl,hk⟩
@[go_sem] theorem apv:Dk (.sc (.slice none 0 0)) K=K (N .i64 0):=by
 apply propext; unfold Dk
 constructor
 ·rintro⟨n',h,hk⟩; cases h; exact hk
 ·intro hk; exact⟨0,rfl,hk⟩
@[go_sem] theorem apD (s:List UInt8) : isStr (St s) K=K (St s):=by
 apply propext; unfold isStr
 constructor
 ·rintro⟨s',h,hk⟩; cases h; exact hk
 ·intro hk; exact⟨s,rfl,hk⟩
@[go_sem] theorem amU {x:AV} {s:List UInt8} (h:ZQ M x=some s) : Ww M x K=K (St s):=by
 apply propext; unfold Ww
 constructor
 ·rintro⟨s',h',hk⟩; rw[h] at h'; cases h'; exact hk
 ·intro hk; exact⟨s,h,hk⟩
theorem uS {op:BinOp} {a b:List UInt8} {v:AV} (h:FL op a b=some v) : jC op (St a) (St b) K=K v:=by
 apply propext; unfold jC
 constructor
 ·rintro⟨a',b',u,h1,h2,h3,hk⟩; cases h1; cases h2; rw[h] at h3; cases h3; exact hk
 ·intro hk; exact⟨a,b,v,rfl,rfl,h,hk⟩
@[go_sem] theorem FD (a b:List UInt8) : jC .eql (St a) (St b) K=K (Bo (a == b)):=by rw[← kg]; exact uS rfl
@[go_sem] theorem qE (a b:List UInt8) : jC .neq (St a) (St b) K=K (Bo (a != b)):=by rw[bne,← kg]; exact uS rfl
@[go_sem] theorem Le (a b:List UInt8) : jC .lss (St a) (St b) K=K (Bo (Op.bytesLess a b)):=uS rfl
@[go_sem] theorem afq (a b:List UInt8) : jC .leq (St a) (St b) K=K (Bo (Op.bytesLess a b || a == b)):=by rw[← kg]; exact uS rfl
@[go_sem] theorem adm (a b:List UInt8) : jC .gtr (St a) (St b) K=K (Bo (!(Op.bytesLess a b || a == b))):=by rw[← kg]; exact uS rfl
@[go_sem] theorem aqc (a b:List UInt8) : jC .geq (St a) (St b) K=K (Bo (!Op.bytesLess a b)):=uS rfl
@[go_sem] theorem aqr (a b:List UInt8) : jC .add (St a) (St b) K=(a.length + b.length≤9223372036854775807∧K (St (a++b))):=by
 apply propext; unfold jC
 constructor
 ·rintro⟨a',b',u,h1,h2,h3,hk⟩; cases h1; cases h2
  simp only[FL] at h3
  split at h3
  ·rename_i hb; cases h3; exact⟨bz hb,hk⟩
  ·cases h3
 ·rintro⟨h0,hk⟩; exact⟨a,b,_,rfl,rfl,by simp only[FL,bi.2 h0],hk⟩
theorem nO {neg:Bool} {tag:Nat} {x y:AV} {r:Bool} (ht:Sz x=tag) (h:Jb x y=some r) : kH neg tag x y K=K (Bo (r != neg)):=by
 apply propext; unfold kH
 constructor
 ·rintro⟨_,r',h',hk⟩; rw[h] at h'; cases h'; exact hk
 ·intro hk; exact⟨ht,r,h,hk⟩
@[go_sem] theorem Qd (neg:Bool) : kH neg 2 (.sc (.slice none 0 0)) (.sc (.slice none 0 0)) K=K (Bo (!neg)):=(nO (tag:=2) (r:=true) rfl rfl).trans (by cases neg <;> rfl)
@[go_sem] theorem Qw (neg:Bool) (b:Nat) : kH neg 2 (.emp b) (.sc (.slice none 0 0)) K=K (Bo neg):=(nO (tag:=2) (r:=false) rfl rfl).trans (by cases neg <;> rfl)
@[go_sem] theorem QP (neg:Bool) (b o n:Nat) (c:Cap) : kH neg 2 (.slc b o n c) (.sc (.slice none 0 0)) K=K (Bo neg):=(nO (tag:=2) (r:=false) rfl rfl).trans (by cases neg <;> rfl)
@[go_sem] theorem PR (neg:Bool) (b o:Nat) : kH neg 1 (.ptr b o) (.sc (.pointer none)) K=K (Bo neg):=(nO (tag:=1) (r:=false) rfl rfl).trans (by cases neg <;> rfl)
@[go_sem] theorem ags (neg:Bool) : kH neg 1 (.sc (.pointer none)) (.sc (.pointer none)) K=K (Bo (!neg)):=(nO (tag:=1) (r:=true) rfl rfl).trans (by cases neg <;> rfl)
@[go_sem] theorem agZ (neg:Bool) (b:Nat) : kH neg 3 (.map b) (.sc (.map none)) K=K (Bo neg):=(nO (tag:=3) (r:=false) rfl rfl).trans (by cases neg <;> rfl)
@[go_sem] theorem ah8 (neg:Bool) (f:Fn) (xs ys:List AV) : kH neg 4 (.fn f xs ys) (.sc .nilFunc) K=K (Bo neg):=(nO (tag:=4) (r:=false) rfl rfl).trans (by cases neg <;> rfl)
@[go_sem] theorem ZJ (neg:Bool) (ks:List Nat) (cs ds:List AV) : qc neg ks (.agg cs) (.agg ds) K=(cs.length=ks.length∧ds.length=ks.length∧∃ r,dG ks cs ds=some r∧K (Bo (r != neg))):=by
 apply propext; unfold qc
 constructor
 ·rintro⟨a',b',r,h1,h2,h3,h4,h5,hk⟩; cases h1; cases h2; exact⟨h3,h4,r,h5,hk⟩
 ·rintro⟨h3,h4,r,h5,hk⟩; exact⟨cs,ds,r,rfl,rfl,h3,h4,h5,hk⟩
@[go_sem] theorem aqK (C:FuncId→aj) (g:FuncId) (first cap args:List AV) : bT C (.fn (.func g) first cap) args M KQ=C g (first++args++cap) M KQ:=by
 apply propext; unfold bT
 constructor
 ·rintro⟨g',f',c',h,hk⟩; cases h; exact hk
 ·intro hk; exact⟨g,first,cap,rfl,hk⟩
@[go_sem] theorem qY (cs:List AV) (parts:List (Nat × Nat × AV)) : tO cs parts K=∃ cs',BX cs parts=some cs'∧K (.agg cs'):=rfl
@[go_sem] theorem bB (x:RB) (mk:Nat→AV) : cz x mk M KQ=KQ (mk M.next) (M.push x):=rfl
@[go_sem] theorem rU (x:RB) (mk:Nat→AV) (k:KR) : Bj x mk M k=k (mk M.next) (M.push x) (some M.next):=rfl
@[go_sem] theorem xJ (f:(List AV→RM→Prop)→Prop) (g:List AV→RM→Prop) : bV f g=f g:=rfl
@[go_sem] theorem aoB (x:AV) (xs:List AV) : aa (x :: xs) 0=x:=rfl
@[go_sem] theorem aoW (x:AV) (xs:List AV) (n:Nat) : aa (x :: xs) (n + 1)=aa xs n:=rfl
@[go_sem] theorem ZN (b:Nat) (x:RB) (mk:Nat→AV) (v:AV) : IP (some b) M x mk v=(M.heap b=some x∧mk b=v):=rfl
end
section
variable {M M' : RM}
theorem RM.Co {b:Nat} {l:List AV} {opn:Bool} {el fz:Nat} (h:M.heap b=some (.row l opn el fz)) : M.cells b=some l:=by simp[RM.cells,h]
theorem RM.ae4 {b o:Nat} {l:List AV} {opn:Bool} {el fz:Nat} (h:M.heap b=some (.row l opn el fz)) : M.cell b o=l[o]?:=by simp[RM.cell,RM.Co h]
theorem RM.dw {b o k:Nat} {l:List AV} {opn:Bool} {el fz:Nat} (h:M.heap b=some (.row l opn el fz)) (hk:o + k≤l.length) : M.loads b o k=some ((l.drop o).take k):=by
 simp[RM.loads,RM.Co h,hk]
theorem RM.EA {b o:Nat} {l vs:List AV} {opn:Bool} {el fz:Nat} (h:M.heap b=some (.row l opn el fz)) (h1:o + vs.length≤l.length) (h2:fz≤o) (h3:vs.all oneCell=true) :
  M.stores b o vs=some (M.put b (.row (l.take o++vs++l.drop (o + vs.length)) opn el fz)):=by
 simp only[RM.stores,h]
 rw[if_pos ⟨h1,h2,h3⟩]
structure ag (bs:List Nat) (M M' : RM) : Prop where
 base:M'.base=M.base
 next:M.next≤M'.next
 heap:∀ c,c<M.next→c ∉ bs→M'.heap c=M.heap c
theorem ag.refl (bs:List Nat) (M:RM) : ag bs M M:=⟨rfl,Nat.le_refl _,fun _ _ _=>rfl⟩
theorem ag.trans {bs:List Nat} {M1 M2:RM} (h:ag bs M M1) (k:ag bs M1 M2) : ag bs M M2 :=
 ⟨k.base.trans h.base,Nat.le_trans h.next k.next,fun c hc hb=>(k.heap c (Nat.lt_of_lt_of_le hc h.next) hb).trans (h.heap c hc hb)⟩
theorem ag.push {bs:List Nat} (h:ag bs M M') (x:RB) : ag bs M (M'.push x) :=
 ⟨h.base,Nat.le_succ_of_le h.next,fun c hc hb=>by
  have:=h.next
  simp only[RM.push]; rw[if_neg (by omega)]; exact h.heap c hc hb⟩
theorem ag.put {bs:List Nat} (h:ag bs M M') {b:Nat} (x:RB) (hb:M.next≤b∨b∈bs) : ag bs M (M'.put b x) :=
 ⟨h.base,h.next,fun c hc hcb=>by
  simp only[RM.put]; rw[if_neg]
  ·exact h.heap c hc hcb
  ·rintro rfl; rcases hb with hb | hb
   ·omega
   ·exact hcb hb⟩
theorem ag.del {bs:List Nat} (h:ag bs M M') {b:Nat} (hb:M.next≤b∨b∈bs) : ag bs M (M'.del b) :=
 ⟨h.base,h.next,fun c hc hcb=>by
  simp only[RM.del]; rw[if_neg]
  ·exact h.heap c hc hcb
  ·rintro rfl; rcases hb with hb | hb
   ·omega
   ·exact hcb hb⟩
theorem ag.mono {bs cs:List Nat} (h:ag bs M M') (hs:∀ b∈bs,b∈cs) : ag cs M M':=⟨h.base,h.next,fun c hc hb=>h.heap c hc fun h=>hb (hs c h)⟩
theorem ag.dK {bs:List Nat} {M1 M2:RM} {cs:List Nat} (h:ag bs M M1) (k:ag cs M1 M2) (hn:∀ c∈cs,M.next≤c∨c∈bs) : ag bs M M2 :=
 ⟨k.base.trans h.base,Nat.le_trans h.next k.next,fun c hc hb=>by
  rw[k.heap c (Nat.lt_of_lt_of_le hc h.next) (fun hm=>by rcases hn c hm with h1 | h1; omega; exact hb h1),h.heap c hc hb]⟩
theorem ag.cells {bs:List Nat} (h:ag bs M M') {b:Nat} (hlt:b<M.next) (hb:b ∉ bs) : M'.cells b=M.cells b:=by
 simp only[RM.cells,h.heap b hlt hb,RM.lo,h.base]
theorem ag.cell {bs:List Nat} (h:ag bs M M') {b o:Nat} (hlt:b<M.next) (hb:b ∉ bs) : M'.cell b o=M.cell b o:=by
 simp only[RM.cell,h.cells hlt hb]
theorem ag.loads {bs:List Nat} (h:ag bs M M') {b o k:Nat} (hlt:b<M.next) (hb:b ∉ bs) : M'.loads b o k=M.loads b o k:=by
 simp only[RM.loads,h.cells hlt hb]
@[go_sem] theorem RM.ao3 (x:RB) : (M.push x).next=M.next + 1:=rfl
@[go_sem] theorem RM.ao8 (b:Nat) (x:RB) : (M.put b x).next=M.next:=rfl
@[go_sem] theorem RM.aqJ (b:Nat) : (M.del b).next=M.next:=rfl
@[go_sem] theorem RM.aS (x:RB) : (M.push x).heap M.next=some x:=by simp[RM.push]
theorem RM.afx {x:RB} {c:Nat} (h:c≠M.next) : (M.push x).heap c=M.heap c:=by simp[RM.push,h]
@[go_sem] theorem RM.xm (b:Nat) (x:RB) : (M.put b x).heap b=some x:=by simp[RM.put]
end
abbrev bZ:AV:=.sc (.slice none 0 0)
inductive aL (M:RM) (size:Nat) : AV→List AV→Nat→Prop
 | nil:aL M size bZ [] 0
 | emp (b:Nat) : aL M size (.emp b) [] 0
 | slc (b o n:Nat) (cap:Cap) (cs:List AV) : b<M.next→M.loads b o (n * size)=some cs→aL M size (.slc b o n cap) cs n
section
variable {M M' : RM} {size:Nat} {v:AV} {cs:List AV} {n:Nat}
theorem Ii {b o k:Nat} {cs:List AV} (h:M.loads b o k=some cs) : cs.length=k:=by
 unfold RM.loads at h
 split at h <;> first | (cases h; done) | skip
 split at h <;> first | (cases h; done) | skip
 rename_i hle
 have:=Option.some.inj h
 rw[← this,List.length_take,List.length_drop]; omega
theorem abX {b o k:Nat} {cs:List AV} (h:M.loads b o k=some cs) (i:Nat) (hi:i<k) : M.cell b (o + i)=cs[i]?:=by
 unfold RM.loads at h
 unfold RM.cell
 split at h <;> first | (cases h; done) | skip
 rename_i l hl
 split at h <;> first | (cases h; done) | skip
 cases h
 simp only[hl,Option.bind_some]
 rw[List.getElem?_take,if_pos hi,List.getElem?_drop]
theorem yB {b o k:Nat} {cs:List AV} (h:M.loads b o k=some cs) (i j:Nat) (hij:i + j≤k) : M.loads b (o + i) j=some ((cs.drop i).take j):=by
 unfold RM.loads at h ⊢
 cases hl:M.cells b with
 | none=>rw[hl] at h; cases h
 | some l =>
   rw[hl] at h
   simp only at h ⊢
   split at h
   ·rename_i hle
    have h:=Option.some.inj h
    subst h
    rw[if_pos (by omega),List.drop_take,List.drop_drop,List.take_take]
    congr 2
    omega
   ·cases h
theorem NA {b o:Nat} {l:List AV} (h:M.cells b=some l) (ho:o≤l.length) : M.loads b o 0=some []:=by
 simp[RM.loads,h,ho]
theorem aL.length (h:aL M size v cs n) : cs.length=n * size:=by
 cases h with
 | nil=>exact(Nat.zero_mul _).symm
 | emp=>exact(Nat.zero_mul _).symm
 | slc b o n cap cs hb0 hl=>exact Ii hl
theorem aL.len (h:aL M size v cs n) {K:AV→Prop} : bL v K=K (N .i64 n):=by
 cases h with
 | nil=>exact Ld
 | emp b=>exact afn b
 | slc b o n cap cs hb0 hl=>exact nX b o n cap
theorem aL.oW (h:aL M size v cs n) (zs:List AV) : oW M size zs false v=some (n,cs):=by
 cases h with
 | nil=>rfl
 | emp b=>rfl
 | slc b o n cap cs hb0 hl=>simp only[Go.Ab.oW,hl]
theorem aL.pos (h:aL M size v cs n) (hn:0<n) : ∃ b o cap,v=.slc b o n cap∧b<M.next∧M.loads b o (n * size)=some cs:=by
 cases h with
 | nil=>omega
 | emp b=>omega
 | slc b o n cap cs hb0 hl=>exact⟨b,o,cap,rfl,hb0,hl⟩
def aH:AV→List Nat
 | .slc b _ _ _=>[b]
 | _=>[]
theorem aL.keep {bs:List Nat} (h:aL M size v cs n) (hk:ag bs M M') (hb:∀ b∈aH v,b ∉ bs) : aL M' size v cs n:=by
 cases h with
 | nil=>exact .nil
 | emp b=>exact .emp b
 | slc b o n cap cs hb0 hl =>
   exact .slc b o n cap cs (Nat.lt_of_lt_of_le hb0 hk.next) (by rw[hk.loads hb0 (hb b (by simp[aH]))]; exact hl)
inductive Own (M:RM) (base el size:Nat) : AV→List AV→Nat→Prop
 | nil:Own M base el size bZ [] 0
 | ex0 (b o:Nat) : base≤b→b<M.next→(∃ l,M.cells b=some l∧o≤l.length)→Own M base el size (.slc b o 0 (.ex 0)) [] 0
 | op (b n:Nat) (cs:List AV) : base≤b→b<M.next→M.heap b=some (.row cs true el 0)→cs.length=n * size→Own M base el size (.slc b 0 n (.op size)) cs n
theorem Own.jq {base el:Nat} (h:Own M base el size v cs n) : aL M size v cs n:=by
 cases h with
 | nil=>exact .nil
 | ex0 b o hb hlt hc =>
   obtain⟨l,hl,ho⟩:=hc
   exact .slc b o 0 _ [] hlt (by rw[Nat.zero_mul]; exact NA hl ho)
 | op b n cs hb hlt hh hl =>
   refine .slc b 0 n _ cs hlt ?_
   rw[RM.dw hh (by omega)]
   simp[← hl]
theorem Own.blk {base el:Nat} (h:Own M base el size v cs n) : ∀ b∈aH v,base≤b∧b<M.next:=by
 cases h with
 | nil=>intro b hb; simp[aH] at hb
 | ex0 b o hb hlt hc=>intro c hc; simp[aH] at hc; subst hc; exact⟨hb,hlt⟩
 | op b n cs hb hlt hh hl=>intro c hc; simp[aH] at hc; subst hc; exact⟨hb,hlt⟩
theorem Own.keep {base el:Nat} {bs:List Nat} (h:Own M base el size v cs n) (hk:ag bs M M') (hb:∀ b∈aH v,b ∉ bs) : Own M' base el size v cs n:=by
 cases h with
 | nil=>exact .nil
 | ex0 b o h1 hlt hc=>exact .ex0 b o h1 (Nat.lt_of_lt_of_le hlt hk.next) (by rw[hk.cells hlt (hb b (by simp[aH]))]; exact hc)
 | op b n cs h1 hlt hh hl=>exact .op b n cs h1 (Nat.lt_of_lt_of_le hlt hk.next) (by rw[hk.heap b hlt (hb b (by simp[aH]))]; exact hh) hl
theorem Own.mono {base base' el:Nat} (h:Own M base el size v cs n) (hb:base'≤base) : Own M base' el size v cs n:=by
 cases h with
 | nil=>exact .nil
 | ex0 b o h1 hlt hc=>exact .ex0 b o (Nat.le_trans hb h1) hlt hc
 | op b n cs h1 hlt hh hl=>exact .op b n cs (Nat.le_trans hb h1) hlt hh hl
theorem z8 {base el bytes:Nat} {zs:List AV} {zeros:Bool} {x:AV} {m:Nat} {ds:List AV} {K:ak} (h:Own M base el size v cs n) (hbase:base≤M.next) (hs:1≤size) (hx:oW M size zs zeros x=some (m,ds)) (hd:ds.length=m * size)
  (h1:ds.all oneCell=true) (hb:(n + m) * bytes≤140737488355328) (hb2:n + m≤140737488355328)
  (hK:∀ v' M',Own M' base el size v' (cs++ds) (n + m)→ag (aH v) M M'→M.next≤M'.next→(v'=v∨∀ b∈aH v',M.next≤b)→K v' M') : appW el size bytes zs zeros v x M K:=by
 have hmb:m * bytes≤140737488355328:=Nat.le_trans (Nat.mul_le_mul_right _ (by omega)) hb
 refine⟨m,ds,hx,hmb,by omega, ?_⟩
 cases h with
 | nil =>
   by_cases hm:m=0
   ·subst hm
    have:ds=[]:=List.eq_nil_of_length_eq_zero (by simpa using hd)
    subst this
    exact⟨bZ,M,by simp[uJ],hK _ _ .nil (ag.refl _ _) (Nat.le_refl _) (.inl rfl)⟩
   ·refine⟨.slc M.next 0 m (.op size),M.push (.row ds true el 0),by simp only[uJ,if_neg hm,h1,if_true],hK _ _ ?_ ((ag.refl _ _).push _) (by simp[RM.push]) (.inr fun b hb=>by simp[aH] at hb; omega)⟩
    simp only[List.nil_append,Nat.zero_add]
    exact .op _ _ _ hbase (by simp[RM.push]) (RM.aS _) hd
 | ex0 b o hb0 hlt hc =>
   obtain⟨l,hl,ho⟩:=hc
   by_cases hm:m=0
   ·subst hm
    have:ds=[]:=List.eq_nil_of_length_eq_zero (by simpa using hd)
    subst this
    exact⟨_,M,by simp[uJ],hK _ _ (.ex0 b o hb0 hlt ⟨l,hl,ho⟩) (ag.refl _ _) (Nat.le_refl _) (.inl rfl)⟩
   ·refine⟨.slc M.next 0 m (.op size),M.push (.row ds true el 0), ?_,hK _ _ ?_ ((ag.refl _ _).push _) (by simp[RM.push]) (.inr fun b hb=>by simp[aH] at hb; omega)⟩
    ·have hl0:M.loads b o (0 * size)=some []:=by rw[Nat.zero_mul]; exact NA hl ho
     simp only[uJ,if_neg hm]
     rw[if_neg (by omega),hl0]
     simp only[Nat.zero_add,List.nil_append]
     rw[if_pos ⟨hmb,by omega,h1⟩]
    ·simp only[List.nil_append,Nat.zero_add]
     exact .op _ _ _ hbase (by simp[RM.push]) (RM.aS _) hd
 | op b n cs hb0 hlt hh hl =>
   by_cases hm:m=0
   ·subst hm
    have:ds=[]:=List.eq_nil_of_length_eq_zero (by simpa using hd)
    subst this
    exact⟨_,M,by simp[uJ],hK _ _ (by simpa using .op b n cs hb0 hlt hh hl) (ag.refl _ _) (Nat.le_refl _) (.inl rfl)⟩
   ·have hpos:1≤m * size:=Nat.mul_pos (by omega) hs
    have hsum:(n + m) * size=n * size + m * size:=Nat.add_mul _ _ _
    refine⟨.slc M.next 0 (n + m) (.op size),(M.del b).push (.row (cs++ds) true el 0), ?_,hK _ _ ?_ (((ag.refl _ _).del (.inr (by simp[aH]))).push _) (by simp[RM.push,RM.del]) (.inr fun b hb=>by simp[aH] at hb; omega)⟩
    ·simp only[uJ,if_neg hm,hh,and_self,if_true]
     rw[if_neg (by omega),if_pos ⟨trivial,hb,hb2,trivial,hl,Nat.zero_le _,h1⟩]
    ·exact .op _ _ _ (show base≤M.next from hbase) (by simp[RM.push,RM.del]) (by simp[RM.push,RM.del]) (by rw[List.length_append,hl,hd,hsum])
theorem aL.Jb (h:aL M size v cs n) (neg:Bool) : (v=bZ∧∀ K:AV→Prop,kH neg 2 v bZ K=K (Bo (!neg)))∨(v≠bZ∧∀ K:AV→Prop,kH neg 2 v bZ K=K (Bo neg)):=by
 cases h with
 | nil=>exact .inl ⟨rfl,fun _=>Qd neg⟩
 | emp b=>exact .inr ⟨by(intro h; cases h),fun _=>Qw neg b⟩
 | slc b o n cap cs hb0 hl=>exact .inr ⟨by(intro h; cases h),fun _=>QP neg b o n cap⟩
theorem Own.lit {base el T:Nat} (M:RM) (h:base≤M.next) : Own (M.push (.row [] false T 0)) base el size (.slc M.next 0 0 (.ex 0)) [] 0 :=
 .ex0 _ _ h (by simp[RM.push]) ⟨[],by simp[RM.cells,RM.push],Nat.le_refl _⟩
end
end Go.Ab
set_option maxRecDepth 4000
namespace Go.Ab
open Go
theorem wrap_u8 (n:Nat) : IntKind.wrap .u8 (n:Int)=((n % 256:Nat) : Int):=by
 simp only[IntKind.wrap,IntKind.bits,IntKind.signed,IntKind.max,IntKind.min]
 simp
theorem wrap_u64 (n:Nat) : IntKind.wrap .u64 (n:Int)=((n % 18446744073709551616:Nat) : Int):=by
 simp only[IntKind.wrap,IntKind.bits,IntKind.signed,IntKind.max,IntKind.min]
 simp
theorem abg {n:Int} (h0:0≤n) (h:n<256) : IntKind.wrap .u8 n=n:=by
 obtain⟨m,rfl⟩:=Int.eq_ofNat_of_zero_le h0
 rw[wrap_u8,Nat.mod_eq_of_lt (by omega)]
theorem je {n:Int} (h0:0≤n) (h:n<18446744073709551616) : IntKind.wrap .u64 n=n:=by
 obtain⟨m,rfl⟩:=Int.eq_ofNat_of_zero_le h0
 rw[wrap_u64,Nat.mod_eq_of_lt (by omega)]
theorem aW {n:Int} (h0 : -9223372036854775808≤n) (h:n<9223372036854775808) : IntKind.wrap .i64 n=n:=by
 rw[IntKind.wrap_i64]; omega
theorem aho (k:Nat) (a b:Nat) : (BitVec.ofInt k (a:Int) &&& BitVec.ofInt k (b:Int)).toNat=(a &&& b) % 2 ^ k:=by
 rw[BitVec.toNat_and,BitVec.ofInt_natCast,BitVec.ofInt_natCast,BitVec.toNat_ofNat,BitVec.toNat_ofNat,← Nat.and_mod_two_pow]
theorem agU (k:Nat) (a b:Nat) : (BitVec.ofInt k (a:Int) ^^^ BitVec.ofInt k (b:Int)).toNat=(a ^^^ b) % 2 ^ k:=by
 rw[BitVec.toNat_xor,BitVec.ofInt_natCast,BitVec.ofInt_natCast,BitVec.toNat_ofNat,BitVec.toNat_ofNat,← Nat.xor_mod_two_pow]
theorem aeM (a b:Nat) : ((a:Int).fdiv (b:Int))=((a / b:Nat) : Int):=by
 rw[Int.fdiv_eq_ediv_of_nonneg _ (by omega)]; rfl
def zx:IntKind→Nat
 | .u8=>8 | .u16=>16 | .u32=>32 | _=>64
def Fy:IntKind→Bool
 | .u8 | .u16 | .u32 | .u64=>true
 | _=>false
theorem LX {k:IntKind} (h:Fy k=true) (n:Nat) : k.wrap (n:Int)=((n % 2 ^ zx k:Nat) : Int):=by
 cases k <;> simp[Fy] at h <;> (simp only[IntKind.wrap,IntKind.bits,IntKind.signed,zx]; simp)
theorem WQ (k:IntKind) (h:Fy k=true) : k.bits=zx k:=by cases k <;> simp[Fy] at h <;> rfl
theorem Li {k:IntKind} (h:Fy k=true) (a b:Nat) : afL k a b=(((a &&& b) % 2 ^ zx k:Nat) : Int):=by
 unfold afL
 rw[aho,LX h,WQ k h,Nat.mod_mod]
theorem ads {k:IntKind} (h:Fy k=true) (a b:Nat) : abj k a b=(((a ^^^ b) % 2 ^ zx k:Nat) : Int):=by
 unfold abj
 rw[agU,LX h,WQ k h,Nat.mod_mod]
theorem KH (k:IntKind) (a b:Nat) (hb:b≤k.bits) : Vs k a b=((a / 2 ^ b:Nat) : Int):=by
 unfold Vs
 rw[Int.toNat_natCast,Nat.min_eq_left hb,← aeM,Int.natCast_pow]; rfl
theorem UY {k:IntKind} (h:Fy k=true) (a b:Nat) (hb:b≤k.bits) : ZT k a b=((a * 2 ^ b % 2 ^ zx k:Nat) : Int):=by
 unfold ZT
 rw[Int.toNat_natCast,Nat.min_eq_left hb,← LX h,Int.natCast_mul,Int.natCast_pow]
 rfl
end Go.Ab
namespace Go.Ab.aD
open Go Go.Ab
theorem Ra {T size bytes:Nat} {zs:List AV} {M0:RM} {a0:AV} {cs:List AV} {n:Nat} (h:aL M0 size a0 cs n) (h1:cs.all oneCell=true) (hs:1≤size) (hn:n * bytes≤140737488355328) (hn2:n≤140737488355328) {Q:ak}
  (hQ:∀ v M',Own M' M0.next T size v cs n→ag [] M0 M'→Q v M') :
  kH false 2 a0 bZ fun t4=>av t4 (Q bZ M0) (fV T 0 zs [] fun r f=>cz r f M0 fun t5 M=>appW T size bytes zs false t5 a0 M fun t7 M_0=>Q t7 M_0):=by
 rcases h.Jb false with⟨rfl,e⟩ | ⟨hne,e⟩
 ·rw[e]
  cases h
  exact⟨fun _=>hQ _ _ .nil (ag.refl _ _),fun h=>by simp at h⟩
 ·rw[e]
  refine⟨fun h=>by simp at h,fun _=>⟨[],rfl, ?_⟩⟩
  have hk:ag [] M0 (M0.push (.row [] false T 0)):=(ag.refl _ _).push _
  refine z8 (base:=M0.next) (Own.lit M0 (Nat.le_refl _)) (by simp[RM.push]) hs ((h.keep hk (by simp)).oW _) h.length h1 (by rw[Nat.zero_add]; exact hn) (by omega) ?_
  intro v' M' ho hk' hnx hv
  exact hQ v' M' (by simpa using ho) (hk.dK hk' (by simp[aH]))
def acU (T size bytes:Nat) (c:aj) : Prop:=∀ {M0:RM} {a0:AV} {cs:List AV} {n:Nat},aL M0 size a0 cs n→cs.all oneCell=true→n * bytes≤140737488355328→n≤140737488355328→∀ {Q:ak},
 (∀ v M',Own M' M0.next T size v cs n→ag [] M0 M'→Q v M')→c [a0] M0 Q
def Oy (v:Nat) : List UInt8:=if v<128 then[UInt8.ofNat v] else UInt8.ofNat (v % 128 + 128) :: Oy (v / 128)
 termination_by v
 decreasing_by omega
abbrev TR (l:List UInt8) : List AV:=l.map fun b=>N .u8 b.toNat
end Go.Ab.aD
namespace Go.Ab
open Go Go.RowKit
section
variable {P:Program}
theorem dU.opened {ρ:Ren} {M:RM} {w:World} {b n:Nat} {l:List AV} {el:Nat} {u:Value} (hw:dU P ρ M w) (hh:M.heap b=some (.row l true el 0)) (hl:l.length=n) (hv:ax ρ (.slc b 0 n (.op 1)) u) :
  ∃ c,n≤c∧ax ρ (.slc b 0 n (.ex c)) u∧dU P ρ (M.put b (.row (l++List.replicate (c - n) .top) true el 0)) w:=by
 obtain⟨A,hA⟩:=hw
 obtain⟨k,i,hb,hp,he,hk,rfl⟩:=Aj hv
 rcases hA.blk b _ hh with⟨y,hy,hle⟩ | ⟨_,e0,_⟩
 ·cases y <;> first | exact hle.elim | skip
  rename_i nn tree zs opn elem fz
  obtain⟨r1,rfl,rfl,rfl,r5⟩:=hle
  obtain⟨ob,hob,cs,fr,rfl,hrow⟩:=hA.rel.blk b i _ hb hy
  obtain⟨h0,hcs,hels⟩:=hrow.opn rfl
  have hk0:k=0:=by
   rcases Nat.eq_zero_or_pos k with e | e
   ·exact e
   ·have:0<k * i.esz:=Nat.mul_pos e h0
    omega
  subst hk0
  have hsh:=hrow.sh0
  rw[← he,Nat.mul_one,hsh,Nat.zero_add] at hcs
  refine⟨i.fq,by omega, ?_,⟨{ A with heap:=A.heap.set b (.row i.fq (Tree.ofList (l++List.replicate (i.fq - n) .top) 0 .leaf) [] true elem 0) },hA.next,⟨hA.rel.dom,fun b' i' x hb' hx=>?_,fun b1 b2 i1 i2 x1 x2 p1 p2 g1 g2 e=>?_,fun b' x hx=>?_,fun b' i' x hb' hx=>?_,hA.rel.inv⟩,hA.size,fun c x hx=>?_,hA.old⟩⟩
  ·have:=ax.iQ (ρ:=ρ) b 0 n i.fq i hb
   rw[Nat.zero_mul] at *
   simpa using this
  ·simp only[Tree.bF] at hx
   by_cases e:b'=b
   ·subst e
    rw[if_pos rfl] at hx
    cases hx
    rw[hb] at hb'; cases hb'
    refine⟨_,hob,cs,fr,rfl,⟨by rw[hsh]; omega,fun j x hj=>?_,fun j h1 h2=>hrow.free j h1 h2,hrow.mark,fun _=>⟨h0,by rw[hsh,← he]; omega,hels⟩,hsh⟩⟩
    obtain⟨hjlt,hj2⟩:=lU hj
    rw[Tree.lS] at hj2
    split at hj2
    ·rename_i hlt
     rw[Nat.sub_zero] at hj2
     by_cases hjl:j<l.length
     ·rw[List.getElem?_append_left hjl] at hj2
      exact hrow.val j x (r5 j x hj2)
     ·rw[List.getElem?_append_right (by omega),List.getElem?_replicate] at hj2
      split at hj2
      ·cases hj2
       exact⟨cs[j]'(by omega),by rw[hsh,Nat.zero_add]; simp,.top _⟩
      ·cases hj2
    ·simp[Tree.get] at hj2
   ·rw[if_neg e] at hx
    exact hA.rel.blk b' i' x hb' hx
  ·have q:∀ {b1 x1},(A.heap.set b (dz.row i.fq (Tree.ofList (l++List.replicate (i.fq - n) .top) 0 .leaf) [] true elem 0)).get b1=some x1→∃ y,A.heap.get b1=some y:=by
    intro b1 x1 h
    rw[Tree.bF] at h
    by_cases e:b1=b
    ·subst e; exact⟨_,hy⟩
    ·rw[if_neg e] at h; exact⟨_,h⟩
   obtain⟨y1,e1⟩:=q g1
   obtain⟨y2,e2⟩:=q g2
   exact hA.rel.sep _ _ _ _ _ _ p1 p2 e1 e2 e
  ·simp only[Tree.bF] at hx
   by_cases e:b'=b
   ·subst e; exact hA.rel.top _ _ hy
   ·rw[if_neg e] at hx; exact hA.rel.top _ _ hx
  ·simp only[Tree.bF] at hx
   by_cases e:b'=b
   ·subst e; exact hA.rel.lo _ _ _ hb' hy
   ·rw[if_neg e] at hx; exact hA.rel.lo _ _ _ hb' hx
  ·simp only[RM.put] at hx
   simp only[Tree.bF]
   by_cases e:c=b
   ·subst e
    rw[if_pos rfl] at hx ⊢
    cases hx
    refine .inl ⟨_,rfl,by simp; omega,rfl,rfl,rfl,fun j v hj=>?_⟩
    have hjl:=(List.getElem?_eq_some_iff.1 hj).1
    exact yl (by simp at hjl; omega) (by rw[Tree.lS,if_pos (by omega)]; simpa using hj)
   ·rw[if_neg e] at hx ⊢
    exact hA.blk c x hx
 ·cases e0
theorem iV.ae8 {f:FuncId} {b n:Nat} {l:List AV} {el:Nat} {rest:List AV} {M:RM} {Q:ak} (hP:Jr P f) (hh:M.heap b=some (.row l true el 0)) (hl:l.length=n)
  (h:∀ c,n≤c→iV P f (.slc b 0 n (.ex c) :: rest) (M.put b (.row (l++List.replicate (c - n) .top) true el 0)) Q) : iV P f (.slc b 0 n (.op 1) :: rest) M Q:=by
 refine⟨hP,fun ρ w us hargs hw=>?_⟩
 cases hargs with
 | cons _ u _ us hv hr =>
 obtain⟨c,hc,hv',hw'⟩:=hw.opened hh hl hv
 refine((h c hc).2 ρ w (u :: us) (.cons _ _ _ _ hv' hr) hw').mono fun e w' hR=>?_
 obtain⟨v',v,M',ρ',rfl,k1,k2,k3⟩:=hR
 exact⟨v',v,M',ρ',rfl,⟨k1.step,k1.rel,k1.base,k1.next⟩,k2,k3⟩
end
def RM.old (base:Base) (w:World) : RM where
 next:=base.n
 heap:=fun b=>if b<base.n then(match w.heap[b]? with | some (.cells c _ _)=>some (.ro c) | _=>none) else none
 base:=base
def Ti (n:Nat) : Ren:=fun b=>if b<n then some ⟨b,0,0,0⟩ else none
theorem ae2 {P:Program} {base:Base} {w:World} (hn:base.n=w.heap.size) (hi:base.inv w) : dU P (Ti base.n) (RM.old base w) w:=by
 refine⟨{ next:=base.n,heap:=.leaf },rfl,⟨fun b i h=>?_,fun b i x _ h=>by simp[Tree.get] at h,fun b _ i _ x _ _ _ h=>by simp[Tree.get] at h,fun b x h=>by simp[Tree.get] at h,fun b i x _ h=>by simp[Tree.get] at h,hi⟩,by simp[RM.old,RM.lo,hn],fun b x h=>.inr ?_,fun c hc=>by have hc' : c<base.n:=hc; simp only[Ti]; rw[if_pos hc']⟩
 ·simp only[Ti] at h
  split at h <;> first | (cases h; done) | skip
  cases h
  exact⟨by assumption,by rw[← hn]; assumption⟩
 ·simp only[RM.old] at h
  split at h <;> first | (cases h; done) | skip
  rename_i hlt
  split at h <;> first | (cases h; done) | skip
  rename_i c el fr hh
  cases h
  exact⟨c,rfl,hlt,el,fr,hh⟩
theorem RM.acB {base:Base} {w:World} {b:Nat} {c:Array Value} {el:TypeId} {fr:_} (hb:b<base.n) (h:w.heap[b]?=some (.cells c el fr)) : (RM.old base w).cells b=some (c.toList.map (uD base.n)):=by
 simp only[RM.cells,RM.old,if_pos hb,h]
def Eb (lo:Nat) : Value→AV
 | .agg cs=>.agg (cs.toList.map (uD lo))
 | v=>uD lo v
theorem Uu {ρ:Ren} {lo:Nat} (h:∀ c,c<lo→ρ c=some ⟨c,0,0,0⟩) : ∀ (vs:List Value),bg ρ (vs.map (uD lo)) vs
 | []=>.nil
 | v :: vs=>.cons _ _ _ _ (KU h v) (Uu h vs)
theorem adx {ρ:Ren} {lo:Nat} (h:∀ c,c<lo→ρ c=some ⟨c,0,0,0⟩) (v:Value) : ax ρ (Eb lo v) v:=by
 unfold Eb
 split
 ·exact .agg _ _ (Uu h _)
 ·exact KU h v
theorem RD {ρ:Ren} {lo:Nat} (h:∀ c,c<lo→ρ c=some ⟨c,0,0,0⟩) : ∀ (vs:List Value),bg ρ (vs.map (Eb lo)) vs
 | []=>.nil
 | v :: vs=>.cons _ _ _ _ (adx h v) (RD h vs)
theorem iV.close {P:Program} {f:FuncId} {base:Base} {w:World} {us:Array Value} (hn:base.n=w.heap.size) (hi:base.inv w)
  (h:iV P f (us.toList.map (Eb base.n)) (RM.old base w) fun v _=>v=Bo true) :
  Calls P f us w fun e w'=>e=.returned (.bool true)∧Below w.heap.size w w':=by
 have hr:=ae2 (P:=P) hn hi
 refine((h.2 (Ti base.n) w us.toList (RD (fun c hc=>by simp only[Ti]; rw[if_pos hc]) _) hr)).mono fun e w' hR=>?_
 obtain⟨v',v,M',ρ',rfl,k1,k2,rfl⟩:=hR
 obtain⟨rfl,_⟩:=aV k2
 refine⟨rfl,k1.step.os,k1.step.tape,k1.step.output,k1.step.size,fun k hk=>k1.step.low k ?_⟩
 show k<base.n
 rw[hn]; exact hk
def Ha:Option TypeDesc→Bool
 | some .bool | some (.int _) | some .string | some (.slice _) | some (.struct _) | some (.array _ _)=>false
 | _=>true
inductive Fits (P:Program) (M:RM) : TypeId→List AV→Prop
 | bool (t:TypeId) (b:Bool) : P.underlying t=some .bool→Fits P M t [Bo b]
 | int (t:TypeId) (k:IntKind) (n:Int) : P.underlying t=some (.int k)→k.min≤n→n≤k.max→Fits P M t [N k n]
 | str (t:TypeId) (s:List UInt8) : P.underlying t=some .string→s.length≤reachBytes→Fits P M t [St s]
 | ajb (t e:TypeId) : P.underlying t=some (.slice e)→Fits P M t [bZ]
 | emp (t e:TypeId) (b:Nat) : P.underlying t=some (.slice e)→Fits P M t [.emp b]
 | slc (t e:TypeId) (b o n c:Nat) (cs:List AV) : P.underlying t=some (.slice e)→b<M.next→n≤c→c * P.bytesOf e≤reachBytes→M.loads b o (n * P.cellsOf e)=some cs →
   (∀ i,i<n→Fits P M e ((cs.drop (i * P.cellsOf e)).take (P.cellsOf e)))→Fits P M t [.slc b o n (.ex c)]
 | struct (t:TypeId) (fs:Array Field) (cs:List AV) : P.underlying t=some (.struct fs)→cs.length=P.cellsOf t →
   (∀ (i:Nat) (f:Field),fs[i]?=some f→Fits P M f.type ((cs.drop f.offset).take (P.cellsOf f.type)))→Fits P M t cs
 | array (t e:TypeId) (n:Nat) (cs:List AV) : P.underlying t=some (.array n e)→cs.length=P.cellsOf t →
   (∀ i,i<n→Fits P M e ((cs.drop (i * P.cellsOf e)).take (P.cellsOf e)))→Fits P M t cs
 | other (t:TypeId) (cs:List AV) : Ha (P.underlying t)=true→Fits P M t cs
 | zero (t e:TypeId) (cs:List AV) : P.underlying t=some (.slice e)→P.cellsOf e=0→Fits P M t cs
theorem Gp (a:Addr) : a.add 0=a:=by simp[Addr.add]
theorem zQ {w:World} {base:Nat} {a:Addr} {n:Nat} {cs:List Value} (h:w.cells? base a n=some cs) : cs.length=n∧∀ i,i<n→w.cell? (a.add i)=cs[i]?:=by
 unfold World.cells? at h
 split at h
 ·exact⟨by simpa using mapM_some_length h,fun i hi=>mapM_some_get h i i (by simp[hi])⟩
 ·cases h
theorem cell?_at {w:World} {a:Addr} {v:Value} (h:w.cell? a=some v) : ∃ c el fr,w.heap[a.block]?=some (.cells c el fr)∧a.spot=none∧a.off<c.size∧c[a.off]?=some v:=by
 unfold World.cell? at h
 split at h
 ·rename_i c el fr hh
  split at h
  ·cases h
  ·rename_i hs
   exact⟨c,el,fr,hh,by simpa using hs,(Array.getElem?_eq_some_iff.1 h).1,h⟩
 ·cases h
section
variable {H:Type} {enc:TypeId × Value→H} {P:Program} {base:Base} {w:World}
theorem xc {e:TypeId} {ds:List (DataW H)} {d:DataW H} (hd:d∈ds) {x:Nat} (hx:x∈d.weights P e) : x∈DataW.weightsAll P e ds:=by
 induction ds with
 | nil=>cases hd
 | cons y ys ih =>
   simp only[DataW.weightsAll,List.mem_append]
   rcases List.mem_cons.1 hd with rfl | hd
   ·exact .inl hx
   ·exact .inr (ih hd)
theorem Ck {x:Nat} : ∀ (ts:List TypeId) (ds:List (DataW H)) (i:Nat) (t:TypeId) (d:DataW H),ts[i]?=some t→ds[i]?=some d→x∈d.weights P t→x∈DataW.weightsEach P ts ds
 | [],_,_,_,_,h,_,_=>by simp at h
 | _ :: _,[],_,_,_,_,h,_=>by simp at h
 | t :: ts,d :: ds,0,t',d',h,h',hx=>by
   simp at h h'; subst h h'
   simp only[DataW.weightsEach,List.mem_append]; exact .inl hx
 | t :: ts,d :: ds,i + 1,t',d',h,h',hx=>by
   simp only[DataW.weightsEach,List.mem_append]
   exact .inr (Ck ts ds i t' d' (by simpa using h) (by simpa using h') hx)
theorem Vh (hn:base.n=w.heap.size) {held:Bool} : ∀ (fuel:Nat) (t:TypeId) (cs:List Value) (x:DataW H × List MemPlace),DataW.trod enc P w 0 (fun _=>true) held fuel t cs=some x →
  (∀ y∈x.1.weights P t,y≤reachBytes)→Fits P (RM.old base w) t (cs.map (uD base.n)):=by
 intro fuel
 induction fuel with
 | zero=>intro t cs x h; simp[DataW.trod] at h
 | succ m ih =>
   intro t cs x h hw
   cases hu:P.underlying t with
   | none=>exact .other _ _ (by rw[hu]; rfl)
   | some d =>
     cases d with
     | bool =>
       obtain⟨b,rfl,rfl⟩:=DataW.trod_bool hu h
       exact .bool t b hu
     | int k =>
       obtain⟨n,rfl,rfl,hwf⟩:=DataW.trod_int hu h
       simp only[Lit.wf,Bool.and_eq_true,decide_eq_true_eq] at hwf
       exact .int t k n hu hwf.1 hwf.2
     | string =>
       obtain⟨s,rfl,rfl,_⟩:=DataW.trod_string hu h
       exact .str t s.data.toList hu (hw _ (by simp[DataW.weights]))
     | slice e =>
       rcases DataW.trod_slice hu h with⟨rfl,rfl⟩ | ⟨a,len,cap,elems,rest,n,hm,rfl,rfl,_,hlc,_,hel,hget,hrest,_⟩
       ·exact .ajb t e hu
       ·cases hm
        rcases Nat.eq_zero_or_pos (P.cellsOf e) with hz | hz
        ·exact .zero t e _ hu hz
        rcases Nat.eq_zero_or_pos cap with hc | hc
        ·have hl0:len=0:=by omega
         subst hc hl0
         exact .emp t e 0 hu
        ·obtain⟨hr1,hr2⟩:=hrest rfl
         have every:∀ i,i<cap→∃ es y,w.cells? 0 (a.add (i * P.cellsOf e)) (P.cellsOf e)=some es∧DataW.trod enc P w 0 (fun _=>true) held m e es=some y∧(y∈elems∨y∈rest):=by
          intro i hi
          by_cases hil:i<len
          ·have h1:=hget i hil
           have h2:elems[i]?=some (elems[i]'(by omega)):=by simp[hel,hil]
           rw[h2] at h1
           obtain⟨es,e1,e2⟩:=Option.bind_eq_some_iff.1 h1
           exact⟨es,_,e1,e2,.inl (List.getElem_mem _)⟩
          ·have h1:=hr2 (i - len) (by omega)
           rw[show len + (i - len)=i by omega] at h1
           have h2:rest[i - len]?=some (rest[i - len]'(by omega)):=by
            rw[List.getElem?_eq_getElem]
           rw[h2] at h1
           obtain⟨es,e1,e2⟩:=Option.bind_eq_some_iff.1 h1
           exact⟨es,_,e1,e2,.inr (List.getElem_mem _)⟩
         obtain⟨es0,_,k0,_,_⟩:=every 0 hc
         obtain⟨kl0,kg0⟩:=zQ k0
         have hc0:=kg0 0 hz
         rw[List.getElem?_eq_getElem (by omega)] at hc0
         obtain⟨c,el,fr,hh,hsp,_,_⟩:=cell?_at hc0
         obtain⟨b,o,sp⟩:=a
         rw[Nat.zero_mul,Gp,Gp] at hh hsp
         simp only at hh hsp
         subst hsp
         have hblt:b<base.n:=by rw[hn]; exact(Array.getElem?_eq_some_iff.1 hh).1
         have hlast:o + cap * P.cellsOf e≤c.size:=by
          obtain⟨es1,_,k1,_,_⟩:=every (cap - 1) (by omega)
          obtain⟨kl1,kg1⟩:=zQ k1
          have hc1:=kg1 (P.cellsOf e - 1) (by omega)
          rw[List.getElem?_eq_getElem (by omega)] at hc1
          obtain⟨c',el',fr',hh',_,hlt,_⟩:=cell?_at hc1
          rw[fu,fu] at hh' hlt
          simp only at hh' hlt
          rw[hh] at hh'
          cases hh'
          have:cap * P.cellsOf e=(cap - 1) * P.cellsOf e + P.cellsOf e:=by
           rw[← Nat.succ_mul]; congr 1; omega
          omega
         have ap1:uD base.n (.slice (some ⟨b,o,none⟩) len cap)=.slc b o len (.ex cap):=by
          obtain⟨cap,rfl⟩ : ∃ k,cap=k + 1:=⟨cap - 1,by omega⟩
          simp only[uD,if_pos hblt]
         have hcells:=RM.acB hblt hh
         have hle:len * P.cellsOf e≤cap * P.cellsOf e:=Nat.mul_le_mul_right _ hlc
         have hload:(RM.old base w).loads b o (len * P.cellsOf e)=some (((c.toList.map (uD base.n)).drop o).take (len * P.cellsOf e)):=by
          simp only[RM.loads,hcells]
          rw[if_pos (by simp; omega)]
         simp only[List.map_cons,List.map_nil,ap1]
         refine .slc t e b o len cap _ hu hblt hlc ?_ hload fun i hi=>?_
         ·have:=hw ((elems.length + rest.length) * P.bytesOf e) (by simp[DataW.weights,hu])
          rwa [hel,hr1,show len + (cap - len)=cap by omega] at this
         ·obtain⟨es,y,k1,k2,k3⟩:=every i (by omega)
          have hlen:=(zQ k1).1
          have hes:((((c.toList.map (uD base.n)).drop o).take (len * P.cellsOf e)).drop (i * P.cellsOf e)).take (P.cellsOf e)=es.map (uD base.n):=by
           have hii:i * P.cellsOf e + P.cellsOf e≤len * P.cellsOf e:=by rw[← Nat.succ_mul]; exact Nat.mul_le_mul_right _ hi
           apply List.ext_getElem?
           intro j
           by_cases hj:j<P.cellsOf e
           ·have hg:=(zQ k1).2 j hj
            rw[List.getElem?_take,if_pos hj,List.getElem?_drop,List.getElem?_take,if_pos (by omega),List.getElem?_drop,List.getElem?_map,List.getElem?_map,← hg]
            rw[fu,fu]
            simp only[World.cell?,hh]
            rw[Array.getElem?_toList]
            simp[Nat.add_assoc]
           ·rw[List.getElem?_eq_none (by simp; omega),List.getElem?_eq_none (by simp; omega)]
          rw[hes]
          refine ih e es y k2 fun z hz=>hw z ?_
          simp only[DataW.weights,hu,List.mem_cons,List.mem_append]
          rcases k3 with k3 | k3
          ·exact .inr (.inl (xc (List.mem_map_of_mem k3) hz))
          ·exact .inr (.inr (xc (List.mem_map_of_mem k3) hz))
     | struct fs =>
       obtain⟨xs,n,hm,rfl,hl,hxl,hget⟩:=DataW.trod_struct hu h
       cases hm
       refine .struct t fs _ hu (by simpa using hl) fun i f hf=>?_
       have h1:=hget i f hf
       have hi:i<fs.size:=(Array.getElem?_eq_some_iff.1 hf).1
       rw[List.getElem?_eq_getElem (by omega)] at h1
       rw[← List.map_drop,← List.map_take]
       refine ih _ _ _ h1 fun z hz=>hw z ?_
       simp only[DataW.weights,hu]
       refine Ck _ _ i f.type _ (by simp[hf]) (by rw[List.getElem?_map,List.getElem?_eq_getElem (by omega)]; rfl) hz
     | array n e =>
       obtain⟨xs,m',hm,rfl,hl,hxl,hget⟩:=DataW.trod_array hu h
       cases hm
       refine .array t e n _ hu (by simpa using hl) fun i hi=>?_
       have h1:=hget i hi
       rw[List.getElem?_eq_getElem (by omega)] at h1
       rw[← List.map_drop,← List.map_take]
       refine ih _ _ _ h1 fun z hz=>hw z ?_
       simp only[DataW.weights,hu]
       exact xc (List.mem_map_of_mem (List.getElem_mem _)) hz
     | _=>exact .other _ _ (by rw[hu]; rfl)
end
section
variable {P:Program} {M:RM} {t:TypeId} {cs:List AV}
theorem Fits.Qz (h:Fits P M t cs) {k:IntKind} (hu:P.underlying t=some (.int k)) : ∃ n:Int,cs=[N k n]∧k.min≤n∧n≤k.max:=by
 cases h with
 | int _ k' n h1 h2 h3=>rw[hu] at h1; cases h1; exact⟨n,rfl,h2,h3⟩
 | _=>simp_all [Ha]
theorem Fits.Qt (h:Fits P M t cs) (hu:P.underlying t=some .string) : ∃ s,cs=[St s]∧s.length≤reachBytes:=by
 cases h with
 | str _ s h1 h2=>exact⟨s,rfl,h2⟩
 | _=>simp_all [Ha]
theorem Fits.OP (h:Fits P M t cs) {fs:Array Field} (hu:P.underlying t=some (.struct fs)) : cs.length=P.cellsOf t∧∀ (i:Nat) (f:Field),fs[i]?=some f→Fits P M f.type ((cs.drop f.offset).take (P.cellsOf f.type)):=by
 cases h with
 | struct _ fs' _ h1 h2 h3=>rw[hu] at h1; cases h1; exact⟨h2,h3⟩
 | _=>simp_all [Ha]
theorem Fits.RG (h:Fits P M t cs) {e:TypeId} (hu:P.underlying t=some (.slice e)) (hz:0<P.cellsOf e) :
  ∃ v n ds,cs=[v]∧aL M (P.cellsOf e) v ds n∧n * P.bytesOf e≤reachBytes∧∀ i,i<n→Fits P M e ((ds.drop (i * P.cellsOf e)).take (P.cellsOf e)):=by
 cases h with
 | ajb _ e' h1=>exact⟨_,0,[],rfl,.nil,by simp,fun i hi=>absurd hi (by omega)⟩
 | emp _ e' b h1=>exact⟨_,0,[],rfl,.emp b,by simp,fun i hi=>absurd hi (by omega)⟩
 | slc _ e' b o n c ds h1 h2 h3 h4 h5 h6 =>
   rw[hu] at h1; cases h1
   exact⟨_,n,ds,rfl,.slc b o n _ ds h2 h5,Nat.le_trans (Nat.mul_le_mul_right _ h3) h4,h6⟩
 | zero _ e' _ h1 h2=>rw[hu] at h1; cases h1; omega
 | _=>simp_all [Ha]
theorem Rt {α:Type} {size:Nat} (enc:α→List AV) (p:α→Prop) (hs:∀ a,(enc a).length=size) : ∀ (n:Nat) (ds:List AV),ds.length=n * size→(∀ i,i<n→∃ a,p a∧(ds.drop (i * size)).take size=enc a) →
  ∃ xs:List α,xs.length=n∧ds=xs.flatMap enc∧∀ x∈xs,p x
 | 0,ds,hl,_=>⟨[],rfl,by simpa using hl,by simp⟩
 | n + 1,ds,hl,h=>by
   obtain⟨a,pa,ha⟩:=h 0 (by omega)
   simp only[Nat.zero_mul,List.drop_zero] at ha
   have hl' : (ds.drop size).length=n * size:=by rw[List.length_drop,hl,Nat.succ_mul]; omega
   obtain⟨xs,h1,h2,h3⟩:=Rt enc p hs n (ds.drop size) hl' fun i hi=>by
    obtain⟨b,pb,hb⟩:=h (i + 1) (by omega)
    refine⟨b,pb, ?_⟩
    rw[List.drop_drop,← hb,Nat.succ_mul,Nat.add_comm]
   refine⟨a :: xs,by simp[h1], ?_,fun x hx=>?_⟩
   ·rw[List.flatMap_cons,← h2,← ha,List.take_append_drop]
   ·rcases List.mem_cons.1 hx with rfl | hx
    ·exact pa
    ·exact h3 x hx
end
def PL (P:Program) (t:TypeId) : Bool :=
 match P.underlying t with
 | some (.struct _) | some (.array _ _)=>true
 | _=>false
def yf (P:Program) (M:RM) (t:TypeId) (v:AV) : Prop :=
 match PL P t with
 | true=>∃ cs,v=.agg cs∧Fits P M t cs
 | false=>Fits P M t [v]
theorem yf.agg {P:Program} {M:RM} {t:TypeId} {v:AV} (h:yf P M t v) (ha:PL P t=true) : ∃ cs,v=.agg cs∧Fits P M t cs:=by
 unfold yf at h; rw[ha] at h; exact h
theorem yf.one {P:Program} {M:RM} {t:TypeId} {v:AV} (h:yf P M t v) (ha:PL P t=false) : Fits P M t [v]:=by
 unfold yf at h; rw[ha] at h; exact h
section
variable {H:Type} {enc:TypeId × Value→H} {P:Program} {base:Base} {w:World}
theorem Xx {r:Reach} {b:Nat} {t:TypeId} {cs:Array Value} (h:Cell.okWide P w r b t (.agg cs)) : False:=by
 unfold Cell.okWide at h
 split at h <;> first | (rename_i e _; cases e; done) | skip
 all_goals first | (rename_i e; cases e; done) | skip
 unfold Cell.ok at h
 split at h <;> first | exact h | simp_all
theorem adw (hn:base.n=w.heap.size) {r:Reach} {b:Nat} {held:Bool} {t:TypeId} {v:Value} {d:DataW H} {ps:List MemPlace} (hv:Value.okWide P w r b t v) (h:DataW.Trod enc P w 0 (fun _=>true) held t v d ps)
  (hw:∀ y∈d.weights P t,y≤reachBytes) : yf P (RM.old base w) t (Eb base.n v):=by
 obtain⟨fuel,hf⟩:=h
 have hfit:=Vh hn fuel t _ _ hf hw
 unfold yf
 cases ha:PL P t with
 | true =>
   have:∃ cs,v=.agg cs:=by
    unfold Value.okWide at hv
    unfold PL at ha
    split at hv
    ·obtain⟨cs,h,_⟩:=hv; exact⟨cs,h⟩
    ·obtain⟨cs,h,_⟩:=hv; exact⟨cs,h⟩
    ·split at ha <;> simp_all
   obtain⟨cs,rfl⟩:=this
   exact⟨_,rfl,hfit⟩
 | false =>
   have hc:Cell.okWide P w r b t v:=by
    unfold Value.okWide at hv
    unfold PL at ha
    split at hv
    ·simp_all
    ·simp_all
    ·exact hv
   have:v.cells.toList=[v]∧Eb base.n v=uD base.n v:=by
    cases v with
    | agg cs=>exact(Xx hc).elim
    | _=>exact⟨rfl,rfl⟩
   rw[this.1] at hfit
   rw[this.2]
   exact hfit
theorem VP (hn:base.n=w.heap.size) {r:Reach} {b:Nat} {held:Bool} : ∀ {ts:List TypeId} {vs:List Value} {ds:List (DataW H)} {ps:List MemPlace},DataW.TrodAll enc P w 0 (fun _=>true) held ts vs ds ps →
  (∀ (j:Nat) t v,ts[j]?=some t→vs[j]?=some v→Value.okWide P w r b t v)→(∀ y∈DataW.weightsEach P ts ds,y≤reachBytes) →
  ∀ (j:Nat) t v,ts[j]?=some t→vs[j]?=some v→yf P (RM.old base w) t (Eb base.n v)
 | [],_,_,_,_,_,_,j,t,v,h,_=>by simp at h
 | t0 :: ts,vs,ds,ps,h,hv,hw,j,t,v,hj,hvj=>by
   cases vs with
   | nil=>simp at hvj
   | cons v0 vs =>
   cases ds with
   | nil=>exact h.elim
   | cons d ds =>
   obtain⟨p,q,h1,h2,_⟩:=h
   cases j with
   | zero =>
     simp at hj hvj; subst hj hvj
     exact adw hn (hv 0 _ _ rfl rfl) h1 fun y hy=>hw y (by simp[DataW.weightsEach,hy])
   | succ j =>
     exact VP hn h2 (fun j t v a b=>hv (j + 1) t v (by simpa using a) (by simpa using b)) (fun y hy=>hw y (by simp[DataW.weightsEach,hy])) j t v (by simpa using hj) (by simpa using hvj)
theorem Gn (hl:laidOutB P=true) {W W' : World} {sp:Nat→Bool} (hb:Below W.heap.size W W') : ∀ {ts:List TypeId} {vs:List Value} {ds:List (DataW H)} {ps:List MemPlace},
  (∀ t∈ts,P.readableRec t=true∧t<P.types.size)→DataW.TrodAll enc P W 0 (fun _=>true) true ts vs ds ps→(∀ p∈ps,p.block<W.heap.size)→(∀ p∈ps,sp p.block=true)→DataW.TrodAll enc P W' 0 sp true ts vs ds ps
 | [],vs,ds,ps,_,h,_,_=>by
   cases vs <;> cases ds <;> first | exact h | exact h.elim
 | t :: ts,vs,ds,ps,hr,h,hlt,hsp=>by
   cases vs with
   | nil=>cases ds <;> exact h.elim
   | cons v vs =>
   cases ds with
   | nil=>exact h.elim
   | cons d ds =>
   obtain⟨p,q,h1,h2,rfl⟩:=h
   have hrt:=hr t (List.mem_cons_self ..)
   exact⟨p,q,WideElems.Trod_stays hl hrt.1 hrt.2 h1 (fun x hx=>hb.same (hlt x (List.mem_append_left _ hx))) (fun x hx=>hsp x (List.mem_append_left _ hx)),
    Gn hl hb (fun t ht=>hr t (List.mem_cons_of_mem _ ht)) h2 (fun x hx=>hlt x (List.mem_append_right _ hx)) (fun x hx=>hsp x (List.mem_append_right _ hx)),rfl⟩
end
def RB.cells (lo:Nat) : RB→Option (List AV)
 | .row l _ _ _=>some l
 | .ro c=>some (c.toList.map (uD lo))
 | _=>none
@[go_sem] theorem RB.Co (lo:Nat) (l:List AV) (p:Bool) (e f:Nat) : RB.cells lo (.row l p e f)=some l:=rfl
theorem RM.Kq (M:RM) (b:Nat) : M.cells b=(M.heap b).bind (RB.cells M.lo):=by
 unfold RM.cells RB.cells
 cases M.heap b with
 | none=>rfl
 | some x=>cases x <;> rfl
def yu (l:Option (List AV)) (o k:Nat) : Option (List AV) :=
 match l with
 | some l=>if o + k≤l.length then some ((l.drop o).take k) else none
 | none=>none
@[go_sem] theorem amS (l:List AV) (o k:Nat) : yu (some l) o k=if o + k≤l.length then some ((l.drop o).take k) else none:=rfl
theorem RM.KE (M:RM) (b o k:Nat) : M.loads b o k=yu (M.cells b) o k:=rfl
section
variable {M M' : RM}
@[go_sem] theorem RM.abR (x:RB) (c:Nat) : (M.push x).heap c=if c=M.next then some x else M.heap c:=rfl
@[go_sem] theorem RM.heap_put (b:Nat) (x:RB) (c:Nat) : (M.put b x).heap c=if c=b then some x else M.heap c:=rfl
@[go_sem] theorem RM.apG (b:Nat) (c:Nat) : (M.del b).heap c=if c=b then none else M.heap c:=rfl
@[go_sem] theorem RM.aoT (x:RB) : (M.push x).base=M.base:=rfl
@[go_sem] theorem RM.apE (b:Nat) (x:RB) : (M.put b x).base=M.base:=rfl
@[go_sem] theorem RM.aqw (b:Nat) : (M.del b).base=M.base:=rfl
theorem RM.Oa (x:RB) (c:Nat) : (M.push x).cells c=if c=M.next then x.cells M.lo else M.cells c:=by
 simp only[RM.Kq,RM.abR]
 split <;> rfl
theorem RM.Rz (b:Nat) (x:RB) (c:Nat) : (M.put b x).cells c=if c=b then x.cells M.lo else M.cells c:=by
 simp only[RM.Kq,RM.heap_put]
 split <;> rfl
@[go_sem] theorem RM.aoX (x:RB) (c o:Nat) : (M.push x).cell c o=if c=M.next then(x.cells M.lo).bind (·[o]?) else M.cell c o:=by
 simp only[RM.cell,RM.Oa]
 split <;> rfl
@[go_sem] theorem RM.apf (b:Nat) (x:RB) (c o:Nat) : (M.put b x).cell c o=if c=b then(x.cells M.lo).bind (·[o]?) else M.cell c o:=by
 simp only[RM.cell,RM.Rz]
 split <;> rfl
@[go_sem] theorem RM.am5 (x:RB) (c o k:Nat) : (M.push x).loads c o k=if c=M.next then yu (x.cells M.lo) o k else M.loads c o k:=by
 simp only[RM.KE,RM.Oa]
 split <;> rfl
@[go_sem] theorem RM.aoQ (b:Nat) (x:RB) (c o k:Nat) : (M.put b x).loads c o k=if c=b then yu (x.cells M.lo) o k else M.loads c o k:=by
 simp only[RM.KE,RM.Rz]
 split <;> rfl
def sI (l:List AV) (fz o:Nat) (vs:List AV) : Option (List AV) :=
 if o + vs.length≤l.length∧fz≤o∧vs.all oneCell=true then some (l.take o++vs++l.drop (o + vs.length)) else none
theorem rF {l vs:List AV} {fz o:Nat} (h1:o + vs.length≤l.length) (h2:fz≤o) (h3:vs.all oneCell=true) : sI l fz o vs=some (l.take o++vs++l.drop (o + vs.length)):=if_pos ⟨h1,h2,h3⟩
@[go_sem] theorem Sg {l vs:List AV} (h:vs.length=l.length) (h3:vs.all oneCell=true) : sI l 0 0 vs=some vs:=by
 rw[rF (by omega) (Nat.le_refl _) h3]
 simp[h]
theorem RM.BZ {b o:Nat} {vs l:List AV} {p:Bool} {e f:Nat} (h:M.heap b=some (.row l p e f)) : M.stores b o vs=(sI l f o vs).map fun l'=>M.put b (.row l' p e f):=by
 simp only[RM.stores,h,sI]
 split <;> rfl
theorem RM.afO {x y:RB} : (M.push x).put M.next y=M.push y:=by
 simp only[RM.put,RM.push]
 congr 1
 funext c
 split <;> rfl
theorem RM.VN {x y:RB} {b:Nat} (hb:b≠M.next) : (M.push x).put b y=(M.put b y).push x:=by
 simp only[RM.put,RM.push]
 congr 1
 funext c
 by_cases h1:c=b
 ·subst h1; simp[hb]
 ·simp[h1]
theorem RM.Mx {l vs:List AV} {p:Bool} {e f o:Nat} : (M.push (.row l p e f)).stores M.next o vs=(sI l f o vs).map fun l'=>M.push (.row l' p e f):=by
 rw[RM.BZ (RM.aS _)]
 congr 1
 funext l'
 exact RM.afO
theorem RM.ND {M:RM} {b o:Nat} {vs:List AV} : M.stores b o vs=match M.heap b with
  | some (.row l p e f)=>(sI l f o vs).map fun l'=>M.put b (.row l' p e f)
  | _=>none:=by
 cases h:M.heap b with
 | none=>simp[RM.stores,h]
 | some x =>
   cases x with
   | row l p e f=>rw[RM.BZ h]
   | _=>simp[RM.stores,h]
@[go_sem] theorem RM.MX {x:RB} {vs:List AV} {c o:Nat} (hc:c≠M.next) : (M.push x).stores c o vs=(M.stores c o vs).map (·.push x):=by
 rw[RM.ND,RM.ND,RM.afx hc]
 split
 ·simp only[Option.map_map]
  congr 1
  funext l'
  exact RM.VN hc
 ·rfl
@[go_sem] theorem RM.amR {l vs:List AV} {p:Bool} {e f c o:Nat} : (M.push (.row l p e f)).stores c o vs =
  if c=M.next then(sI l f o vs).map fun l'=>M.push (.row l' p e f) else(M.stores c o vs).map (·.push (.row l p e f)):=by
 split
 ·rename_i h; subst h; exact RM.Mx
 ·rename_i h; exact RM.MX h
@[go_sem] theorem RM.afP {b o:Nat} {l vs:List AV} {p:Bool} {e f:Nat} : (M.put b (.row l p e f)).stores b o vs=(sI l f o vs).map fun l'=>M.put b (.row l' p e f):=by
 rw[RM.BZ (RM.xm _ _)]
 congr 1
 funext l'
 simp only[RM.put]
 congr 1
 funext c
 split <;> rfl
@[go_sem] theorem aqZ {α:Type} (a:α) (K:α→Prop) : (∃ x,some a=some x∧K x)=K a:=by simp
@[go_sem] theorem amT {α β:Type} (f:α→β) (x:α) : (some x).map f=some (f x):=rfl
attribute [go_sem] Int.natCast_nonneg Int.toNat_natCast Nat.mul_one true_implies false_implies Bool.false_eq_true Bool.true_eq_false Bool.not_true Bool.not_false Bool.and_self Bool.and_true Bool.true_and Nat.le_refl List.append_nil List.nil_append if_true if_false Nat.lt_irrefl Nat.add_one_ne_zero true_and and_true Nat.zero_add Nat.add_zero List.drop_zero List.getElem?_cons_zero List.getElem?_cons_succ Option.bind_some List.take_succ_cons List.take_zero List.drop_succ_cons List.drop_nil List.take_nil
attribute [go_sem] jr List.all_cons List.all_nil List.length_cons List.length_nil
@[go_sem] theorem ao0 (cs:List AV) : (AV.agg cs).cells=cs:=rfl
@[go_sem] theorem apS (v:Value) : (AV.sc v).cells=[.sc v]:=rfl
@[go_sem] theorem ao2 (b o:Nat) : (AV.ptr b o).cells=[.ptr b o]:=rfl
@[go_sem] theorem aoR (b o n:Nat) (c:Cap) : (AV.slc b o n c).cells=[.slc b o n c]:=rfl
@[go_sem] theorem aoH (b:Nat) : (AV.emp b).cells=[.emp b]:=rfl
@[go_sem] theorem ao1 (b:Nat) : (AV.map b).cells=[.map b]:=rfl
@[go_sem] theorem ao7 (f:Fn) (xs ys:List AV) : (AV.fn f xs ys).cells=[.fn f xs ys]:=rfl
@[go_sem] theorem Xv (v:Value) : oneCell (.sc v)=true:=rfl
@[go_sem] theorem aq2 (b o:Nat) : oneCell (.ptr b o)=true:=rfl
@[go_sem] theorem aq1 (b o n:Nat) (c:Cap) : oneCell (.slc b o n c)=true:=rfl
@[go_sem] theorem aq0 (b:Nat) : oneCell (.emp b)=true:=rfl
@[go_sem] theorem aq4 (b:Nat) : oneCell (.map b)=true:=rfl
@[go_sem] theorem ara (f:Fn) (xs ys:List AV) : oneCell (.fn f xs ys)=true:=rfl
end
theorem RM.UX {M:RM} {b:Nat} {l:List AV} {p:Bool} {e f:Nat} (h:M.heap b=some (.row l p e f)) (o k:Nat) : M.loads b o k=yu (some l) o k:=by rw[RM.KE,RM.Co h]
theorem RM.cell_of {M:RM} {b:Nat} {l:List AV} {p:Bool} {e f:Nat} (h:M.heap b=some (.row l p e f)) (o:Nat) : M.cell b o=l[o]?:=RM.ae4 h
theorem RM.yw {M:RM} {b:Nat} {l:List AV} {p:Bool} {e f:Nat} (h:M.heap b=some (.row l p e f)) (o:Nat) (vs:List AV) : M.stores b o vs=(sI l f o vs).map fun l'=>M.put b (.row l' p e f):=RM.BZ h
theorem ag.aP {bs:List Nat} {M M' : RM} (h:ag bs M M') {b:Nat} {x:RB} (hh:M.heap b=some x) (hlt:b<M.next) (hb:b ∉ bs) : M'.heap b=some x:=by rw[h.heap b hlt hb,hh]
def aaI (tab run:gH) : gH:=fun f args A=>match tab f args A with
 | some r=>some r
 | none=>run f args A
def Jo (P:Program) (X:Ext) (tab:gH) (L:Nat) : Nat→gH
 | 0,_,_,_=>none
 | n + 1,f,args,A=>match has X.split f with
   | true=>VC (Sy P X L (aaI tab (Jo P X tab L n))) f args A
   | false=>Sy P X L (aaI tab (Jo P X tab L n)) f args A
inductive Ans where
 | val (v:AV)
 | rows (n:Nat) (v:AV) (bs:List (Nat × dz)) (n' : Nat)
structure aF where
 args:List AV
 fp:List (Nat × dz):=[]
 dead:List Nat:=[]
 nx:Nat:=0
 ans:Ans
def yN:Tree dz→List (Nat × dz)→Tree dz
 | t,[]=>t
 | t,(b,x) :: r=>yN (t.set b x) r
def Hl:Tree dz→List Nat→Tree dz
 | t,[]=>t
 | t,b :: r=>Hl (t.del b) r
def Dt (A:AW) : List (Nat × dz)→Bool
 | []=>true
 | (b,x) :: r=>match A.heap.get b with
   | some y=>Er x y && Dt A r
   | none=>false
def aat (A:AW) (e:aF) : Option (AV × AW) :=
 match Dt A e.fp with
 | false=>none
 | true=>match e.ans with
   | .val v=>some (v,A)
   | .rows n v bs n'=>match Nat.beq n A.next with
     | true=>some (v,{ next:=n',heap:=yN (Hl A.heap e.dead) bs })
     | false=>none
def Jm:List aF→List AV→AW→Option (AV × AW)
 | [],_,_=>none
 | e :: es,args,A=>match tZ e.args args with
   | true=>match aat A e with
     | some r=>some r
     | none=>Jm es args A
   | false=>Jm es args A
abbrev Table:=List (Nat × List aF)
def EY:Table→gH
 | [],_,_,_=>none
 | (g,es) :: T,f,args,A=>match Nat.beq g f with
   | true=>match Jm es args A with
     | some r=>some r
     | none=>EY T f args A
   | false=>EY T f args A
def OD:List Nat→Nat→Bool
 | [],_=>false
 | k :: ks,b=>match Nat.beq k b with
   | true=>true
   | false=>OD ks b
mutual
def within (ks:List Nat) : AV→Bool
 | .sc _ | .top | .atl _=>true
 | .ptr b _ | .slc b _ _ _ | .emp b | .map b=>OD ks b
 | .fn _ xs ys=>qh ks xs && qh ks ys
 | .ifc _ x=>within ks x
 | .agg xs | .tup xs=>qh ks xs
def qh (ks:List Nat) : List AV→Bool
 | []=>true
 | x :: xs=>within ks x && qh ks xs
end
theorem sj {b:Nat} : ∀ {ks:List Nat},OD ks b=true↔b∈ks
 | []=>by simp[OD]
 | k :: ks=>by
   simp only[OD]
   split
   ·rename_i h
    simp[bE h]
   ·rename_i h
    rw[sj,List.mem_cons]
    constructor
    ·exact .inr
    ·rintro(e | e)
     ·exact absurd e.symm (BN h)
     ·exact e
mutual
theorem rZ {ρ ρ' : Ren} {ks:List Nat} (hk:∀ b∈ks,∀ i,ρ b=some i→ρ' b=some i) : ∀ (x:AV) {v:Value},within ks x=true→ax ρ x v→ax ρ' x v
 | .top,v,_,_=>.top v
 | .atl k,v,_,hr=>by cases hr; exact .atl _ _ (by assumption)
 | .sc u,v,_,hr=>by cases hr; exact .sc _ (by assumption)
 | .ptr b o,v,h,hr=>by
   simp only[within] at h
   cases hr with
   | ptr _ _ i e=>exact .ptr _ _ i (hk b (sj.1 h) i e)
 | .slc b o l c,v,h,hr=>by
   simp only[within] at h
   cases hr with
   | iQ _ _ _ c i e=>exact .iQ _ _ _ c i (hk b (sj.1 h) i e)
   | lG _ k _ i e q=>exact .lG _ k _ i (hk b (sj.1 h) i e) q
 | .emp b,v,h,hr=>by
   simp only[within] at h
   cases hr with
   | emp _ a c=>exact .emp _ a c
 | .map b,v,h,hr=>by
   simp only[within] at h
   cases hr with
   | map _ i e=>exact .map _ i (hk b (sj.1 h) i e)
 | .fn f xs ys,v,h,hr=>by
   simp only[within,Bool.and_eq_true] at h
   cases hr with
   | fn _ _ _ us vs p a b=>exact .fn f xs ys us vs p (qg hk xs h.1 a) (qg hk ys h.2 b)
 | .ifc t x,v,h,hr=>by
   simp only[within] at h
   cases hr with
   | ifc _ _ v a=>exact .ifc t x v (rZ hk x h a)
 | .agg xs,v,h,hr=>by
   simp only[within] at h
   cases hr with
   | agg _ vs a=>exact .agg xs vs (qg hk xs h a)
 | .tup xs,v,h,hr=>by
   simp only[within] at h
   cases hr with
   | tup _ vs a=>exact .tup xs vs (qg hk xs h a)
theorem qg {ρ ρ' : Ren} {ks:List Nat} (hk:∀ b∈ks,∀ i,ρ b=some i→ρ' b=some i) : ∀ (xs:List AV) {vs:List Value},qh ks xs=true→bg ρ xs vs→bg ρ' xs vs
 | [],vs,_,hr=>by cases hr; exact .nil
 | x :: xs,vs,h,hr=>by
   simp only[qh,Bool.and_eq_true] at h
   cases hr with
   | cons _ v _ vs a b=>exact .cons x v xs vs (rZ hk x h.1 a) (qg hk xs h.2 b)
end
def DW (p:AV→Bool) : Tree AV→Bool
 | .leaf=>true
 | .node l v r=>(match v with
   | some x=>p x
   | none=>true) && DW p l && DW p r
theorem Cv {p:AV→Bool} : ∀ {t:Tree AV} {k:Nat} {x:AV},DW p t=true→t.get k=some x→p x=true
 | .leaf,k,x,_,h=>by simp[Tree.get] at h
 | .node l v r,k,x,ha,h=>by
   simp only[DW,Bool.and_eq_true] at ha
   simp only[Tree.get] at h
   split at h
   ·rw[h] at ha; exact ha.1.1
   ·split at h
    ·exact Cv ha.1.2 h
    ·exact Cv ha.2 h
def Ni (ks:List Nat) : List (AV × AV × Nat)→Bool
 | []=>true
 | (k,v,_) :: es=>within ks k && within ks v && Ni ks es
def SB (ks:List Nat) : dz→Bool
 | .row _ t zs _ _ _=>DW (within ks) t && qh ks zs
 | .map es _=>Ni ks es
 | .iter m _ _ _=>match m with
   | some b=>OD ks b
   | none=>true
 | .mi _ _=>true
theorem JM {ks:List Nat} : ∀ {xs:List AV},qh ks xs=true→∀ x∈xs,within ks x=true
 | [],_,x,h=>by cases h
 | y :: ys,h,x,hx=>by
   simp only[qh,Bool.and_eq_true] at h
   rcases List.mem_cons.1 hx with e | hx
   ·rw[e]; exact h.1
   ·exact JM h.2 x hx
theorem Zd {β:Type} : ∀ {l:List β} {n:Nat} {x:β},nth l n=some x→x∈l
 | [],_,_,h=>by simp[nth] at h
 | y :: ys,0,x,h=>by simp[nth] at h; simp[h]
 | y :: ys,n + 1,x,h=>by
   simp only[nth] at h
   exact List.mem_cons_of_mem _ (Zd h)
theorem acv {tree:Tree AV} {zs:List AV} {n k:Nat} {x:AV} (h:cellAt tree zs n k=some x) : tree.get k=some x∨x∈zs:=by
 unfold cellAt at h
 split at h
 ·cases h
 ·split at h
  ·rename_i v hv
   cases h
   exact .inl hv
  ·split at h
   ·cases h
   ·cases h
    exact .inr (List.mem_cons_self ..)
   ·exact .inr (Zd h)
theorem dh.restrict {ρ ρ' : Ren} {ks:List Nat} (hk:∀ b∈ks,∀ i,ρ b=some i→ρ' b=some i) : ∀ {es:List (AV × AV × Nat)} {fs:List MapEntry},Ni ks es=true→dh ρ es fs→dh ρ' es fs
 | [],[],_,_=>trivial
 | [],_ :: _,_,h=>h.elim
 | _ :: _,[],_,h=>h.elim
 | (a,b,n) :: es,f :: fs,h,⟨h1,h2,h3,h4⟩=>by
   simp only[Ni,Bool.and_eq_true] at h
   exact⟨rZ hk a h.1.1 h1,rZ hk b h.1.2 h2,h3,dh.restrict hk h.2 h4⟩
theorem jH.restrict {P:Program} {ρ ρ' : Ren} {ks:List Nat} (hk:∀ b∈ks,∀ i,ρ b=some i→ρ' b=some i) {i:ik} : ∀ {x:dz} {o:Obj},SB ks x=true→jH P ρ i x o→jH P ρ' i x o
 | .row n t zs opn el fz,o,h,⟨c,fr,e,k⟩=>by
   simp only[SB,Bool.and_eq_true] at h
   refine⟨c,fr,e,k.size,fun j x hx=>?_,k.free,k.mark,k.opn,k.sh0⟩
   obtain⟨v,h1,h2⟩:=k.val j x hx
   refine⟨v,h1,rZ hk x ?_ h2⟩
   rcases acv hx with hx | hx
   ·exact Cv h.1 hx
   ·exact JM h.2 x hx
 | .map es clock,o,h,⟨fs,e,k⟩=>⟨fs,e,dh.restrict hk h k⟩
 | .iter m since seen st,o,h,⟨m',e,k⟩=>by
   refine⟨m',e, ?_⟩
   cases m with
   | none=>exact k
   | some b =>
     obtain⟨j,h1,h2⟩:=k
     exact⟨j,hk b (sj.1 h) j h1,h2⟩
 | .mi s pos,o,h,k=>k
section
variable {P:Program} {X:Ext}
theorem NI {base:Base} {tab run:gH} (ht:lC P base tab) (hr:lC P base run) : lC P base (aaI tab run):=by
 intro f args A v A' h
 unfold aaI at h
 split at h
 ·rename_i r hr'
  cases h
  exact ht f args A v A' hr'
 ·exact hr f args A v A' h
theorem CB {base:Base} (hng:Gi P X) (hm:P.follows .mixedOrders=true) {tab:gH} (ht:lC P base tab) (L:Nat) : ∀ n,lC P base (Jo P X tab L n)
 | 0=>by intro f args A v A' h; simp[Jo] at h
 | n + 1=>by
   intro f args A v A' h
   simp only[Jo] at h
   split at h
   ·exact Wu (JC hng hm L (NI ht (CB hng hm ht L n))) f args A v A' h
   ·exact JC hng hm L (NI ht (CB hng hm ht L n)) f args A v A' h
def yj (P:Program) (I:World→Prop) (f:Nat) (e:aF) : Prop :=
 ∀ (base:Base),(∀ w,base.inv w→I w)→∀ A v A',aat A e=some (v,A')→∀ (ρ:Ren) (w:World) (us:List Value),bg ρ e.args us→bI P base ρ A w→base≤w.heap.size →
   Calls P f ⟨us⟩ w fun r w'=>∃ ρ' v',r=.returned v'∧Step base A.next ρ w ρ' w'∧bI P base ρ' A' w'∧A.next≤A'.next∧ax ρ' v v'
def kN (P:Program) (I:World→Prop) (T:Table) : Prop:=∀ g∈T,∀ e∈g.2,yj P I g.1 e
theorem CX {base:Base} {I:World→Prop} (hI:∀ w,base.inv w→I w) {f:Nat} : ∀ (es:List aF),(∀ e∈es,yj P I f e)→∀ {args A v A'},Jm es args A=some (v,A')→∀ (ρ:Ren) (w:World) (us:List Value),bg ρ args us→bI P base ρ A w→base≤w.heap.size →
  Calls P f ⟨us⟩ w fun r w'=>∃ ρ' v',r=.returned v'∧Step base A.next ρ w ρ' w'∧bI P base ρ' A' w'∧A.next≤A'.next∧ax ρ' v v'
 | [],_,args,A,v,A',h=>by simp[Jm] at h
 | e :: es,hes,args,A,v,A',h=>by
   simp only[Jm] at h
   split at h
   ·rename_i hq
    have hq:=qQ _ _ hq
    subst hq
    split at h
    ·rename_i r hr
     cases h
     exact hes e (List.mem_cons_self ..) base hI A v A' hr
    ·exact CX hI es (fun e he=>hes e (List.mem_cons_of_mem _ he)) h
   ·exact CX hI es (fun e he=>hes e (List.mem_cons_of_mem _ he)) h
theorem CU {base:Base} {I:World→Prop} (hI:∀ w,base.inv w→I w) : ∀ (T:Table),kN P I T→lC P base (EY T)
 | [],_=>by intro f args A v A' h; simp[EY] at h
 | (g,es) :: T,hT=>by
   intro f args A v A' h
   have hrest:=CU hI T (fun g hg=>hT g (List.mem_cons_of_mem _ hg))
   simp only[EY] at h
   split at h
   ·rename_i hq
    have hq:=bE hq
    subst hq
    split at h
    ·rename_i r hr
     cases h
     exact CX hI es (hT (g,es) (List.mem_cons_self ..)) hr
    ·exact hrest g args A v A' h
   ·exact hrest f args A v A' h
theorem zO:∀ (bs:List (Nat × dz)) (t:Tree dz) {k:Nat} {x:dz},(yN t bs).get k=some x→(k,x)∈bs∨(t.get k=some x∧∀ y,(k,y) ∉ bs)
 | [],t,k,x,h=>.inr ⟨h,fun y hy=>by cases hy⟩
 | (b,y) :: r,t,k,x,h=>by
   simp only[yN] at h
   rcases zO r _ h with h | ⟨h,hn⟩
   ·exact .inl (List.mem_cons_of_mem _ h)
   ·rw[Tree.bF] at h
    split at h
    ·rename_i e
     cases h
     subst e
     exact .inl (List.mem_cons_self ..)
    ·rename_i hne
     refine .inr ⟨h,fun z hz=>?_⟩
     rcases List.mem_cons.1 hz with e | hz
     ·cases e; exact hne rfl
     ·exact hn z hz
theorem EU:∀ (ds:List Nat) (t:Tree dz) {k:Nat} {x:dz},(Hl t ds).get k=some x→t.get k=some x∧k ∉ ds
 | [],t,k,x,h=>⟨h,by simp⟩
 | d :: r,t,k,x,h=>by
   simp only[Hl] at h
   obtain⟨h1,h2⟩:=EU r _ h
   rw[Tree.wS] at h1
   split at h1
   ·cases h1
   ·rename_i hne
    exact⟨h1,by simp only[List.mem_cons,not_or]; exact⟨hne,h2⟩⟩
theorem Iy {A:AW} : ∀ (l:List (Nat × dz)),Dt A l=true→∀ b x,(b,x)∈l→A.heap.get b=some x
 | [],_,b,x,hm=>by cases hm
 | (c,y) :: r,h,b,x,hm=>by
   simp only[Dt] at h
   split at h <;> first | (cases h; done) | skip
   rename_i z hz
   rw[Bool.and_eq_true] at h
   rcases List.mem_cons.1 hm with e | hm
   ·cases e
    rw[hz,Al h.1]
   ·exact Iy r h.2 b x hm
def keysOf:List (Nat × dz)→List Nat
 | []=>[]
 | (b,_) :: r=>b :: keysOf r
theorem EH {b:Nat} : ∀ {l:List (Nat × dz)},b∈keysOf l↔∃ x,(b,x)∈l
 | []=>by simp[keysOf]
 | (c,y) :: r=>by
   simp only[keysOf,List.mem_cons,EH (l:=r)]
   constructor
   ·rintro(e | ⟨x,h⟩)
    ·subst e; exact⟨y,.inl rfl⟩
    ·exact⟨x,.inr h⟩
   ·rintro⟨x,h | h⟩
    ·cases h; exact .inl rfl
    ·exact .inr ⟨x,h⟩
def aaj (ks:List Nat) (n:Nat) : List (Nat × dz)→List Nat→Bool
 | [],_=>true
 | (b,x) :: r,seen=>SB ks x && Nat.ble (b + 1) n && !OD seen b && aaj ks n r (b :: seen)
theorem RL {ks:List Nat} {n:Nat} : ∀ (l:List (Nat × dz)) (seen:List Nat),aaj ks n l seen=true→(∀ b x,(b,x)∈l→SB ks x=true∧b<n∧b ∉ seen)∧∀ b x y,(b,x)∈l→(b,y)∈l→x=y
 | [],_,_=>⟨fun b x h=>(by cases h),fun b x y h=>(by cases h)⟩
 | (c,z) :: r,seen,h=>by
   simp only[aaj,Bool.and_eq_true,Bool.not_eq_true'] at h
   obtain⟨⟨⟨h1,h2⟩,h3⟩,h4⟩:=h
   obtain⟨i1,i2⟩:=RL r (c :: seen) h4
   have hc:c ∉ seen:=fun hm=>by rw[sj.2 hm] at h3; cases h3
   refine⟨fun b x hm=>?_,fun b x y hx hy=>?_⟩
   ·rcases List.mem_cons.1 hm with e | hm
    ·cases e; exact⟨h1,bz h2,hc⟩
    ·obtain⟨a1,a2,a3⟩:=i1 b x hm
     exact⟨a1,a2,fun h=>a3 (List.mem_cons_of_mem _ h)⟩
   ·rcases List.mem_cons.1 hx with e | hx <;> rcases List.mem_cons.1 hy with f | hy
    ·cases e; cases f; rfl
    ·cases e
     exact absurd (List.mem_cons_self ..) (i1 _ _ hy).2.2
    ·cases f
     exact absurd (List.mem_cons_self ..) (i1 _ _ hx).2.2
    ·exact i2 b x y hx hy
def MU (ks:List Nat) (n:Nat) (A:AW) : List (Nat × dz)→Bool
 | []=>true
 | (b,x) :: r=>(Nat.ble n b || OD ks b) && (match A.heap.get b with
   | some y=>Er x y
   | none=>false) && MU ks n A r
def GL (A:AW) (gone:List Nat) : List (Nat × dz)→Bool
 | []=>true
 | (b,x) :: r=>(OD gone b || (match A.heap.get b with
   | some y=>Er x y
   | none=>false)) && GL A gone r
def DZ (e:aF) : Nat:=match e.ans with
 | .val _=>e.nx
 | .rows m _ _ _=>m
def Km (P:Program) (X:Ext) (tab:gH) (L n:Nat) (f:Nat) (e:aF) : Bool :=
 match qh (keysOf e.fp) e.args && aaj (keysOf e.fp) (DZ e) e.fp [] with
 | false=>false
 | true=>match Jo P X tab L n f e.args { next:=DZ e,heap:=yN .leaf e.fp } with
   | none=>false
   | some (v',A')=>match e.ans with
     | .val v=>within [] v && pK v' v && GL A' [] e.fp
     | .rows _ v bs m'=>pK v' v && Nat.beq A'.next m' && MU (keysOf e.fp) (DZ e) A' bs && GL A' (keysOf bs++e.dead) e.fp
theorem JJ {ks:List Nat} {n:Nat} {A:AW} : ∀ (bs:List (Nat × dz)),MU ks n A bs=true→∀ b x,(b,x)∈bs→(n≤b∨b∈ks)∧A.heap.get b=some x
 | [],_,b,x,hm=>by cases hm
 | (c,y) :: r,h,b,x,hm=>by
   simp only[MU,Bool.and_eq_true] at h
   obtain⟨⟨h1,h2⟩,h3⟩:=h
   rcases List.mem_cons.1 hm with e | hm
   ·cases e
    split at h2
    ·rename_i z hz
     rw[Bool.or_eq_true] at h1
     refine⟨?_, ?_⟩
     ·rcases h1 with h1 | h1
      ·exact .inl (bz h1)
      ·exact .inr (sj.1 h1)
     ·rw[hz,Al h2]
    ·cases h2
   ·exact JJ r h3 b x hm
theorem De {gone:List Nat} {A:AW} : ∀ (l:List (Nat × dz)),GL A gone l=true→∀ b x,(b,x)∈l→b∈gone∨A.heap.get b=some x
 | [],_,b,x,hm=>by cases hm
 | (c,y) :: r,h,b,x,hm=>by
   simp only[GL,Bool.and_eq_true] at h
   obtain⟨h1,h3⟩:=h
   rcases List.mem_cons.1 hm with e | hm
   ·cases e
    rw[Bool.or_eq_true] at h1
    rcases h1 with h1 | h1
    ·exact .inl (sj.1 h1)
    ·split at h1
     ·rename_i z hz
      rw[hz,Al h1]
      exact .inr rfl
     ·cases h1
   ·exact De r h3 b x hm
theorem bI.none {P:Program} {base:Base} {n:Nat} {w:World} (hi:base.inv w) : bI P base (fun _=>none) { next:=n,heap:=.leaf } w :=
 ⟨fun _ _ h=>(by cases h),fun _ _ _ h=>(by cases h),fun _ _ _ _ _ _ h=>(by cases h),fun _ _ h=>(by simp[Tree.get] at h),fun _ _ _ h=>(by cases h),hi⟩
def only(ρ:Ren) (ks:List Nat) : Ren:=fun b=>if b∈ks then ρ b else none
theorem qf {ρ:Ren} {ks:List Nat} {b:Nat} {i:ik} (h:only ρ ks b=some i) : b∈ks∧ρ b=some i:=by
 unfold only at h
 split at h
 ·exact⟨‹_›,h⟩
 ·cases h
theorem Dq {ρ:Ren} {ks:List Nat} {b:Nat} (h:b∈ks) : only ρ ks b=ρ b:=by simp[only,h]
theorem P6 (hng:Gi P X) (hm:P.follows .mixedOrders=true) {I:World→Prop} {tab:gH} (ht:∀ base:Base,(∀ w,base.inv w→I w)→lC P base tab) {L n f:Nat} {e:aF} (h:Km P X tab L n f e=true) : yj P I f e:=by
 unfold Km at h
 split at h <;> first | (cases h; done) | skip
 rename_i hfl
 rw[Bool.and_eq_true] at hfl
 obtain⟨hwi,hfp⟩:=hfl
 obtain⟨hf1,hf2⟩:=RL _ _ hfp
 split at h <;> first | (cases h; done) | skip
 rename_i v1 A1 hc
 intro base hI A v A' ha ρ w us hargs hw hb
 unfold aat at ha
 split at ha <;> first | (cases ha; done) | skip
 rename_i hhas
 have hrow:=Iy _ hhas
 -- the blocks alone
 let ks:=keysOf e.fp
 have hks:∀ {b},b∈ks↔∃ x,(b,x)∈e.fp:=EH
 have hto:∀ b∈ks,∀ i,ρ b=some i→only ρ ks b=some i:=fun b hb i h=>by rw[Dq hb]; exact h
 have amu:bg (only ρ ks) e.args us:=qg hto _ hwi hargs
 have Na:∀ b x,(yN .leaf e.fp).get b=some x→(b,x)∈e.fp:=fun b x h=>by
  rcases zO _ _ h with h | ⟨h,_⟩
  ·exact h
  ·simp[Tree.get] at h
 have hw0:bI P base (only ρ ks) { next:=DZ e,heap:=yN .leaf e.fp } w:=by
  refine⟨fun b i h=>?_,fun b i x h hx=>?_,fun b b' i i' x x' h h' hx hx' he=>?_,fun b x hx=>?_,fun b i x h hx=>?_,hw.inv⟩
  ·obtain⟨hbk,hbi⟩:=qf h
   obtain⟨x,hx⟩:=hks.1 hbk
   exact⟨(hf1 b x hx).2.1,(hw.dom b i hbi).2⟩
  ·obtain⟨hbk,hbi⟩:=qf h
   have hm:=Na b x hx
   obtain⟨o,ho,hrel⟩:=hw.blk b i x hbi (hrow b x hm)
   exact⟨o,ho,hrel.restrict hto (hf1 b x hm).1⟩
  ·exact hw.sep _ _ _ _ _ _ (qf h).2 (qf h').2 (hrow _ _ (Na _ _ hx)) (hrow _ _ (Na _ _ hx')) he
  ·exact(hf1 b x (Na b x hx)).2.1
  ·exact hw.lo b i x (qf h).2 (hrow _ _ (Na _ _ hx))
 have abN:∀ b i,b ∉ ks→ρ b=some i→∀ x,A.heap.get b=some x→∀ b0 i0,only ρ ks b0=some i0→i0.cb≠i.cb:=by
  intro b i hbk hbi x hx b0 i0 h0 he
  obtain⟨h0k,h0i⟩:=qf h0
  obtain⟨x0,hx0⟩:=hks.1 h0k
  exact hbk (hw.sep _ _ _ _ _ _ h0i hbi (hrow _ _ hx0) hx he▸h0k)
 have main:=CB hng hm (ht base hI) L n f _ _ _ _ hc (only ρ ks) w us amu hw0 hb
 split at ha
 ·
  rename_i v0 abd
  cases ha
  rw[abd] at h
  dsimp only at h
  simp only[Bool.and_eq_true] at h
  obtain⟨⟨h1,h2⟩,h3⟩:=h
  have hv1:=xR _ _ h2
  subst hv1
  have hkept:=De _ h3
  refine main.mono fun r w' hR=>?_
  obtain⟨ρ',v',rfl,hst,hwr,hnx,hv⟩:=hR
  have hback:∀ b∈ks,∀ i,ρ' b=some i→ρ b=some i:=fun b hbk i h=>by
   obtain⟨x,hx⟩:=hks.1 hbk
   rw[hst.ext b (hf1 b x hx).2.1,Dq hbk] at h
   exact h
  refine⟨ρ,v',rfl,⟨hst.os,hst.tape,hst.output,hst.size,fun c hc hun=>hst.frame c hc fun b i hbi=>hun b i (qf hbi).2,fun _ _=>rfl,fun b i h=>.inl ⟨b,i,h,rfl⟩,hst.low⟩,⟨fun b i h=>?_,fun b i x hbi hx=>?_,hw.sep,hw.top,hw.lo,hwr.inv⟩,Nat.le_refl _,rZ (ks:=[]) (fun b hb=>by cases hb) _ h1 hv⟩
  ·exact⟨(hw.dom b i h).1,Nat.lt_of_lt_of_le (hw.dom b i h).2 hst.size⟩
  ·by_cases hbk:b∈ks
   ·obtain⟨y,hy⟩:=hks.1 hbk
    have hxy:x=y:=by have:=hrow b y hy; rw[hx] at this; exact Option.some.inj this
    subst hxy
    rcases hkept b x hy with hg | hg
    ·cases hg
    ·have hρ' : ρ' b=some i:=by rw[hst.ext b (hf1 b x hy).2.1,Dq hbk]; exact hbi
     obtain⟨o,ho,hrel⟩:=hwr.blk b i x hρ' hg
     exact⟨o,ho,hrel.restrict hback (hf1 b x hy).1⟩
   ·obtain⟨o,ho,hrel⟩:=hw.blk b i x hbi hx
    exact⟨o,by rw[hst.frame _ (hw.dom b i hbi).2 (abN b i hbk hbi x hx)]; exact ho,hrel⟩
 ·
  rename_i m v0 bs m' abd
  have hnext:DZ e=m:=by unfold DZ; rw[abd]
  rw[abd] at h
  dsimp only at h
  simp only[Bool.and_eq_true] at h
  obtain⟨⟨⟨h1,h2⟩,h3⟩,h4⟩:=h
  have hv1:=xR _ _ h1
  have h2:=bE h2
  subst hv1
  subst h2
  split at ha <;> first | (cases ha; done) | skip
  rename_i hn
  have hn:=bE hn
  rw[hnext,hn] at main hw0 hf1 h3
  cases ha
  have hrows:=JJ bs h3
  have hkept:=De _ h4
  refine main.mono fun r w' hR=>?_
  obtain⟨ρ',v',rfl,hst,hwr,hnx,hv⟩:=hR
  dsimp only at hst hnx
  let ρ2:Ren:=fun b=>if b<A.next then ρ b else ρ' b
  have hlo:∀ b,b<A.next→ρ2 b=ρ b:=fun b h=>by simp[ρ2,h]
  have hhi:∀ b,A.next≤b→ρ2 b=ρ' b:=fun b h=>by simp only[ρ2]; rw[if_neg (by omega)]
  have hold:∀ b i,b<A.next→ρ' b=some i→b∈ks∧ρ b=some i:=fun b i h hbi=>by
   rw[hst.ext b h] at hbi
   exact qf hbi
  have hle1:ρ.le ρ2:=fun b i h=>by rw[hlo b (hw.dom b i h).1]; exact h
  have hle2:ρ'.le ρ2:=fun b i h=>by
   rcases Nat.lt_or_ge b A.next with h' | h'
   ·rw[hlo b h']; exact(hold b i h' h).2
   ·rw[hhi b h']; exact h
  -- a row of the outcome: changed or new; or as it was
  have hget:∀ b i x,ρ2 b=some i→(yN (Hl A.heap e.dead) bs).get b=some x→(ρ' b=some i∧A1.heap.get b=some x)∨(b ∉ ks∧b<A.next∧ρ b=some i∧A.heap.get b=some x):=by
   intro b i x hbi hx
   rcases zO bs _ hx with hx | ⟨hx,hnb⟩
   ·obtain⟨hwh,hx⟩:=hrows b x hx
    refine .inl ⟨?_,hx⟩
    rcases Nat.lt_or_ge b A.next with h' | h'
    ·rcases hwh with hwh | hwh
     ·omega
     ·rw[hst.ext b h',Dq hwh,← hlo b h']; exact hbi
    ·rw[← hhi b h']; exact hbi
   ·obtain⟨hx,hnd⟩:=EU _ _ hx
    have hbn:=hw.top b x hx
    rw[hlo b hbn] at hbi
    by_cases hbk:b∈ks
    ·obtain⟨y,hy⟩:=hks.1 hbk
     have hxy:x=y:=by have:=hrow b y hy; rw[hx] at this; exact Option.some.inj this
     subst hxy
     rcases hkept b x hy with hg | hg
     ·rcases List.mem_append.1 hg with hg | hg
      ·obtain⟨z,hz⟩:=EH.1 hg
       exact absurd hz (hnb z)
      ·exact absurd hg hnd
     ·exact .inl ⟨by rw[hst.ext b hbn,Dq hbk]; exact hbi,hg⟩
    ·exact .inr ⟨hbk,hbn,hbi,hx⟩
  have OO:∀ b i x b' i' x',b ∉ ks→ρ b=some i→A.heap.get b=some x→ρ' b'=some i'→A1.heap.get b'=some x'→i.cb≠i'.cb:=by
   intro b i x b' i' x' hbk hbi hx hb' hx' he
   rcases hst.fresh b' i' hb' with⟨b0,i0,h0,e0⟩ | hge
   ·exact abN b i hbk hbi x hx b0 i0 h0 (by rw[e0,he])
   ·have:=(hw.dom b i hbi).2; omega
  refine⟨ρ2,v',rfl,⟨hst.os,hst.tape,hst.output,hst.size,fun c hc hun=>hst.frame c hc fun b i hbi=>hun b i (qf hbi).2,fun b h=>hlo b h,fun b i h=>?_,hst.low⟩,⟨fun b i h=>?_,fun b i x h1 h2=>?_,fun b b' i i' x x' hb hb' hx hx' he=>?_,fun b x h=>?_,fun b i x h1 h2=>?_,hwr.inv⟩,hnx,hv.mono hle2⟩
  ·rcases Nat.lt_or_ge b A.next with h' | h'
   ·rw[hlo b h'] at h; exact .inl ⟨b,i,h,rfl⟩
   ·rw[hhi b h'] at h
    rcases hst.fresh b i h with⟨b0,i0,h0,e0⟩ | hge
    ·exact .inl ⟨b0,i0,(qf h0).2,e0⟩
    ·exact .inr hge
  ·rcases Nat.lt_or_ge b A.next with h' | h'
   ·rw[hlo b h'] at h
    exact⟨Nat.lt_of_lt_of_le (hw.dom b i h).1 hnx,Nat.lt_of_lt_of_le (hw.dom b i h).2 hst.size⟩
   ·rw[hhi b h'] at h
    exact hwr.dom b i h
  ·rcases hget b i x h1 h2 with⟨g1,g2⟩ | ⟨g1,g2,g3,g4⟩
   ·obtain⟨o,ho,hrel⟩:=hwr.blk b i x g1 g2
    exact⟨o,ho,hrel.mono hle2⟩
   ·obtain⟨o,ho,hrel⟩:=hw.blk b i x g3 g4
    exact⟨o,by rw[hst.frame _ (hw.dom b i g3).2 (abN b i g1 g3 x g4)]; exact ho,hrel.mono hle1⟩
  ·rcases hget b i x hb hx with⟨g1,g2⟩ | ⟨g1,g2,g3,g4⟩ <;> rcases hget b' i' x' hb' hx' with⟨k1,k2⟩ | ⟨k1,k2,k3,k4⟩
   ·exact hwr.sep _ _ _ _ _ _ g1 k1 g2 k2 he
   ·exact absurd he.symm (OO b' i' x' b i x k1 k3 k4 g1 g2)
   ·exact absurd he (OO b i x b' i' x' g1 g3 g4 k1 k2)
   ·exact hw.sep _ _ _ _ _ _ g3 k3 g4 k4 he
  ·rcases zO bs _ h with h | ⟨h,_⟩
   ·exact hwr.top b x (hrows b x h).2
   ·exact Nat.lt_of_lt_of_le (hw.top b x (EU _ _ h).1) hnx
  ·rcases hget b i x h1 h2 with⟨g1,g2⟩ | ⟨g1,g2,g3,g4⟩
   ·exact hwr.lo b i x g1 g2
   ·exact hw.lo b i x g3 g4
def mU (P:Program) (X:Ext) (T:Table) (L n:Nat) (B:Table) : Bool:=B.all fun g=>g.2.all (Km P X (EY T) L n g.1)
theorem kN.nil {I:World→Prop} : kN P I []:=fun g hg=>by cases hg
theorem kN.add (hng:Gi P X) (hm:P.follows .mixedOrders=true) {I:World→Prop} {T B:Table} (hT:kN P I T) {L n:Nat} (h:mU P X T L n B=true) : kN P I (B++T):=by
 intro g hg e he
 rcases List.mem_append.1 hg with hg | hg
 ·exact P6 hng hm (fun base hI=>CU hI T hT) (List.all_eq_true.1 (List.all_eq_true.1 h g hg) e he)
 ·exact hT g hg e he
open Go.WideShapes Go.ChangeShapes in
open Go.WideShapes Go.ChangeShapes in
theorem yj.val {P:Program} {I:World→Prop} {f:Nat} {args:List AV} {v:AV} (hv:within [] v=true)
  (h:∀ w,I w→∀ (ρ:Ren) us,bg ρ args us→Calls P f ⟨us⟩ w fun e w'=>(∃ u,e=.returned u∧∀ ρ:Ren,ax ρ v u)∧w'=w) : yj P I f { args,ans:=.val v } := by
 intro base hI A v0 A' ha ρ w us hargs hw hb
 simp only[aat,Dt] at ha
 cases ha
 refine(h w (hI w hw.inv) ρ us hargs).mono fun e w' hR=>?_
 obtain⟨⟨u,rfl,hu⟩,rfl⟩:=hR
 exact⟨ρ,u,rfl,Step.refl _ _ _,hw,Nat.le_refl _,hu ρ⟩
end
structure Enc (α:Type) where
 size:Nat
 cells:α→List AV
 len:∀ a,(cells a).length=size
 one:∀ a,(cells a).all oneCell=true
section
variable {α:Type} (E:Enc α)
def Enc.row (xs:List α) : List AV:=xs.flatMap E.cells
theorem Enc.l7 (x:α) (xs:List α) : E.row (x :: xs)=E.cells x++E.row xs:=rfl
theorem Enc.vP (xs ys:List α) : E.row (xs++ys)=E.row xs++E.row ys:=by simp[Enc.row]
theorem Enc.row_one (x:α) : E.row [x]=E.cells x:=by simp[Enc.row]
theorem Enc.eY:∀ (xs:List α),(E.row xs).length=xs.length * E.size
 | []=>by simp[Enc.row]
 | x :: xs=>by rw[Enc.l7,List.length_append,E.len,Enc.eY xs,List.length_cons,Nat.succ_mul,Nat.add_comm]
theorem Enc.ve:∀ (xs:List α),(E.row xs).all oneCell=true
 | []=>by simp[Enc.row]
 | x :: xs=>by rw[Enc.l7,List.all_append,E.one,Enc.ve xs]; rfl
theorem Enc.xL:∀ (xs:List α) (i:Nat),(E.row xs).drop (i * E.size)=E.row (xs.drop i)
 | [],i=>by simp[Enc.row]
 | x :: xs,0=>by simp
 | x :: xs,i + 1=>by
   rw[Enc.l7,Nat.succ_mul,Nat.add_comm,← List.drop_drop,List.drop_left' (E.len x),Enc.xL xs i]
   rfl
theorem Enc.wQ:∀ (xs:List α) (i:Nat),(E.row xs).take (i * E.size)=E.row (xs.take i)
 | [],i=>by simp[Enc.row]
 | x :: xs,0=>by simp[Enc.row]
 | x :: xs,i + 1=>by
   rw[Enc.l7,Nat.succ_mul,Nat.add_comm,List.take_append,List.take_of_length_le (by rw[E.len]; omega),E.len,Nat.add_sub_cancel_left,Enc.wQ xs i]
   rfl
theorem Enc.QC {xs:List α} {i:Nat} (hi:i<xs.length) : ((E.row xs).drop (i * E.size)).take E.size=E.cells xs[i]:=by
 rw[Enc.xL,List.drop_eq_getElem_cons hi,Enc.l7]
 rw[List.take_append_of_le_length (by rw[E.len]; exact Nat.le_refl _),List.take_of_length_le (by rw[E.len]; exact Nat.le_refl _)]
abbrev Sl (M:RM) (v:AV) (xs:List α) : Prop:=aL M E.size v (E.row xs) xs.length
abbrev Ow (M:RM) (base el:Nat) (v:AV) (xs:List α) : Prop:=Own M base el E.size v (E.row xs) xs.length
variable {E} {M M' : RM} {v:AV} {xs:List α}
theorem Sl.elem (h:Sl E M v xs) {i:Nat} (hi:i<xs.length) : ∃ b o,b<M.next∧b∈aH v∧(∀ (kd:IntKind) (K:AV→Prop),ai v (N kd (i:Int)) E.size K=K (.ptr b o))∧M.loads b o E.size=some (E.cells xs[i]):=by
 obtain⟨b,o,cap,rfl,hb,hl⟩:=h.pos (by omega)
 have hsum:i * E.size + E.size≤xs.length * E.size:=by rw[← Nat.succ_mul]; exact Nat.mul_le_mul_right _ hi
 refine⟨b,o + i * E.size,hb,by simp[aH],fun kd K=>?_, ?_⟩
 ·rw[pW]
  simp only[Int.toNat_natCast]
  exact propext ⟨fun h=>h.2.2,fun h=>⟨by omega,by omega,h⟩⟩
 ·rw[yB hl (i * E.size) E.size hsum,E.QC hi]
theorem Sl.at (h:Sl E M v xs) {i:Nat} (sz:Nat) (j:Int) (hi:i<xs.length) (hsz:E.size=sz:=by rfl) (hj:j=(i:Int):=by rfl) : ∃ b o,b<M.next∧b∈aH v∧(∀ (kd:IntKind) (K:AV→Prop),ai v (N kd j) sz K=K (.ptr b o))∧M.loads b o sz=some (E.cells xs[i]):=by
 subst hsz hj; exact h.elem hi
theorem uf {b o k:Nat} {cs:List AV} (h:M.loads b o k=some cs) {j:Nat} {x:AV} (hj:cs[j]?=some x) : M.cell b (o + j)=some x:=by
 have hlt:j<k:=by rw[← Ii h]; exact(List.getElem?_eq_some_iff.1 hj).1
 rw[abX h j hlt,hj]
theorem rW {b o k:Nat} {cs:List AV} (h:M.loads b o k=some cs) {x:AV} (hj:cs[0]?=some x) : M.cell b o=some x:=uf h hj
theorem IV {base T bytes:Nat} {zs:List AV} {u:AV} {ys:List α} {K:ak} (ho:Ow E M base T v xs) (hb:base≤M.next) (hs:1≤E.size) (hu:Sl E M u ys)
  (hn:(xs.length + ys.length) * bytes≤140737488355328) (hn2:xs.length + ys.length≤140737488355328)
  (hK:∀ v' M',Ow E M' base T v' (xs++ys)→ag (aH v) M M'→M.next≤M'.next→(v'=v∨∀ b∈aH v',M.next≤b)→K v' M') :
  appW T E.size bytes zs false v u M K:=by
 refine z8 ho hb hs (aL.oW hu _) (E.eY ys) (E.ve ys) hn hn2 ?_
 intro v' M' h1 h2 h3 h4
 refine hK v' M' ?_ h2 h3 h4
 rw[← E.vP] at h1
 simpa [Ow] using h1
theorem aa2 {b o k:Nat} {cs:List AV} (h:M.loads b o k=some cs) (m:Nat) (hm:m≤k) : M.loads b o m=some (cs.take m):=yB h 0 m (by omega)
theorem Sl.new {T c:Nat} {p:Bool} (ys:List α) : Sl E (M.push (.row (E.row ys) p T 0)) (.slc M.next 0 ys.length (.ex c)) ys :=
 .slc _ _ _ _ _ (by simp[RM.push]) (by rw[RM.dw (RM.aS _) (by rw[E.eY]; omega),List.drop_zero,← E.eY,List.take_length])
theorem xz {base T bytes:Nat} {zs:List AV} {a:α} {K:ak} (ho:Ow E M base T v xs) (hb:base≤M.next) (hs:1≤E.size)
  (hn:(xs.length + 1) * bytes≤140737488355328) (hn2:xs.length + 1≤140737488355328)
  (hK:∀ v' M',Ow E M' base T v' (xs++[a])→ag (aH v) M M'→M.next≤M'.next→(v'=v∨∀ b∈aH v',M.next≤b)→K v' M') :
  appW T E.size bytes zs false v (.slc M.next 0 1 (.ex 1)) (M.push (.row (E.cells a) false T 0)) K:=by
 have hk:ag [] M (M.push (.row (E.cells a) false T 0)):=(ag.refl _ _).push _
 refine IV (ys:=[a]) (Own.keep ho hk (by simp)) (Nat.le_trans hb hk.next) hs (by rw[← E.row_one]; exact Sl.new [a]) hn hn2 ?_
 intro v' M' h1 h2 h3 h4
 exact hK v' M' h1 ((hk.mono (by simp)).trans h2) (Nat.le_trans hk.next h3) (h4.imp id fun h b hb=>Nat.le_trans hk.next (h b hb))
@[go_sem] theorem arj {T:Nat} {zs:List AV} {K:RB→(Nat→AV)→Prop} : fV T 0 zs [] K=K (.row [] false T 0) (fun b=>.slc b 0 0 (.ex 0)):=by
 apply propext; unfold fV
 constructor
 ·rintro⟨l,h,hk⟩; cases h; exact hk
 ·intro hk; exact⟨_,rfl,hk⟩
theorem rP {T size:Nat} {zs:List AV} {x:AV} {K:RB→(Nat→AV)→Prop} (h:x.cells.length=size) (h1:x.cells.all oneCell=true) (hz:zs.length=size) :
  fV T 1 zs [(0,size,x)] K=K (.row x.cells false T 0) (fun b=>.slc b 0 1 (.ex 1)):=by
 have:BV (bM zs 1) [(0,size,x)]=some x.cells:=by
  simp only[BV,bM,List.append_nil,h1,h,Nat.zero_add,hz,Nat.le_refl,and_self,if_true,List.take_zero,List.nil_append]
  rw[List.drop_of_length_le (by omega),List.append_nil]
 apply propext; unfold fV
 constructor
 ·rintro⟨l,h,hk⟩; rw[this] at h; cases h; exact hk
 ·intro hk; exact⟨_,this,hk⟩
theorem Ow.lit (E:Enc α) {T:Nat} (M:RM) : Ow E (M.push (.row [] false T 0)) M.next T (.slc M.next 0 0 (.ex 0)) []:=Own.lit M (Nat.le_refl _)
theorem iN {i:Nat} (h:i<9223372036854775807) : IntKind.wrap .i64 ((i:Int) + 1)=((i + 1:Nat) : Int):=by
 rw[aW (by omega) (by omega)]; rfl
end
@[go_sem] theorem EC:dG [] [] []=some true:=rfl
@[go_sem] theorem MC (ks:List Nat) (k:IntKind) (a b:Int) (xs ys:List AV) : dG (1 :: ks) (N k a :: xs) (N k b :: ys)=if a=b then dG ks xs ys else some false:=by
 simp only[dG,vT,if_true]
 by_cases h:a=b
 ·simp[h]
 ·have:(a == b)=false:=by simp[h]
  simp[this,h]
@[go_sem] theorem MR (ks:List Nat) (a b:List UInt8) (xs ys:List AV) : dG (2 :: ks) (St a :: xs) (St b :: ys)=if a=b then dG ks xs ys else some false:=by
 simp only[dG,vT]
 by_cases h:a=b
 ·simp[h]
 ·have:(a == b)=false:=by simp[h]
  simp[this,h]
@[go_sem] theorem amQ (ks:List Nat) (a b:Bool) (xs ys:List AV) : dG (3 :: ks) (Bo a :: xs) (Bo b :: ys)=if a=b then dG ks xs ys else some false:=by
 simp only[dG,vT]
 by_cases h:a=b
 ·simp[h]
 ·have:(a == b)=false:=by simp[h]
  simp[this,h]
theorem yz {neg:Bool} {ks:List Nat} {cs ds:List AV} {r:Bool} {K:AV→Prop} (h1:cs.length=ks.length) (h2:ds.length=ks.length) (h:dG ks cs ds=some r) : qc neg ks (.agg cs) (.agg ds) K=K (Bo (r != neg)):=by
 rw[ZJ]
 apply propext
 constructor
 ·rintro⟨_,_,r',h',hk⟩; rw[h] at h'; cases h'; exact hk
 ·intro hk; exact⟨h1,h2,r,h,hk⟩
theorem j6 (x:AV) (w:Bool) (f g:ak→Prop) (F G:AV→RM→ak→Prop) (k:ak) :
  ah x w f g (fun v M=>ah x w (F v M) (G v M) k)=ah x w (fun k'=>f fun v M=>F v M k') (fun k'=>g fun v M=>G v M k') k:=by
 unfold ah oN
 split
 ·split <;> simp_all
 ·rfl
 ·rfl
theorem fB (x:AV) (w:Bool) (f g:KR→Prop) (F G:AV→RM→Option Nat→KR→Prop) (k:KR) :
  af x w f g (fun v M b=>af x w (F v M b) (G v M b) k)=af x w (fun k'=>f fun v M b=>F v M b k') (fun k'=>g fun v M b=>G v M b k') k:=by
 unfold af oN
 split
 ·split <;> simp_all
 ·rfl
 ·rfl
theorem dY (x:AV) (w:Bool) (f g:KR→Prop) (F G:AV→RM→Option Nat→ak→Prop) (k:ak) :
  af x w f g (fun v M b=>ah x w (F v M b) (G v M b) k)=ah x w (fun k'=>f fun v M b=>F v M b k') (fun k'=>g fun v M b=>G v M b k') k:=by
 unfold af ah oN
 split
 ·split <;> simp_all
 ·rfl
 ·rfl
theorem eP (x:AV) (w:Bool) (f g:ak→Prop) (F G:AV→RM→KR→Prop) (k:KR) :
  ah x w f g (fun v M=>af x w (F v M) (G v M) k)=af x w (fun k'=>f fun v M=>F v M k') (fun k'=>g fun v M=>G v M k') k:=by
 unfold af ah oN
 split
 ·split <;> simp_all
 ·rfl
 ·rfl
theorem aI {body:(List AV→RM→Prop)→List AV→RM→Prop} {xs:List AV} {M:RM} (I:Nat→List AV→RM→Prop) (n:Nat) (h0:I n xs M)
  (hb:∀ (next:List AV→RM→Prop) m ys M',(∀ m' zs M'',m'<m→I m' zs M''→next zs M'')→I m ys M'→body next ys M') : aN body xs M :=
 ⟨I,n,h0,fun m ys M' hI=>hb _ m ys M' (fun m' zs M'' hlt h=>⟨m',hlt,h⟩) hI⟩
theorem abb {P:Program} {I:World→Prop} {T:Table} (hT:kN P I T) {f:FuncId} {args:List AV} {v:AV} {M:RM} {Q:ak} (hP:Jr P f) (hl:∀ A,EY T f args A=some (v,A))
  (hI:∀ w,M.base.inv w→I w) (hQ:Q v M) : iV P f args M Q:=by
 refine⟨hP,fun ρ w us hargs hw=>?_⟩
 obtain⟨A,hA⟩:=hw
 refine(CU (base:=M.base) hI T hT f args A v A (hl A) ρ w us hargs hA.rel hA.size).mono fun e w' hR=>?_
 obtain⟨ρ',v',rfl,hst,hw',_,hv⟩:=hR
 refine⟨v',v,M,ρ',rfl,nY hA hst hw' rfl hA.next (Nat.le_refl _) (fun b x hx=>?_),hv,hQ⟩
 rcases hA.blk b x hx with h | ⟨c,rfl,_⟩
 ·exact .inl h
 ·exact .inr ⟨c,rfl,hx⟩
abbrev By (b:UInt8) : AV:=N .u8 (b.toNat:Int)
def BY:Enc UInt8:=⟨1,fun b=>[By b],fun _=>rfl,fun _=>rfl⟩
theorem ab3 (s:List UInt8) : BY.row s=s.map By:=by
 induction s with
 | nil=>rfl
 | cons b s ih=>rw[Enc.l7,ih]; rfl
def VS:Enc (List UInt8):=⟨1,fun s=>[St s],fun _=>rfl,fun _=>rfl⟩
def INT:Enc Int:=⟨1,fun n=>[N .i64 n],fun _=>rfl,fun _=>rfl⟩
def aX:Enc Nat:=⟨1,fun n=>[N .u64 (n:Int)],fun _=>rfl,fun _=>rfl⟩
theorem Po (s:List Nat) : aX.row s=s.map (fun(s:Nat)=>N .u64 (s:Int)):=by
 induction s with
 | nil=>rfl
 | cons b s ih=>rw[Enc.l7,ih]; rfl
section
variable {α:Type} {E:Enc α} {M M' : RM} {v:AV} {xs:List α}
theorem Sl.Hu (h:Sl E M v xs) {i:Nat} (j:Int) (hi:i<xs.length) (hsz:E.size=1:=by rfl) (hj:j=(i:Int):=by rfl) :
  ∃ b o,b<M.next∧b∈aH v∧(∀ (kd:IntKind) (K:AV→Prop),ai v (N kd j) 1 K=K (.ptr b o))∧∀ x,E.cells xs[i]=[x]→M.cell b o=some x:=by
 obtain⟨b,o,h1,h2,h3,h4⟩:=Sl.at h 1 j hi hsz hj
 exact⟨b,o,h1,h2,h3,fun x hx=>rW h4 (by rw[hx]; rfl)⟩
structure Rw (E:Enc α) (M:RM) (b:Nat) (opn:Bool) (el:Nat) (xs:List α) : Prop where
 heap:M.heap b=some (.row (E.row xs) opn el 0)
 lt:b<M.next
theorem Rw.sl {b el:Nat} {p:Bool} {cap:Cap} (h:Rw E M b p el xs) : Sl E M (.slc b 0 xs.length cap) xs:=by
 refine .slc _ _ _ _ _ h.lt ?_
 rw[RM.dw h.heap (by rw[E.eY]; omega),List.drop_zero,← E.eY,List.take_length]
theorem Rw.keep {b el:Nat} {p:Bool} {bs:List Nat} (h:Rw E M b p el xs) (hk:ag bs M M') (hb:b ∉ bs) : Rw E M' b p el xs :=
 ⟨hk.aP h.heap h.lt hb,Nat.lt_of_lt_of_le h.lt hk.next⟩
theorem Rw.new {el:Nat} {p:Bool} (M:RM) (xs:List α) : Rw E (M.push (.row (E.row xs) p el 0)) M.next p el xs :=
 ⟨RM.aS _,by simp[RM.push]⟩
theorem Rw.load {b el:Nat} {p:Bool} (h:Rw E M b p el xs) {i:Nat} (hi:i<xs.length) : M.loads b (i * E.size) E.size=some (E.cells xs[i]):=by
 have hsum:i * E.size + E.size≤xs.length * E.size:=by rw[← Nat.succ_mul]; exact Nat.mul_le_mul_right _ hi
 rw[RM.dw h.heap (by rw[E.eY]; exact hsum),E.QC hi]
theorem Rw.au {b el:Nat} {p:Bool} (h:Rw E M b p el xs) {i:Nat} (hi:i<xs.length) (hsz:E.size=1:=by rfl) {x:AV} (hx:E.cells xs[i]=[x]:=by rfl) : M.cell b i=some x:=by
 have:=h.load hi
 rw[hsz,Nat.mul_one] at this
 exact rW this (by rw[hx]; rfl)
end
@[go_sem] theorem aoI (el:Nat) (s:List UInt8) (K:RB→(Nat→AV)→Prop) : Vr el (St s) K=K (.row (BY.row s) true el 0) (fun b=>.slc b 0 s.length (.op 1)):=by
 rw[ab3]
 apply propext; unfold Vr
 constructor
 ·rintro⟨s',h,hk⟩; cases h; exact hk
 ·intro hk; exact⟨s,rfl,hk⟩
def apz (b:UInt8) : UInt8:=if 65≤b.toNat∧b.toNat≤90 then b + 32 else b
def low (s:List UInt8) : List UInt8:=s.map apz
structure qd (n:Nat) (bs:List Nat) (M M' : RM) : Prop where
 base:M'.base=M.base
 next:M.next≤M'.next
 heap:∀ c,c<n→c ∉ bs→M'.heap c=M.heap c
theorem qd.refl (n:Nat) (bs:List Nat) (M:RM) : qd n bs M M:=⟨rfl,Nat.le_refl _,fun _ _ _=>rfl⟩
theorem qd.trans {n:Nat} {bs:List Nat} {M M1 M2:RM} (h:qd n bs M M1) (k:qd n bs M1 M2) : qd n bs M M2 :=
 ⟨k.base.trans h.base,Nat.le_trans h.next k.next,fun c h1 h2=>(k.heap c h1 h2).trans (h.heap c h1 h2)⟩
theorem ag.to {bs cs:List Nat} {n:Nat} {M M' : RM} (h:ag bs M M') (hn:n≤M.next) (hb:∀ b∈bs,n≤b∨b∈cs) : qd n cs M M' :=
 ⟨h.base,h.next,fun c h1 h2=>h.heap c (Nat.lt_of_lt_of_le h1 hn) (fun hm=>by rcases hb c hm with h3 | h3; omega; exact h2 h3)⟩
theorem ag.ahL {bs cs:List Nat} {n:Nat} {M0 M M' : RM} (h:ag bs M0 M) (k:qd n cs M M') (hn:M0.next≤n) (hc:∀ c∈cs,M0.next≤c∨c∈bs) : ag bs M0 M' :=
 ⟨k.base.trans h.base,Nat.le_trans h.next k.next,fun c h1 h2=>by
  rw[k.heap c (Nat.lt_of_lt_of_le h1 hn) (fun hm=>by rcases hc c hm with h3 | h3; omega; exact h2 h3),h.heap c h1 h2]⟩
theorem qd.aP {n:Nat} {bs:List Nat} {M M' : RM} (h:qd n bs M M') {b:Nat} {x:RB} (hh:M.heap b=some x) (hlt:b<n) (hb:b ∉ bs) : M'.heap b=some x:=by rw[h.heap b hlt hb,hh]
theorem Own.same {M M' : RM} {n el size n0:Nat} {v:AV} {cs:List AV} (h:Own M n0 el size v cs n) (hn:M'.next=M.next) (hb:∀ c∈aH v,M'.heap c=M.heap c) (hbase:M'.base=M.base) : Own M' n0 el size v cs n:=by
 cases h with
 | nil=>exact .nil
 | ex0 b o h1 h2 h3=>exact .ex0 b o h1 (by omega) (by simpa [RM.Kq,hb b (by simp[aH]),RM.lo,hbase] using h3)
 | op b n cs h1 h2 h3 h4=>exact .op b n cs h1 (by omega) (by rw[hb b (by simp[aH]),h3]) h4
theorem Own.one {M:RM} {n el size n0:Nat} {v:AV} {cs:List AV} (h:Own M n0 el size v cs n) : oneCell v=true:=by
 cases h <;> rfl
def abT (B:Base) (c:aj) : Prop:=∀ {M:RM} {Q:ak},M.base=B→Q (Bo true) M→c [] M Q
theorem Own.cells {M:RM} {n el size n0:Nat} {v:AV} {cs:List AV} (h:Own M n0 el size v cs n) : v.cells=[v]:=by
 cases h <;> rfl
section
variable {P:Program} {ρ:Ren} {M:RM} {w w' : World}
theorem bI.below {base:Base} {A:AW} (h:bI P base ρ A w) (hb:Below w.heap.size w w') (hn:base.n≤w.heap.size) : bI P base ρ A w' where
 dom b i hbi:=⟨(h.dom b i hbi).1,Nat.lt_of_lt_of_le (h.dom b i hbi).2 hb.size⟩
 blk b i x hbi hx:=let ⟨o,ho,hr⟩:=h.blk b i x hbi hx; ⟨o,by rw[hb.block _ (h.dom b i hbi).2]; exact ho,hr⟩
 sep:=h.sep
 top:=h.top
 lo:=h.lo
 inv:=base.low w w' (fun c hc=>hb.block c (Nat.lt_of_lt_of_le hc hn)) h.inv
theorem Step.of_below {base n:Nat} (hb:Below w.heap.size w w') (hn:base≤w.heap.size) : Step base n ρ w ρ w' where
 os:=hb.os
 tape:=hb.tape
 output:=hb.output
 size:=hb.size
 frame c hc _:=hb.block c hc
 ext _ _:=rfl
 fresh b i h:=.inl ⟨b,i,h,rfl⟩
 low c hc:=hb.block c (Nat.lt_of_lt_of_le hc hn)
theorem After.below (h:dU P ρ M w) (hb:Below w.heap.size w w') : After P M ρ w M ρ w':=by
 obtain⟨A,hA⟩:=h
 refine nY hA (Step.of_below hb hA.size) (hA.rel.below hb hA.size) rfl hA.next (Nat.le_refl _) fun b x hx=>?_
 rcases hA.blk b x hx with h | ⟨c,rfl,_⟩
 ·exact .inl h
 ·exact .inr ⟨c,rfl,hx⟩
end
structure sJ (α:Type) where
 size:Nat
 rel:RM→List AV→α→(Nat→Prop)→Prop
 len:∀ {M cs a S},rel M cs a S→cs.length=size
 one:∀ {M cs a S},rel M cs a S→cs.all oneCell=true
 mono:∀ {M cs a S S'},rel M cs a S→(∀ b,S b→S' b)→rel M cs a S'
 lt:∀ {M cs a S},rel M cs a S→rel M cs a (fun b=>S b∧b<M.next)
 keep:∀ {M M' cs a S bs},rel M cs a S→ag bs M M'→(∀ b∈bs,¬ S b)→rel M' cs a S
def Enc.Cq {α:Type} (E:Enc α) : sJ α where
 size:=E.size
 rel _ cs a _:=cs=E.cells a
 len h:=by subst h; exact E.len _
 one h:=by subst h; exact E.one _
 mono h _:=h
 lt h:=h
 keep h _ _:=h
inductive ek {α:Type} (R:sJ α) (M:RM) (S:Nat→Prop) : List AV→List α→Prop
 | nil:ek R M S [] []
 | cons {cs ds:List AV} {a:α} {xs:List α} : R.rel M cs a S→ek R M S ds xs→ek R M S (cs++ds) (a :: xs)
section
variable {α:Type} {R:sJ α} {M M' : RM} {S S' : Nat→Prop} {cs ds:List AV} {xs ys:List α} {a:α}
theorem ek.len (h:ek R M S cs xs) : cs.length=xs.length * R.size:=by
 induction h with
 | nil=>simp
 | cons h1 _ ih=>rw[List.length_append,R.len h1,ih,List.length_cons,Nat.succ_mul,Nat.add_comm]
theorem ek.one (h:ek R M S cs xs) : cs.all oneCell=true:=by
 induction h with
 | nil=>rfl
 | cons h1 _ ih=>rw[List.all_append,R.one h1,ih]; rfl
theorem ek.mono (h:ek R M S cs xs) (hs:∀ b,S b→S' b) : ek R M S' cs xs:=by
 induction h with
 | nil=>exact .nil
 | cons h1 _ ih=>exact .cons (R.mono h1 hs) ih
theorem ek.lt (h:ek R M S cs xs) : ek R M (fun b=>S b∧b<M.next) cs xs:=by
 induction h with
 | nil=>exact .nil
 | cons h1 _ ih=>exact .cons (R.lt h1) ih
theorem ek.keep {bs:List Nat} (h:ek R M S cs xs) (hk:ag bs M M') (hb:∀ b∈bs,¬ S b) : ek R M' S cs xs:=by
 induction h with
 | nil=>exact .nil
 | cons h1 _ ih=>exact .cons (R.keep h1 hk hb) ih
theorem ek.append (h:ek R M S cs xs) (k:ek R M S ds ys) : ek R M S (cs++ds) (xs++ys):=by
 induction h with
 | nil=>exact k
 | cons h1 _ ih=>rw[List.append_assoc]; exact .cons h1 ih
theorem ek.single (h:R.rel M cs a S) : ek R M S cs [a]:=by
 have:=ek.cons h .nil
 simpa using this
theorem ek.get (h:ek R M S cs xs) : ∀ {i:Nat} (hi:i<xs.length),R.rel M ((cs.drop (i * R.size)).take R.size) xs[i] S:=by
 induction h with
 | nil=>intro i hi; simp at hi
 | cons h1 h2 ih =>
   rename_i c1 d1 a1 x1
   intro i hi
   cases i with
   | zero =>
     rw[Nat.zero_mul,List.drop_zero,List.take_append_of_le_length (by rw[R.len h1]; exact Nat.le_refl _),List.take_of_length_le (by rw[R.len h1]; exact Nat.le_refl _)]
     exact h1
   | succ i =>
     rw[Nat.succ_mul,Nat.add_comm,← List.drop_drop,List.drop_left' (R.len h1)]
     exact ih (by simpa using hi)
theorem ek.take (h:ek R M S cs xs) : ∀ (k:Nat),ek R M S (cs.take (k * R.size)) (xs.take k):=by
 induction h with
 | nil=>intro k; simp; exact .nil
 | cons h1 h2 ih =>
   intro k
   cases k with
   | zero=>simp; exact .nil
   | succ k =>
     rw[Nat.succ_mul,Nat.add_comm,List.take_append,List.take_of_length_le (by rw[R.len h1]; omega),R.len h1,Nat.add_sub_cancel_left]
     exact .cons h1 (ih k)
theorem ek.drop (h:ek R M S cs xs) : ∀ (k:Nat),ek R M S (cs.drop (k * R.size)) (xs.drop k):=by
 induction h with
 | nil=>intro k; simp; exact .nil
 | cons h1 h2 ih =>
   intro k
   cases k with
   | zero=>simp; exact .cons h1 h2
   | succ k =>
     rw[Nat.succ_mul,Nat.add_comm,← List.drop_drop,List.drop_left' (R.len h1)]
     exact ih k
theorem ek.cells {E:Enc α} : ∀ {cs:List AV} {xs:List α},ek E.Cq M S cs xs→cs=E.row xs
 | _,_,.nil=>rfl
 | _,_,.cons h1 h2=>by rw[Enc.l7,ek.cells h2]; rw[show _=_ from h1]
theorem ek.of_cells {E:Enc α} : ∀ (xs:List α),ek E.Cq M S (E.row xs) xs
 | []=>.nil
 | x :: xs=>by rw[Enc.l7]; exact .cons rfl (ek.of_cells xs)
def iy (R:sJ α) (M:RM) (v:AV) (xs:List α) (S:Nat→Prop) : Prop :=
 ∃ cs,aL M R.size v cs xs.length∧(∀ b∈aH v,S b)∧ek R M S cs xs
theorem aL.lt {size n:Nat} {v:AV} (h:aL M size v cs n) : ∀ b∈aH v,b<M.next:=by
 cases h with
 | nil=>intro b hb; simp[aH] at hb
 | emp=>intro b hb; simp[aH] at hb
 | slc b o n cap cs hb _=>intro c hc; simp[aH] at hc; omega
theorem aL.one {size n:Nat} {v:AV} (h:aL M size v cs n) : oneCell v=true:=by
 cases h <;> rfl
theorem aL.cells {size n:Nat} {v:AV} (h:aL M size v cs n) : v.cells=[v]:=by
 cases h <;> rfl
variable {v:AV}
theorem iy.mono (h:iy R M v xs S) (hs:∀ b,S b→S' b) : iy R M v xs S':=let ⟨cs,h1,h2,h3⟩:=h; ⟨cs,h1,fun b hb=>hs b (h2 b hb),h3.mono hs⟩
theorem iy.lt (h:iy R M v xs S) : iy R M v xs (fun b=>S b∧b<M.next):=let ⟨cs,h1,h2,h3⟩:=h; ⟨cs,h1,fun b hb=>⟨h2 b hb,h1.lt b hb⟩,h3.lt⟩
theorem iy.keep {bs:List Nat} (h:iy R M v xs S) (hk:ag bs M M') (hb:∀ b∈bs,¬ S b) : iy R M' v xs S :=
 let ⟨cs,h1,h2,h3⟩:=h; ⟨cs,h1.keep hk (fun b hv hbs=>hb b hbs (h2 b hv)),h2,h3.keep hk hb⟩
theorem iy.len (h:iy R M v xs S) {K:AV→Prop} : bL v K=K (N .i64 xs.length):=let ⟨cs,h1,_,_⟩:=h; h1.len
theorem iy.one (h:iy R M v xs S) : oneCell v=true:=let ⟨cs,h1,_,_⟩:=h; h1.one
theorem iy.cells (h:iy R M v xs S) : v.cells=[v]:=let ⟨cs,h1,_,_⟩:=h; h1.cells
theorem iy.nil:iy R M bZ [] S:=⟨[],.nil,by simp[aH],.nil⟩
theorem iy.sl {E:Enc α} (h:iy E.Cq M v xs S) : Sl E M v xs:=by
 obtain⟨cs,h1,h2,h3⟩:=h
 rw[h3.cells] at h1
 exact h1
theorem iy.aaZ {E:Enc α} (h:Sl E M v xs) (hs:∀ b∈aH v,S b) : iy E.Cq M v xs S:=⟨_,h,hs,ek.of_cells xs⟩
theorem iy.at (h:iy R M v xs S) {i:Nat} (sz:Nat) (j:Int) (hi:i<xs.length) (hsz:R.size=sz:=by rfl) (hj:j=(i:Int):=by rfl) :
  ∃ b o cs,b<M.next∧b∈aH v∧(∀ (kd:IntKind) (K:AV→Prop),ai v (N kd j) sz K=K (.ptr b o))∧M.loads b o sz=some cs∧R.rel M cs xs[i] S:=by
 subst hsz hj
 obtain⟨cs,h1,h2,h3⟩:=h
 obtain⟨b,o,cap,rfl,hb,hl⟩:=h1.pos (by omega)
 have hsum:i * R.size + R.size≤xs.length * R.size:=by rw[← Nat.succ_mul]; exact Nat.mul_le_mul_right _ hi
 refine⟨b,o + i * R.size,(cs.drop (i * R.size)).take R.size,hb,by simp[aH],fun kd K=>?_, ?_,h3.get hi⟩
 ·rw[pW]
  simp only[Int.toNat_natCast]
  exact propext ⟨fun h=>h.2.2,fun h=>⟨by omega,by omega,h⟩⟩
 ·rw[yB hl (i * R.size) R.size hsum]
def sJ.slice (R:sJ α) : sJ (List α) where
 size:=1
 rel M cs xs S:=∃ v,cs=[v]∧iy R M v xs S
 len h:=by obtain⟨v,rfl,_⟩:=h; rfl
 one h:=by obtain⟨v,rfl,h⟩:=h; simp[h.one]
 mono h hs:=by obtain⟨v,rfl,h⟩:=h; exact⟨v,rfl,h.mono hs⟩
 lt h:=by obtain⟨v,rfl,h⟩:=h; exact⟨v,rfl,h.lt⟩
 keep h hk hb:=by obtain⟨v,rfl,h⟩:=h; exact⟨v,rfl,h.keep hk hb⟩
def nZ (R:sJ α) (M:RM) (base el:Nat) (v:AV) (xs:List α) (S:Nat→Prop) : Prop :=
 ∃ cs,Own M base el R.size v cs xs.length∧ek R M S cs xs
theorem nZ.nil {base el:Nat} : nZ R M base el bZ [] S:=⟨[],.nil,.nil⟩
theorem nZ.mono {base el:Nat} (h:nZ R M base el v xs S) (hs:∀ b,S b→S' b) : nZ R M base el v xs S':=let ⟨cs,h1,h2⟩:=h; ⟨cs,h1,h2.mono hs⟩
theorem nZ.lt {base el:Nat} (h:nZ R M base el v xs S) : nZ R M base el v xs (fun b=>S b∧b<M.next):=let ⟨cs,h1,h2⟩:=h; ⟨cs,h1,h2.lt⟩
theorem nZ.keep {base el:Nat} {bs:List Nat} (h:nZ R M base el v xs S) (hk:ag bs M M') (hb:∀ b∈bs,¬ S b) (hv:∀ b∈aH v,b ∉ bs) : nZ R M' base el v xs S :=
 let ⟨cs,h1,h2⟩:=h; ⟨cs,h1.keep hk hv,h2.keep hk hb⟩
theorem nZ.len {base el:Nat} (h:nZ R M base el v xs S) {K:AV→Prop} : bL v K=K (N .i64 xs.length):=let ⟨cs,h1,_⟩:=h; h1.jq.len
theorem nZ.blk {base el:Nat} (h:nZ R M base el v xs S) : ∀ b∈aH v,base≤b∧b<M.next:=let ⟨cs,h1,_⟩:=h; h1.blk
theorem nZ.slD {base el:Nat} (h:nZ R M base el v xs S) (hs:∀ b,base≤b→b<M.next→S b) : iy R M v xs S :=
 let ⟨cs,h1,h2⟩:=h; ⟨cs,h1.jq,fun b hb=>hs b (h1.blk b hb).1 (h1.blk b hb).2,h2⟩
theorem nZ.cells {base el:Nat} (h:nZ R M base el v xs S) : v.cells=[v]:=let ⟨cs,h1,_⟩:=h; h1.cells
theorem nZ.one {base el:Nat} (h:nZ R M base el v xs S) : oneCell v=true:=let ⟨cs,h1,_⟩:=h; h1.one
theorem nZ.app {base T bytes:Nat} {zs:List AV} {K:ak} (ho:nZ R M base T v xs S) (ha:R.rel M cs a S) (hb:base≤M.next) (hs:1≤R.size)
  (hd:∀ b∈aH v,¬ S b) (hS:∀ b,S b→b<M.next)
  (hn:(xs.length + 1) * bytes≤140737488355328) (hn2:xs.length + 1≤140737488355328)
  (hK:∀ v' M',nZ R M' base T v' (xs++[a]) S→ag (aH v) M M'→M.next≤M'.next→(v'=v∨∀ b∈aH v',M.next≤b)→(∀ b∈aH v',¬ S b)→K v' M') :
  appW T R.size bytes zs false v (.slc M.next 0 1 (.ex 1)) (M.push (.row cs false T 0)) K:=by
 obtain⟨ds,h1,h2⟩:=ho
 have hk:ag [] M (M.push (.row cs false T 0)):=(ag.refl _ _).push _
 have hl:=R.len ha
 have hnl:oW (M.push (.row cs false T 0)) R.size zs false (.slc M.next 0 1 (.ex 1))=some (1,cs):=by
  simp only[oW,Nat.one_mul]
  rw[RM.dw (RM.aS _) (by omega),List.drop_zero,← hl,List.take_length]
 refine z8 (h1.keep hk (by simp)) (Nat.le_trans hb hk.next) hs hnl (by rw[hl,Nat.one_mul]) (R.one ha) hn hn2 ?_
 intro v' M' q1 q2 q3 q4
 have kk:ag (aH v) M M':=(hk.mono (by simp)).trans q2
 refine hK v' M' ⟨_,by simpa using q1, ?_⟩ kk (Nat.le_trans hk.next q3) (q4.imp id fun h b hb=>Nat.le_trans hk.next (h b hb)) ?_
 ·exact(h2.keep kk hd).append (ek.single (R.keep ha kk hd))
 ·rcases q4 with rfl | q4
  ·exact hd
  ·intro b hb hSb
   have:=q4 b hb
   have:=hS b hSb
   simp only[RM.push] at *
   omega
end
section
variable {M M' : RM} {b i n e f:Nat} {l:List AV} {p:Bool} {x:AV}
theorem az {K:AV→Prop} (h:M.heap b=some (.row l p e f)) (hx:l[i]?=some x) : au M (.ptr b i) K=K x:=by
 rw[gL,RM.cell_of h,hx]; simp
theorem fA {K:AV→Prop} (h:M.heap b=some (.row l p e f)) (hn:l.length=n) : aA M (.ptr b 0) n K=K (.agg l):=by
 rw[gK,RM.UX h]
 have:yu (some l) 0 n=some l:=by simp[yu,← hn]
 rw[this]; simp
theorem fG {K:RM→Prop} (h:M.heap b=some (.row l p e 0)) (hi:i<l.length) (hc:x.cells=[x]) (h1:oneCell x=true) : aC M (.ptr b i) x 1 K=K (M.put b (.row (l.set i x) p e 0)):=by
 rw[zJ,hc,RM.yw h,rF (by simp only[List.length_cons,List.length_nil]; omega) (Nat.zero_le _) (by simp[h1])]
 have:l.take i++[x]++l.drop (i + 1)=l.set i x:=by
  rw[List.set_eq_take_append_cons_drop,if_pos hi]; simp
 simp[this]
theorem yS {K:RM→Prop} (l' : List AV) (h:M.heap b=some (.row l p e 0)) (hi:i<l.length) (hc:x.cells=[x]) (h1:oneCell x=true) (hl:l.set i x=l') : aC M (.ptr b i) x 1 K=K (M.put b (.row l' p e 0)):=by
 rw[fG h hi hc h1,hl]
theorem bG {K:AV→Prop} : aJ (.ptr b 0) n K=K (.ptr b n):=by rw[aU,Nat.zero_add]
theorem gz {K:RM→Prop} (h:M.heap b=some (.row l p e 0)) (hn:x.cells.length=n) (hl:l.length=n) (h1:x.cells.all oneCell=true) : aC M (.ptr b 0) x n K=K (M.put b (.row x.cells p e 0)):=by
 rw[zJ,RM.yw h,Sg (by rw[hn,hl]) h1]
 simp[hn]
theorem qi {c:Nat} {y z:RB} (h:M.heap b=some y) (hb:b≠c) : (M.put c z).heap b=some y:=by
 simp only[RM.put]; rw[if_neg hb]; exact h
theorem aR (y:RB) : (M.put b y).heap b=some y:=RM.xm _ _
theorem lZ {y z:RB} (h:M.heap b=some y) (hb:b<M.next) : (M.push z).heap b=some y:=by
 simp only[RM.push]; rw[if_neg (by omega)]; exact h
theorem vB (y:RB) : (M.push y).next=M.next + 1:=rfl
theorem lX (c:Nat) (y:RB) : (M.put c y).next=M.next:=rfl
theorem ag.new {bs:List Nat} (h:ag bs M M') {b:Nat} (y:RB) (hb:M.next≤b) : ag bs M (M'.put b y):=h.put y (.inl hb)
end
variable {M:RM}
theorem lM {a:AV} {l:List AV} {K:AV→Prop} : eB (.tup (a :: l)) 0 K=K a:=by rw[Ul]; simp
theorem lH {a b:AV} {l:List AV} {K:AV→Prop} : eB (.tup (a :: b :: l)) 1 K=K b:=by rw[Ul]; simp
theorem dD {p q:Prop} : av (Bo true) p q=p:=by simp[Xi]
theorem bD {p q:Prop} : av (Bo false) p q=q:=by simp[Xi]
theorem aG {b:Bool} {p q:Prop} (h1:b=true→p) (h2:b=false→q) : av (Bo b) p q:=⟨h1,h2⟩
theorem dx {f g:ak→Prop} {k:ak} : ah (Bo true) true f g k=f k:=rfl
theorem iq {f g:ak→Prop} {k:ak} : ah (Bo false) false f g k=f k:=rfl
theorem pz {f g:ak→Prop} {k:ak} : ah (Bo true) false f g k=g k:=rfl
theorem bS {f g:ak→Prop} {k:ak} : ah (Bo false) true f g k=g k:=rfl
theorem o8 {f g:KR→Prop} {k:KR} : af (Bo true) true f g k=f k:=rfl
theorem qV {f g:KR→Prop} {k:KR} : af (Bo false) false f g k=f k:=rfl
theorem Iz {f g:KR→Prop} {k:KR} : af (Bo true) false f g k=g k:=rfl
theorem pq {f g:KR→Prop} {k:KR} : af (Bo false) true f g k=g k:=rfl
theorem Em {w:Bool} {f g:ak→Prop} {k:ak} : ah .undef w f g k=g k:=rfl
theorem ad7 {w:Bool} {f g:KR→Prop} {k:KR} : af .undef w f g k=g k:=rfl
theorem eT {a b:AV} {K:AV→Prop} : aK (Bo true) a b K=K a:=by rw[UB]; rfl
theorem df {a b:AV} {K:AV→Prop} : aK (Bo false) a b K=K b:=by rw[UB]; rfl
theorem aL.known {size:Nat} {v:AV} {cs:List AV} {n:Nat} (h:aL M size v cs n) : known v=true:=by
 cases h <;> rfl
theorem dS {t:TypeId} {cs:List AV} {K:RB→(Nat→AV)→Prop} (h1:cs.all oneCell=true) (h2:1≤cs.length) : jr t (.agg cs) K=K (.row cs false t 0) (fun b=>.ptr b 0):=by
 unfold jr
 exact propext ⟨fun h=>h.2.2,fun h=>⟨h1,h2,h⟩⟩
theorem amm {x y a b:AV} (h1:known x=true) (h2:x.cells=[x]) (h3:known y=true) (h4:y.cells=[y]) : BX [a,b] [(0,1,x),(1,1,y)]=some [x,y]:=by
 simp[BX,h1,h2,h3,h4]
def sJ.pre {α β:Type} (E:Enc α) (R:sJ β) : sJ (α × β) where
 size:=E.size + R.size
 rel M cs a S:=∃ ds,cs=E.cells a.1++ds∧R.rel M ds a.2 S
 len h:=by obtain⟨ds,rfl,h⟩:=h; rw[List.length_append,E.len,R.len h]
 one h:=by obtain⟨ds,rfl,h⟩:=h; rw[List.all_append,E.one,R.one h]; rfl
 mono h hs:=by obtain⟨ds,rfl,h⟩:=h; exact⟨ds,rfl,R.mono h hs⟩
 lt h:=by obtain⟨ds,rfl,h⟩:=h; exact⟨ds,rfl,R.lt h⟩
 keep h hk hb:=by obtain⟨ds,rfl,h⟩:=h; exact⟨ds,rfl,R.keep h hk hb⟩
def sJ.post {α β:Type} (R:sJ α) (E:Enc β) : sJ (α × β) where
 size:=R.size + E.size
 rel M cs a S:=∃ ds,cs=ds++E.cells a.2∧R.rel M ds a.1 S
 len h:=by obtain⟨ds,rfl,h⟩:=h; rw[List.length_append,E.len,R.len h]
 one h:=by obtain⟨ds,rfl,h⟩:=h; rw[List.all_append,E.one,R.one h]; rfl
 mono h hs:=by obtain⟨ds,rfl,h⟩:=h; exact⟨ds,rfl,R.mono h hs⟩
 lt h:=by obtain⟨ds,rfl,h⟩:=h; exact⟨ds,rfl,R.lt h⟩
 keep h hk hb:=by obtain⟨ds,rfl,h⟩:=h; exact⟨ds,rfl,R.keep h hk hb⟩
def sJ.map {α β:Type} (R:sJ α) (g:β→α) : sJ β where
 size:=R.size
 rel M cs a S:=R.rel M cs (g a) S
 len h:=R.len h
 one h:=R.one h
 mono h hs:=R.mono h hs
 lt h:=R.lt h
 keep h hk hb:=R.keep h hk hb
end Go.Ab
set_option maxRecDepth 10000
namespace Go.Ab.aD
open Go Go.Ab
def xZ (c:aj) : Prop:=∀ {M:RM} {x y:Nat} {Q:ak},Q (Bo (decide (x<y))) M→c [N .u64 (x:Int),N .u64 (y:Int)] M Q
theorem Nb {M:RM} {x:Nat} {Q:ak} (h:Q (Bo false) M) : rH (N .u64 (x:Int)) M Q:=by
 unfold rH
 rw[ll,bne_self_eq_false]; exact h
theorem Ye {M:RM} {x:Nat} {Q:ak} (h:Q (Bo false) M) : uk (N .u64 (x:Int)) M Q:=by
 unfold uk
 rw[ll,bne_self_eq_false]; exact h
def Z7 (c:aj) : Prop:=∀ {M:RM} {x:Nat} {Q:ak},Q (Bo false) M→c [N .u64 (x:Int)] M Q
theorem acf {cn:aj} (hn:Z7 cn) : xZ fun args M Q=>∃ a0 a1,args=[a0,a1]∧y7 cn a0 a1 M Q:=by
 intro M x y Q hQ
 refine⟨_,_,rfl, ?_⟩
 unfold y7
 simp only[j6]
 refine hn ?_
 rw[bS]
 dsimp only
 rw[df,iq,dB]
 dsimp only
 rw[df,show decide ((x:Int)<(y:Int))=decide (x<y) by simp]
 exact hQ
def Asc (xs:List Nat) : Prop:=xs.Pairwise (· < ·)
def below (n:Nat) (xs:List Nat) : Nat:=(xs.takeWhile (fun x=>decide (x<n))).length
theorem below_le (n:Nat) (xs:List Nat) : below n xs≤xs.length:=by
 unfold below
 induction xs with
 | nil=>simp
 | cons x xs ih =>
   rw[List.takeWhile_cons]
   split <;> simp <;> omega
theorem Asc.lt {xs:List Nat} (h:Asc xs) {i j:Nat} (hij:i<j) (hj:j<xs.length) : xs[i]'(by omega)<xs[j]:=List.pairwise_iff_getElem.1 h i j (by omega) hj hij
theorem Ff {n:Nat} : ∀ {xs:List Nat} {i:Nat},i≤xs.length→(∀ k (hk:k<xs.length),k<i→xs[k]<n)→(∀ (hi:i<xs.length),n≤xs[i])→below n xs=i
 | [],i,h,_,_=>by simp at h; subst h; rfl
 | x :: xs,0,_,_,h2=>by
   have:=h2 (by simp)
   simp at this
   unfold below
   rw[List.takeWhile_cons,if_neg (by simp; omega)]; rfl
 | x :: xs,i + 1,h,h1,h2=>by
   have hx:=h1 0 (by simp) (by omega)
   have:=Ff (n:=n) (xs:=xs) (i:=i) (by simpa using h) (fun k hk hki=>by have:=h1 (k + 1) (by simp; omega) (by omega); simpa using this) (fun hi=>by have:=h2 (by simp; omega); simpa using this)
   unfold below at *
   rw[List.takeWhile_cons,if_pos (by simpa using hx),List.length_cons,this]
theorem QT {n:Nat} {xs:List Nat} (ha:Asc xs) : (n∈xs↔∃ h:below n xs<xs.length,xs[below n xs]=n):=by
 constructor
 ·intro hm
  obtain⟨i,hi,he⟩:=List.getElem_of_mem hm
  have hb:below n xs=i:=Ff (by omega) (fun k hk hki=>by have:=ha.lt hki hi; omega) (fun _=>by omega)
  exact⟨by omega,by simp only[hb]; exact he⟩
 ·rintro⟨h,he⟩
  rw[← he]; exact List.getElem_mem h
theorem Ub {n:Nat} : ∀ {xs:List Nat} {k:Nat} (hk:k<xs.length),k<below n xs→xs[k]<n
 | x :: xs,k,hk,h=>by
   unfold below at h
   rw[List.takeWhile_cons] at h
   split at h
   ·rename_i hx
    cases k with
    | zero=>simpa using hx
    | succ k=>exact Ub (xs:=xs) (k:=k) (by simpa using hk) (by unfold below; simpa using h)
   ·simp at h
theorem Vl {n:Nat} : ∀ {xs:List Nat} (h:below n xs<xs.length),n≤xs[below n xs]
 | x :: xs,h=>by
   unfold below at *
   rw[List.takeWhile_cons] at h
   simp only[List.takeWhile_cons]
   by_cases hx:x<n
   ·simp only[hx,decide_true,if_true,List.length_cons] at h ⊢
    exact Vl (xs:=xs) (by unfold below; omega)
   ·simp only[hx,decide_false,Bool.false_eq_true,if_false,List.length_nil,List.getElem_cons_zero]
    omega
def IW (c:aj) : Prop:=∀ {M:RM} {v:AV} {xs:List Nat} {n:Nat} {Q:ak},Sl aX M v xs→xs.length≤1000000→Asc xs→Q (.tup [N .i64 ((below n xs:Nat) : Int),Bo (decide (n∈xs))]) M→c [v,N .u64 (n:Int)] M Q
theorem half (i j:Nat) (h:i + j<9223372036854775808) : N .i64 (IntKind.i64.wrap (Vs .u64 (IntKind.u64.wrap (IntKind.i64.wrap ((i:Int) + (j:Int)))) 1))=N .i64 (((i + j) / 2:Nat) : Int):=by
 rw[show IntKind.i64.wrap ((i:Int) + (j:Int))=((i + j:Nat) : Int) by rw[aW (by omega) (by omega)]; rfl]
 rw[show IntKind.u64.wrap (((i + j:Nat) : Int))=((i + j:Nat) : Int) by unfold IntKind.wrap; simp[IntKind.bits,IntKind.signed]; omega]
 rw[show(1:Int)=((1:Nat) : Int) from rfl,KH _ _ _ (by decide)]
 rw[show((i + j:Nat) / 2 ^ 1)=(i + j) / 2 by simp]
 rw[aW (by omega) (by omega)]
theorem Yw {cl cn:aj} (hl:xZ cl) (hn:Z7 cn) : IW fun args M Q=>∃ a0 a1,args=[a0,a1]∧oq cl cn a0 a1 M Q:=by
 intro M v xs n Q hv hxl ha hQ
 refine⟨_,_,rfl, ?_⟩
 unfold oq
 simp only[j6]
 rw[aL.len hv]
 refine aI (fun m ys M3=>M3=M∧∃ i j:Nat,m=j - i∧ys=[N .i64 (i:Int),N .i64 (j:Int)]∧i≤j∧j≤xs.length∧(∀ k (hk:k<xs.length),k<i→xs[k]<n)∧(∀ k (hk:k<xs.length),j≤k→n≤xs[k])) _
  ⟨rfl,0,xs.length,rfl,rfl,Nat.zero_le _,Nat.le_refl _,by omega,by omega⟩ ?_
 rintro next m ys M3 hnext ⟨rfl,i,j,rfl,rfl,hij,hj,h1,h2⟩
 dsimp only[aa]
 rw[dB]
 refine aG (fun hlt=>?_) (fun hge=>?_)
 ·have hlt:i<j:=by simpa using hlt
  have hh:(i + j) / 2<j:=by omega
  have hh2:i≤(i + j) / 2:=by omega
  rw[cZ,nJ,Jq]
  refine⟨by omega, ?_⟩
  rw[nJ,half i j (by omega)]
  have hm:(i + j) / 2<xs.length:=by omega
  obtain⟨b,o,_,_,hidx,hc⟩:=Sl.Hu (E:=aX) hv (((i + j) / 2:Nat) : Int) hm
  have hc:=hc _ rfl
  rw[hidx,gL]
  refine⟨_,hc, ?_⟩
  refine hl ?_
  refine aG (fun h=>?_) (fun h=>?_)
  ·have h:xs[(i + j) / 2]<n:=by simpa using h
   rw[cZ,iN (by omega)]
   refine hnext _ _ _ (by omega) ⟨rfl,(i + j) / 2 + 1,j,rfl,rfl,by omega,hj,fun k hk hki=>?_,h2⟩
   rcases Nat.lt_or_ge k ((i + j) / 2) with h3 | h3
   ·have:=ha.lt h3 hm; omega
   ·have:k=(i + j) / 2:=by omega
    subst this; exact h
  ·have h:n≤xs[(i + j) / 2]:=by simp at h; omega
   refine hnext _ _ _ (by omega) ⟨rfl,i,(i + j) / 2,rfl,rfl,by omega,by omega,h1,fun k hk hki=>?_⟩
   rcases Nat.lt_or_ge ((i + j) / 2) k with h3 | h3
   ·have:=ha.lt h3 hk; omega
   ·have:k=(i + j) / 2:=by omega
    subst this; exact h
 ·have hij:i=j:=by simp at hge; omega
  subst hij
  have hb:below n xs=i:=Ff hj h1 (fun hi=>h2 i hi (Nat.le_refl _))
  rw[hb] at hQ
  rw[dB]
  by_cases hi:i<xs.length
  ·obtain⟨b,o,_,_,hidx,hc⟩:=Sl.Hu (E:=aX) hv (i:Int) hi
   have hc:=hc _ rfl
   have hm:decide (n∈xs)=(xs[i] == n):=by
    have:=QT (n:=n) ha
    simp only[hb] at this
    by_cases h:xs[i]=n
    ·rw[decide_eq_true (this.2 ⟨hi,h⟩)]; simp[h]
    ·rw[decide_eq_false (fun hm=>h (this.1 hm).2)]; simp[h]
   rw[hm] at hQ
   rw[show decide ((i:Int)<(xs.length:Int))=true by simpa using hi,dx,hidx,gL]
   refine⟨_,hc, ?_⟩
   rw[bU,show(((xs[i] : Nat) : Int) == (n:Int))=(xs[i] == n) by
    by_cases h:xs[i]=n
    ·simp[h]
    ·have:((xs[i] : Int) == (n:Int))=false:=by simp; omega
     rw[this]; simp[h]]
   dsimp only
   cases he:xs[i] == n with
   | true =>
     rw[he] at hQ
     simp only[Em,dx,pz,bS,iq,eT,df]
     exact hQ
   | false =>
     rw[he] at hQ
     rw[iq,hidx,gL]
     refine⟨_,hc, ?_⟩
     refine hn ?_
     simp only[Em,dx,pz,bS,iq,eT,df]
     exact hQ
  ·have hm:decide (n∈xs)=false:=by
    refine decide_eq_false fun h=>?_
    have:=(QT (n:=n) ha).1 h
    simp only[hb] at this
    exact hi this.1
   rw[hm] at hQ
   rw[show decide ((i:Int)<(xs.length:Int))=false by simp; omega]
   simp only[Em,dx,pz,bS,iq,eT,df]
   exact hQ
theorem zw {M:RM} {b bx o ox dn sn k e:Nat} {l vs:List AV} {p:Bool} {cap al3:Cap} {K:ak} (hd:M.heap b=some (.row l p e 0)) (hk:Nat.min sn dn=k) (hk0:k≠0) (hl:M.loads bx ox k=some vs) (ho:o + k≤l.length) (hall:vs.all oneCell=true) :
  BI 1 (.slc b o dn cap) (.slc bx ox sn al3) M K=K (N .i64 (k:Int)) (M.put b (.row (l.take o++vs++l.drop (o + k)) p e 0)):=by
 have hvs:=Ii hl
 have hst:M.stores b o vs=some (M.put b (.row (l.take o++vs++l.drop (o + k)) p e 0)):=by
  rw[RM.yw hd,rF (by omega) (Nat.zero_le _) hall,hvs]; rfl
 have:Oq 1 (.slc b o dn cap) (.slc bx ox sn al3) M=some (N .i64 (k:Int),M.put b (.row (l.take o++vs++l.drop (o + k)) p e 0)):=by
  unfold Oq
  simp only[CE,hk,if_neg hk0,firstM,Nat.mul_one,hl,hst]
 unfold BI
 rw[this]
 apply propext
 constructor
 ·rintro⟨v,M',h,hK⟩; cases h; exact hK
 ·intro hK; exact⟨_,_,rfl,hK⟩
theorem vW {size b o n c at' : Nat} (h:at'≤n) (hc:n≤c) (hne:at'≠c) : cO size (.slc b o n (.ex c)) (some (N .i64 (at' : Int))) none none=some (.slc b (o + at' * size) (n - at') (.ex (c - at'))):=by
 simp only[cO,bnd]
 simp[h,hc,Ne.symm hne]
theorem Nz {size b o n c at' : Nat} (h:at'≤c) (hc:c≠0) : cO size (.slc b o n (.ex c)) none (some (N .i64 (at' : Int))) none=some (.slc b o at' (.ex c)):=by
 simp only[cO,bnd]
 simp[h,hc]
theorem qG {size b o n at' : Nat} (h:at'<n) : cO size (.slc b o n (.op size)) (some (N .i64 (at' : Int))) none none=some (.slc b (o + at' * size) (n - at') (.op size)):=by
 simp only[cO,bnd]
 simp[Nat.le_of_lt h]
 omega
theorem anq {A B D:List AV} {X:AV} {k m:Nat} (hA:A.length=k) (hB:B.length=m) : (A++X :: B).take (k + 1)++D++(A++X :: B).drop (k + 1 + m)=A++X :: D:=by
 subst hA; subst hB
 have e:A++X :: B=(A++[X])++B:=by simp
 rw[e,List.take_left' (by simp),List.drop_of_length_le (by simp; omega)]
 simp
def mh:AV→Prop
 | .slc _ _ n (.ex c)=>n≤c
 | .slc _ _ _ (.op e)=>e=1
 | _=>True
def fD (k x:Nat) (xs:List Nat) : List Nat:=xs.take k++x :: xs.drop k
theorem Ed {k x:Nat} {xs:List Nat} (h:k≤xs.length) : (fD k x xs).length=xs.length + 1:=by
 simp[fD]; omega
def afR (c:aj) : Prop:=∀ {M:RM} {ba oa na bb ob nb ea eb:Nat} {ca cb:Cap} {la lb:List AV} {opb:Bool} {Q:ak},ba≠bb→M.heap ba=some (.row la false ea 0)→M.heap bb=some (.row lb opb eb 0)→oa + 1≤la.length→1≤lb.length→Q (Bo false) M→c [.slc ba oa na ca,.slc bb ob nb cb] M Q
theorem uW {i:Nat} (h:i<9223372036854775807) : IntKind.wrap .i64 ((i:Int) + ((1:Nat) : Int))=((i + 1:Nat) : Int):=iN h
theorem qO (k:Nat) : (bM [N .u64 0] k).length=k∧(bM [N .u64 0] k).all oneCell=true:=by
 induction k with
 | zero=>exact⟨rfl,rfl⟩
 | succ k ih=>exact⟨by simp[bM,ih.1],by simp[bM,ih.2,Xv]⟩
theorem abZ {M:RM} {b bx T n c k x ex:Nat} {xs:List Nat} {co cr:aj} {Q:ak} (hov:afR co) (hn:n=xs.length) (hnl:n≤1000000) (hc:n≤c) (hk:k<n)
  (hb:M.heap b=some (.row (aX.row xs++List.replicate (c - n) .top) true T 0)) (hbl:b<M.next) (hx:M.heap bx=some (.row [N .u64 (x:Int)] false ex 0)) (hxl:bx<M.next) (hne:bx≠b)
  (hQ:∀ v' M',Sl aX M' v' (fD k x xs)→mh v'→(∀ c∈aH v',c=b∨M.next≤c)→ag [b] M M'→Q v' M') : nH T co cr (.slc b 0 n (.ex c)) (N .i64 (k:Int)) (.slc bx 0 1 (.ex 1)) M Q:=by
 have hrow:(aX.row xs).length=n:=by rw[Enc.eY,hn]; simp[aX]
 have agJ:(aX.row xs++List.replicate (c - n) AV.top).length=c:=by simp[hrow]; omega
 unfold nH
 rw[vW (by omega) hc (by omega),eH,nX,bU,show((((1:Nat) : Int)) == 0)=false from rfl,bD,nX,bU,
  show(((k:Int)) == (n:Int))=false by simp; omega,bD,cZ,uW (by omega),ahK,jS]
 have hxo:M.loads bx 0 1=some [N .u64 (x:Int)]:=by rw[RM.dw hx (by simp)]; rfl
 have hold:M.loads b k (n - k)=some ((aX.row xs).drop k):=by
  rw[RM.dw hb (by omega),List.drop_append_of_le_length (by omega),List.take_append_of_le_length (by simp[hrow]),List.take_of_length_le (by simp[hrow])]
 have hall:=aX.ve xs
 have hins:aX.row (fD k x xs)=(aX.row xs).take k++N .u64 (x:Int) :: (aX.row xs).drop k:=by
  have h1:=aX.wQ xs k
  have h2:=aX.xL xs k
  simp only[show aX.size=1 from rfl,Nat.mul_one] at h1 h2
  rw[h1,h2,fD,Enc.vP,Enc.l7]; rfl
 have hinl:(fD k x xs).length=n + 1:=by rw[Ed (by omega),hn]
 have htl:((aX.row xs).take k).length=k:=by simp[hrow]; omega
 have hdl:((aX.row xs).drop k).length=n - k:=by simp[hrow]
 refine aG (fun hg=>?_) (fun hg=>?_)
 ·have hcn:c=n:=by simp at hg; omega
  subst hcn
  rw[Nat.sub_self,List.replicate_zero,List.append_nil] at hb
  rw[Nz (by omega) (by omega),eH,cZ,uW (by omega),ig,
   show IntKind.wrap .i64 (((c + 1:Nat) : Int) - (k:Int))=((c + 1 - k:Nat) : Int) by rw[aW (by omega) (by omega)]; omega]
  have hr0:=qO (c + 1 - k)
  refine⟨c + 1 - k,bM [N .u64 0] (c + 1 - k),by simp[oW],by omega,by omega,.slc M.next 0 (c + 1) (.op 1),M.push (.row ((aX.row xs).take k++bM [N .u64 0] (c + 1 - k)) true T 0), ?_, ?_⟩
  ·have hl0:M.loads b 0 (k * 1)=some ((aX.row xs).take k):=by rw[RM.dw hb (by omega)]; simp
   simp only[uJ,if_neg (show ¬ c + 1 - k=0 by omega),if_neg (show ¬ k + (c + 1 - k)≤c by omega),hl0]
   have h1:(((aX.row xs).take k)++bM [N .u64 0] (c + 1 - k)).all oneCell=true:=by
    rw[List.all_append,hr0.2,Bool.and_true,List.all_eq_true]
    exact fun y hy=>List.all_eq_true.1 hall y (List.mem_of_mem_take hy)
   rw[if_pos ⟨by omega,by omega,h1⟩,show k + (c + 1 - k)=c + 1 by omega]
  ·have hnew:(M.push (.row ((aX.row xs).take k++bM [N .u64 0] (c + 1 - k)) true T 0)).heap M.next=some (.row ((aX.row xs).take k++bM [N .u64 0] (c + 1 - k)) true T 0):=RM.aS _
   have kp:ag [] M (M.push (.row ((aX.row xs).take k++bM [N .u64 0] (c + 1 - k)) true T 0)):=(ag.refl _ _).push _
   have hb1:=kp.aP hb hbl (by simp)
   have hx1:=kp.loads hxl (by simp) (o:=0) (k:=1)
   rw[hxo] at hx1
   have hn1:(M.push (.row ((aX.row xs).take k++bM [N .u64 0] (c + 1 - k)) true T 0)).next=M.next + 1:=rfl
   generalize M.push (.row ((aX.row xs).take k++bM [N .u64 0] (c + 1 - k)) true T 0)=M1 at *
   have aqk:((aX.row xs).take k++bM [N .u64 0] (c + 1 - k)).length=c + 1:=by rw[List.length_append,htl,hr0.1]; omega
   dsimp only
   rw[qG (by omega),eH,zw (k:=1) hnew (by simp[Nat.min_def]; omega) (by omega) hx1 (by rw[aqk]; omega) rfl,cZ,uW (by omega),
    qG (by omega),eH,eH]
   simp only[Nat.mul_one,Nat.zero_add]
   have amW:((aX.row xs).take k++bM [N .u64 0] (c + 1 - k)).take k++[N .u64 (x:Int)]++((aX.row xs).take k++bM [N .u64 0] (c + 1 - k)).drop (k + 1)=(aX.row xs).take k++N .u64 (x:Int) :: bM [N .u64 0] (c - k):=by
    rw[List.take_append_of_le_length (by omega),List.take_of_length_le (by omega),← List.drop_drop,List.drop_left' htl,show c + 1 - k=(c - k) + 1 by omega,bM]
    simp
   rw[amW]
   have anw:(M1.put M.next (.row ((aX.row xs).take k++N .u64 (x:Int) :: bM [N .u64 0] (c - k)) true T 0)).heap M.next=some (.row ((aX.row xs).take k++N .u64 (x:Int) :: bM [N .u64 0] (c - k)) true T 0):=aR _
   have hb2:=qi (z:=.row ((aX.row xs).take k++N .u64 (x:Int) :: bM [N .u64 0] (c - k)) true T 0) hb1 (show b≠M.next by omega)
   have kp2:ag [] M (M1.put M.next (.row ((aX.row xs).take k++N .u64 (x:Int) :: bM [N .u64 0] (c - k)) true T 0)):=kp.new _ (Nat.le_refl _)
   have hn2:(M1.put M.next (.row ((aX.row xs).take k++N .u64 (x:Int) :: bM [N .u64 0] (c - k)) true T 0)).next=M.next + 1:=hn1
   generalize M1.put M.next (.row ((aX.row xs).take k++N .u64 (x:Int) :: bM [N .u64 0] (c - k)) true T 0)=M2 at *
   have hr1:=qO (c - k)
   have anu:M2.loads b k (c - k)=some ((aX.row xs).drop k):=by
    rw[RM.dw hb2 (by omega),List.take_of_length_le (by simp[hrow])]
   have aqP:((aX.row xs).take k++N .u64 (x:Int) :: bM [N .u64 0] (c - k)).length=c + 1:=by rw[List.length_append,htl,List.length_cons,hr1.1]; omega
   have ZA:((aX.row xs).drop k).all oneCell=true:=by
    rw[List.all_eq_true]; exact fun y hy=>List.all_eq_true.1 hall y (List.mem_of_mem_drop hy)
   rw[zw (k:=c - k) anw (by simp[Nat.min_def]) (by omega) anu (by rw[aqP]; omega) ZA]
   have hrow3:((aX.row xs).take k++N .u64 (x:Int) :: bM [N .u64 0] (c - k)).take (k + 1)++(aX.row xs).drop k++((aX.row xs).take k++N .u64 (x:Int) :: bM [N .u64 0] (c - k)).drop (k + 1 + (c - k))=aX.row (fD k x xs):=by
    rw[anq htl hr1.1,hins]
   rw[hrow3]
   refine hQ _ _ ?_ rfl (fun d hd=>.inr (by simp[aH] at hd; omega)) ((kp2.new _ (Nat.le_refl _)).mono (by simp))
   have:Rw aX (M2.put M.next (.row (aX.row (fD k x xs)) true T 0)) M.next true T (fD k x xs):=⟨aR _,by rw[lX]; omega⟩
   have h4:=this.sl (cap:=.op 1)
   rw[hinl] at h4
   exact h4
 ·have hcn:n + 1≤c:=by simp at hg; omega
  rw[cZ,uW (by omega),Nz (by omega) (by omega),eH,cZ,uW (by omega),vW (by omega) (by omega) (by omega),eH]
  simp only[Nat.zero_add,Nat.mul_one]
  refine hov hne hx hb (by simp) (by rw[agJ]; omega) ?_
  rw[bH,Bool.not_false,dD,cZ,uW (by omega),vW (by omega) (by omega) (by omega),eH,vW (by omega) (by omega) (by omega),eH]
  simp only[Nat.zero_add,Nat.mul_one]
  have ZA:((aX.row xs).drop k).all oneCell=true:=by
   rw[List.all_eq_true]; exact fun y hy=>List.all_eq_true.1 hall y (List.mem_of_mem_drop hy)
  rw[zw (k:=n - k) hb (by simp[Nat.min_def]; omega) (by omega) hold (by rw[agJ]; omega) ZA]
  have hsplit:aX.row xs=(aX.row xs).take k++(aX.row xs).drop k:=(List.take_append_drop _ _).symm
  obtain⟨y,D,hD⟩ : ∃ y D,(aX.row xs).drop k=y :: D:=by
   cases h:(aX.row xs).drop k with
   | nil=>rw[h] at hdl; simp at hdl; omega
   | cons y D=>exact⟨y,D,rfl⟩
  obtain⟨R,hR⟩ : ∃ R,List.replicate (c - n) AV.top=.top :: R∧R.length=c - n - 1:=⟨List.replicate (c - n - 1) AV.top,by rw[show c - n=(c - n - 1) + 1 by omega,List.replicate_succ]; simp,by simp⟩
  generalize hA:(aX.row xs).take k=A at *
  have hDl:D.length + 1=n - k:=by rw[hD] at hdl; simpa using hdl
  have aoA:(aX.row xs++List.replicate (c - n) AV.top).take (k + 1)++(aX.row xs).drop k++(aX.row xs++List.replicate (c - n) AV.top).drop (k + 1 + (n - k))=A++y :: (y :: D++R):=by
   have hX:aX.row xs=A++y :: D:=by rw[hsplit,hD]
   rw[hD,hX,hR.1]
   have e1:A++y :: D++AV.top :: R=(A++[y])++(D++AV.top :: R):=by simp
   have e2:A++y :: D++AV.top :: R=(A++y :: D++[AV.top])++R:=by simp
   have d1:(A++y :: D++AV.top :: R).drop (k + 1 + (n - k))=R:=by rw[e2,List.drop_left' (by simp; omega)]
   have d2:(A++y :: D++AV.top :: R).take (k + 1)=A++[y]:=by rw[e1,List.take_left' (by simp[htl])]
   rw[d1,d2]
   simp
  rw[aoA]
  have hb2:(M.put b (.row (A++y :: (y :: D++R)) true T 0)).heap b=some (.row (A++y :: (y :: D++R)) true T 0):=aR _
  have kp:ag [b] M (M.put b (.row (A++y :: (y :: D++R)) true T 0)):=(ag.refl _ _).put _ (.inr (by simp))
  have hx2:=kp.loads hxl (by simp[hne]) (o:=0) (k:=1)
  rw[hxo] at hx2
  have hn2:(M.put b (.row (A++y :: (y :: D++R)) true T 0)).next=M.next:=rfl
  generalize M.put b (.row (A++y :: (y :: D++R)) true T 0)=M2 at *
  have hl2:(A++y :: (y :: D++R)).length=c:=by simp[htl,hR.2]; omega
  rw[eH,zw (k:=1) hb2 (by simp[Nat.min_def]; omega) (by omega) hx2 (by rw[hl2]; omega) rfl]
  have hrow2:(A++y :: (y :: D++R)).take k++[N .u64 (x:Int)]++(A++y :: (y :: D++R)).drop (k + 1)=aX.row (fD k x xs)++R:=by
   rw[hins,hD,List.take_left' htl,show(A++y :: (y :: D++R)).drop (k + 1)=y :: D++R by
    rw[show A++y :: (y :: D++R)=(A++[y])++(y :: D++R) by simp,List.drop_left' (by simp[htl])]]
   simp
  rw[hrow2]
  refine hQ _ _ ?_ (show n + 1≤c from hcn) (fun d hd=>.inl (by simpa [aH] using hd)) (kp.put _ (.inr (by simp)))
  rw[← hinl]
  refine .slc _ _ _ _ _ (by rw[lX,hn2]; exact hbl) ?_
  have hil:(aX.row (fD k x xs)).length=n + 1:=by rw[Enc.eY,hinl]; simp[aX]
  show RM.loads _ b 0 ((fD k x xs).length * 1)=_
  rw[Nat.mul_one,hinl,RM.dw (aR _) (by rw[List.length_append,hil]; omega),List.drop_zero,List.take_append_of_le_length (by omega),List.take_of_length_le (by omega)]
theorem Own.mh {M:RM} {n el n0:Nat} {v:AV} {cs:List AV} (h:Own M n0 el 1 v cs n) : mh v:=by
 cases h with
 | nil=>trivial
 | ex0=>exact Nat.le_refl _
 | op=>rfl
theorem adL {M:RM} {v:AV} {xs:List Nat} {k:Nat} (h:Sl aX M v xs) (hc:mh v) (hk:k≤xs.length) :
  ∃ v',cO 1 v (some (N .i64 (k:Int))) none none=some v'∧Sl aX M v' (xs.drop k)∧mh v'∧∀ b∈aH v',b∈aH v:=by
 generalize hcs:aX.row xs=cs at *
 have h' : aL M 1 v cs xs.length:=by rw[← hcs]; exact h
 have hl:cs.length=xs.length:=by rw[← hcs,Enc.eY]; simp[aX]
 have hd:aX.row (xs.drop k)=cs.drop k:=by rw[← hcs,← aX.xL]; simp[aX]
 generalize hn:xs.length=n at *
 cases h' with
 | nil =>
   have:k=0:=by omega
   subst this
   exact⟨bZ,by simp[cO,bnd],by simp only[Sl]; rw[hd]; simp[hn]; exact .nil,trivial,by simp⟩
 | emp b =>
   have:k=0:=by omega
   subst this
   exact⟨.emp b,by simp[cO,bnd],by simp only[Sl]; rw[hd]; simp[hn]; exact .emp b,trivial,by simp⟩
 | slc b o n cap cs hb hload =>
   rw[Nat.mul_one] at hload
   have Oo:M.loads b (o + k) (n - k)=some (cs.drop k):=by
    have:=yB hload k (n - k) (by omega)
    rw[List.take_of_length_le (by simp; omega)] at this
    exact this
   cases cap with
   | ex c =>
     have hcn:n≤c:=hc
     by_cases hck:c=k
     ·have hkn:k=n:=by omega
      refine⟨.slc b o 0 (.ex 0),by simp only[cO,bnd]; simp[hk,hcn,hck]; omega, ?_,Nat.le_refl _,by simp[aH]⟩
      simp only[Sl]
      rw[hd,List.length_drop,hn,hkn,Nat.sub_self,List.drop_of_length_le (by omega)]
      refine .slc b o 0 _ _ hb ?_
      have:=yB hload 0 0 (by omega)
      simpa using this
     ·refine⟨.slc b (o + k * 1) (n - k) (.ex (c - k)),by simp only[cO,bnd]; simp[hk,hcn,hck], ?_,by simp only[mh]; omega,by simp[aH]⟩
      simp only[Sl]
      rw[hd,List.length_drop,hn]
      refine .slc _ _ _ _ _ hb ?_
      show M.loads b (o + k * 1) ((n - k) * 1)=_
      rw[Nat.mul_one,Nat.mul_one]; exact Oo
   | op e =>
     have he:e=1:=hc
     subst he
     by_cases hkn:n≤k
     ·refine⟨.emp b,by simp only[cO,bnd]; simp[hk,hkn], ?_,trivial,by simp[aH]⟩
      simp only[Sl]
      rw[hd,List.length_drop,hn,show n - k=0 by omega,List.drop_of_length_le (by omega)]
      exact .emp b
     ·refine⟨.slc b (o + k * 1) (n - k) (.op 1),by simp only[cO,bnd]; simp[hk,hkn], ?_,rfl,by simp[aH]⟩
      simp only[Sl]
      rw[hd,List.length_drop,hn]
      refine .slc _ _ _ _ _ hb ?_
      show M.loads b (o + k * 1) ((n - k) * 1)=_
      rw[Nat.mul_one,Nat.mul_one]; exact Oo
def dP:Nat→List Nat→Nat × Nat
 | u,[]=>(u,0)
 | u,x :: xs=>if x≤u + 1 then((dP (max u x) xs).1,(dP (max u x) xs).2 + 1) else(u,0)
def settle (u:Nat) (xs:List Nat) : Nat × List Nat:=((dP u xs).1,xs.drop (dP u xs).2)
theorem Wt {u:Nat} {xs:List Nat} {i u' : Nat} (hi:i<xs.length) (h:dP u xs=((dP u' (xs.drop i)).1,(dP u' (xs.drop i)).2 + i)) (hle:xs[i]≤u' + 1) :
  dP u xs=((dP (max u' xs[i]) (xs.drop (i + 1))).1,(dP (max u' xs[i]) (xs.drop (i + 1))).2 + (i + 1)):=by
 rw[h,List.drop_eq_getElem_cons hi,dP,if_pos hle]
 ext <;> simp; omega
theorem SN {u:Nat} {xs:List Nat} {i u' : Nat} (h:dP u xs=((dP u' (xs.drop i)).1,(dP u' (xs.drop i)).2 + i)) (hs:i=xs.length∨∃ hi:i<xs.length,¬ xs[i]≤u' + 1) : dP u xs=(u',i):=by
 rw[h]
 rcases hs with hs | ⟨hi,hs⟩
 ·rw[List.drop_of_length_le (by omega)]; simp[dP]
 ·rw[List.drop_eq_getElem_cons hi,dP,if_neg hs]; simp
theorem Tt (a b:Nat) : (if (b:Int) > (a:Int) then(b:Int) else(a:Int))=((max a b:Nat) : Int):=by
 split <;> omega
theorem VR {l:List AV} {o:Nat} {x:AV} (h:l[o]?=some x) : l.set o x=l:=by
 apply List.ext_getElem?
 intro j
 rw[List.getElem?_set]
 split
 ·rename_i e; subst e
  obtain⟨h1,h2⟩:=List.getElem?_eq_some_iff.1 h
  simp[h1,h2]
 ·rfl
def EJ (c:aj) : Prop:=∀ {M:RM} {b o T u:Nat} {l:List AV} {v:AV} {xs:List Nat} {Q:ak},M.heap b=some (.row l false T 0)→l[o]?=some (N .u64 (u:Int))→l[o + 1]?=some v→Sl aX M v xs→b ∉ aH v→mh v →
 xs.length≤1000000→u≤4398046511104→(∀ x∈xs,x≤4398046511104) →
 (∀ v' M',M'.heap b=some (.row ((l.set o (N .u64 (((settle u xs).1:Nat) : Int))).set (o + 1) v') false T 0)→Sl aX M' v' (settle u xs).2→mh v'→(∀ d∈aH v',d∈aH v)→ag [b] M M'→M'.next=M.next→Q (.tup []) M')→c [.ptr b o] M Q
theorem Wn:EJ fun args M Q=>∃ a0,args=[a0]∧xN a0 M Q:=by
 intro M b o T u l v xs Q hb ho hv hs hbv hcap hxl hu hx hQ
 refine⟨_,rfl, ?_⟩
 unfold xN
 simp only[fB]
 have hol:o<l.length:=(List.getElem?_eq_some_iff.1 ho).1
 have apk:o + 1<l.length:=(List.getElem?_eq_some_iff.1 hv).1
 refine aI (fun m ys M3=>∃ (i u' : Nat),m=xs.length - i∧ys=[N .i64 (i:Int)]∧i≤xs.length∧u'≤4398046511104∧M3.heap b=some (.row (l.set o (N .u64 (u' : Int))) false T 0)∧ag [b] M M3∧M3.next=M.next ∧
   dP u xs=((dP u' (xs.drop i)).1,(dP u' (xs.drop i)).2 + i)) _
  ⟨0,u,rfl,rfl,Nat.zero_le _,hu, ?_,ag.refl _ _,rfl,by simp⟩ ?_
 ·rw[hb]
  rw[VR ho]
 rintro next m ys M3 hnext ⟨i,u',rfl,rfl,hi,hu',h3,hK,hn3,hset⟩
 dsimp only[aa]
 have g0:(l.set o (N .u64 (u' : Int)))[o]?=some (N .u64 (u' : Int)):=by rw[List.getElem?_set_self hol]
 have g1:(l.set o (N .u64 (u' : Int)))[o + 1]?=some v:=by rw[List.getElem?_set_ne (by omega)]; exact hv
 have hs3:Sl aX M3 v xs:=aL.keep hs hK (fun d hd h=>by simp at h; subst h; exact hbv hd)
 rw[aM,aU,az h3 g1,aL.len hs3,dB]
 have stop:(i=xs.length∨∃ hi:i<xs.length,¬ xs[i]≤u' + 1)→cB (.ptr b o) fun t44=>aJ t44 1 fun t45=>au M3 t45 fun t46=>kJ (cO 1 t46 (some (N .i64 (i:Int))) none none) fun t48=>cB (.ptr b o) fun t49=>aJ t49 1 fun t50=>aC M3 t50 t48 1 fun iL=>Q (.tup []) iL:=fun h=>by
  have he:=SN hset h
  rw[aM,aU,az h3 g1]
  obtain⟨v',e1,e2,e3,e4⟩:=adL hs3 hcap hi
  rw[e1,eH,aM,aU,fG h3 (by simpa using apk) (aL.cells e2) (aL.one e2)]
  have kk:ag [b] M3 (M3.put b (.row ((l.set o (N .u64 (u' : Int))).set (o + 1) v') false T 0)):=(ag.refl _ _).put _ (.inr (by simp))
  refine hQ v' _ ?_ ?_ e3 e4 (hK.trans kk) hn3
  ·rw[aR,settle,he]
  ·rw[settle,he]
   exact aL.keep e2 kk (fun d hd h=>by simp at h; subst h; exact hbv (e4 _ hd))
 by_cases hlt:i<xs.length
 ·have hxi:=hx _ (List.getElem_mem hlt)
  obtain⟨b1,o1,_,_,hidx,hc⟩:=Sl.Hu (E:=aX) hs3 (i:Int) hlt
  have hc:=hc _ rfl
  rw[show decide ((i:Int)<(xs.length:Int))=true by simpa using hlt,o8,aM,aU,az h3 g1,hidx,gL]
  refine⟨_,hc, ?_⟩
  rw[aM,aU,Nat.add_zero,az h3 g0,cZ,lV]
  rw[show IntKind.u64.wrap ((u' : Int) + 1)=((u' + 1:Nat) : Int) by unfold IntKind.wrap; simp[IntKind.bits,IntKind.signed]; omega]
  dsimp only
  rw[eT]
  refine aG (fun h=>?_) (fun h=>?_)
  ·have hle:xs[i]≤u' + 1:=by
    have h2:((xs[i] : Nat) : Int)≤((u' + 1:Nat) : Int):=of_decide_eq_true h
    omega
   rw[aM,aU,Nat.add_zero,az h3 g0,aM,aU,az h3 g1,hidx,gL]
   refine⟨_,hc, ?_⟩
   rw[acn,if_pos rfl,Tt,aM,aU,Nat.add_zero,yS (l.set o (N .u64 ((max u' xs[i] : Nat) : Int))) h3 (by simpa using hol) rfl rfl (by rw[List.set_set]),cZ,iN (by omega)]
   exact hnext _ _ _ (by omega) ⟨i + 1,max u' xs[i],rfl,rfl,by omega,by omega,aR _,hK.put _ (.inr (by simp)),hn3,Wt hlt hset hle⟩
  ·have hle:¬ xs[i]≤u' + 1:=by
    have h2:¬ ((xs[i] : Nat) : Int)≤((u' + 1:Nat) : Int):=of_decide_eq_false h
    omega
   exact stop (.inr ⟨hlt,hle⟩)
 ·rw[show decide ((i:Int)<(xs.length:Int))=false by simp; omega,pq]
  dsimp only
  rw[df,bD]
  exact stop (.inl (by omega))
abbrev Pt:=Nat × List Nat
def gG (p:Pt) (n:Nat) : Bool × Pt :=
 if n∈p.2∨n≤p.1 then(true,p)
 else if (settle p.1 (fD (below n p.2) n p.2)).2.length≤4096 then(true,settle p.1 (fD (below n p.2) n p.2)) else(false,p)
def YB (T:Nat) (c:aj) : Prop:=∀ {M:RM} {v:AV} {bx n0 k x ex:Nat} {xs:List Nat} {Q:ak},Ow aX M n0 T v xs→n0≤M.next→xs.length≤100000→k≤xs.length→M.heap bx=some (.row [N .u64 (x:Int)] false ex 0)→bx<M.next→bx ∉ aH v →
 (∀ v' M',Sl aX M' v' (fD k x xs)→mh v'→(∀ c∈aH v',n0≤c)→ag (aH v) M M'→Q v' M')→c [v,N .i64 (k:Int),.slc bx 0 1 (.ex 1)] M Q
theorem EM (u:Nat) (xs:List Nat) : (settle u xs).2.length≤xs.length:=by simp[settle]
theorem Eo {k x:Nat} {xs:List Nat} {y:Nat} (h:y∈fD k x xs) : y=x∨y∈xs:=by
 unfold fD at h
 rcases List.mem_append.1 h with h | h
 ·exact .inr (List.mem_of_mem_take h)
 ·rcases List.mem_cons.1 h with h | h
  ·exact .inl h
  ·exact .inr (List.mem_of_mem_drop h)
def aax (c:aj) : Prop:=∀ {M:RM} {b o T u n:Nat} {l:List AV} {v:AV} {xs:List Nat} {Q:ak},M.heap b=some (.row l false T 0)→b<M.next→l[o]?=some (N .u64 (u:Int))→l[o + 1]?=some v→Sl aX M v xs→b ∉ aH v→mh v →
 Asc xs→xs.length≤10000→u≤4398046511104→(∀ x∈xs,x≤4398046511104)→n≤4398046511104 →
 (∀ M',gG (u,xs) n=((gG (u,xs) n).1,(u,xs))→ag [] M M'→Q (Bo (gG (u,xs) n).1) M') →
 (∀ v' M',M'.heap b=some (.row (l.take o++[N .u64 (((gG (u,xs) n).2.1:Nat) : Int),v']++l.drop (o + 2)) false T 0)→Sl aX M' v' (gG (u,xs) n).2.2→mh v'→(∀ d∈aH v',M.next≤d)→ag [b] M M'→Q (Bo (gG (u,xs) n).1) M') →
 c [.ptr b o,N .u64 (n:Int)] M Q
theorem acg {TU TP:Nat} {cb cc ci cs:aj} (hsr:IW cb) (hcl:acU TU 1 8 cc) (hin:YB TU ci) (hst:EJ cs) : aax fun args M Q=>∃ a0 a1,args=[a0,a1]∧FO cb TU TP cc ci cs a0 a1 M Q:=by
 intro M b o T u n l v xs Q hb hbl ho hv hs hbv hcap hasc hxl hu hx hn hsame hnew
 refine⟨_,_,rfl, ?_⟩
 unfold FO
 simp only[j6]
 have hol:o + 1<l.length:=(List.getElem?_eq_some_iff.1 hv).1
 rw[aM,aU,az hb hv]
 refine hsr hs (by omega) hasc ?_
 rw[lM,lH]
 have yes:n∈xs∨n≤u→Q (Bo true) M:=fun h=>by
  have e:gG (u,xs) n=(true,(u,xs)):=by unfold gG; rw[if_pos h]
  have:=hsame M (by rw[e]) (ag.refl _ _)
  rw[e] at this; exact this
 by_cases hm:n∈xs
 ·rw[decide_eq_true hm,pz]
  dsimp only
  rw[eT,dD]
  exact yes (.inl hm)
 rw[decide_eq_false hm,iq,aM,aU,Nat.add_zero,az hb ho,lV]
 dsimp only
 rw[df]
 by_cases hnu:n≤u
 ·rw[show decide ((n:Int)≤(u:Int))=true by simpa using hnu,dD]
  exact yes (.inr hnu)
 rw[show decide ((n:Int)≤(u:Int))=false by simp; omega,bD]
 have e0:gG (u,xs) n=if (settle u (fD (below n xs) n xs)).2.length≤4096 then(true,settle u (fD (below n xs) n xs)) else(false,(u,xs)):=by
  unfold gG; rw[if_neg (by simp[hm]; omega)]
 rw[aM,aU,Nat.add_zero,az hb ho,aM,aU,az hb hv,rP (x:=N .u64 (n:Int)) (size:=1) rfl rfl rfl,rU,rU]
 have hx1:((M.push (.row [N .u64 (n:Int)] false TU 0)).push (.row [N .u64 0,bZ] false TP 0)).heap M.next=some (.row [N .u64 (n:Int)] false TU 0):=lZ (RM.aS _) (by simp[RM.push])
 have h7:((M.push (.row [N .u64 (n:Int)] false TU 0)).push (.row [N .u64 0,bZ] false TP 0)).heap (M.next + 1)=some (.row [N .u64 0,bZ] false TP 0):=RM.aS _
 have kk:ag [] M ((M.push (.row [N .u64 (n:Int)] false TU 0)).push (.row [N .u64 0,bZ] false TP 0)):=((ag.refl _ _).push _).push _
 have nn:((M.push (.row [N .u64 (n:Int)] false TU 0)).push (.row [N .u64 0,bZ] false TP 0)).next=M.next + 2:=rfl
 rw[vB]
 change cc _ ((M.push (.row [N .u64 (n:Int)] false TU 0)).push (.row [N .u64 0,bZ] false TP 0)) _
 generalize (M.push (.row [N .u64 (n:Int)] false TU 0)).push (.row [N .u64 0,bZ] false TP 0)=M1 at *
 refine hcl (aL.keep hs kk (by simp)) (aX.ve xs) (by omega) (by omega) fun v1 M2 ow k2=>?_
 have n2:=k2.next
 have hb2:=(kk.trans k2).aP hb hbl (by simp)
 have hx2:=k2.aP hx1 (by omega) (by simp)
 have h72:=k2.aP h7 (by omega) (by simp)
 have hbi:=below_le n xs
 have hwb:∀ d∈aH v1,M1.next≤d:=fun d hd=>(ow.blk d hd).1
 rw[az hb2 ho]
 refine⟨rfl, ?_⟩
 rw[rP (x:=N .u64 (n:Int)) (size:=1) rfl rfl rfl]
 refine⟨⟨hx2,rfl⟩,⟨h72,rfl⟩, ?_⟩
 refine hin (n0:=M1.next) ow n2 (by omega) hbi hx2 (by omega) (fun h=>by have:=hwb _ h; omega) fun v2 M3 s3 c3 b3 k3=>?_
 have n3:=k3.next
 have ke:ag [] M M3:=(kk.trans k2).dK k3 fun d hd=>.inl (by have:=hwb d hd; omega)
 have hb3:=ke.aP hb hbl (by simp)
 have h73:=k3.aP h72 (by omega) (fun h=>by have:=hwb _ h; omega)
 rw[az hb3 ho]
 refine⟨rfl,⟨h73,rfl⟩, ?_⟩
 rw[qY]
 refine⟨[N .u64 (u:Int),v2],amm rfl rfl (aL.known s3) (aL.cells s3), ?_⟩
 rw[gz (n:=2) (x:=.agg [N .u64 (u:Int),v2]) (l:=[N .u64 0,bZ]) h73 rfl rfl (by simp[AV.cells,Xv,aL.one s3])]
 change cs _ (M3.put (M.next + 1) (.row [N .u64 (u:Int),v2] false TP 0)) _
 have h74:(M3.put (M.next + 1) (.row [N .u64 (u:Int),v2] false TP 0)).heap (M.next + 1)=_:=aR _
 have ke4:ag [] M (M3.put (M.next + 1) (.row [N .u64 (u:Int),v2] false TP 0)):=ke.new _ (by omega)
 have n4:(M3.put (M.next + 1) (.row [N .u64 (u:Int),v2] false TP 0)).next=M3.next:=rfl
 have s4:Sl aX (M3.put (M.next + 1) (.row [N .u64 (u:Int),v2] false TP 0)) v2 (fD (below n xs) n xs):=aL.keep (bs:=[M.next + 1]) s3 ((ag.refl _ _).put _ (.inr (by simp))) (fun d hd h=>by have:=b3 d hd; simp at h; omega)
 have hb4:=qi (z:=.row [N .u64 (u:Int),v2] false TP 0) hb3 (show b≠M.next + 1 by omega)
 generalize M3.put (M.next + 1) (.row [N .u64 (u:Int),v2] false TP 0)=M4 at *
 have hil:=Ed (x:=n) hbi
 refine hst h74 rfl rfl s4 (fun h=>by have:=b3 _ h; omega) c3 (by omega) hu (fun y hy=>by rcases Eo hy with rfl | hy; exact hn; exact hx y hy) ?_
 intro v5 M5 h75 s5 c5 b5 k5 n5
 have hb5:=k5.aP hb4 (by omega) (by simp; omega)
 have ke5:ag [] M M5:=ke4.dK k5 fun d hd=>.inl (by simp at hd; omega)
 simp only[List.set_cons_zero,List.set_cons_succ,Nat.zero_add] at h75
 rw[bG,az h75 rfl,aL.len s5,jS]
 refine aG (fun hg=>?_) (fun hg=>?_)
 ·have hg:¬ (settle u (fD (below n xs) n xs)).2.length≤4096:=by simp at hg; omega
  rw[if_neg hg] at e0
  have:=hsame M5 (by rw[e0]) ke5
  rw[e0] at this; exact this
 ·have hg:(settle u (fD (below n xs) n xs)).2.length≤4096:=by simp at hg; omega
  rw[if_pos hg] at e0
  rw[fA (n:=2) h75 rfl,aM,zJ]
  have hst:M5.stores b o [N .u64 (((settle u (fD (below n xs) n xs)).1:Nat) : Int),v5]=some (M5.put b (.row (l.take o++[N .u64 (((settle u (fD (below n xs) n xs)).1:Nat) : Int),v5]++l.drop (o + 2)) false T 0)):=by
   rw[RM.yw hb5,rF (by simp only[List.length_cons,List.length_nil]; omega) (Nat.zero_le _) (by simp[Xv,aL.one s5])]; rfl
  refine⟨rfl,_,hst, ?_⟩
  have kf:ag [b] M5 (M5.put b (.row (l.take o++[N .u64 (((settle u (fD (below n xs) n xs)).1:Nat) : Int),v5]++l.drop (o + 2)) false T 0)):=(ag.refl _ _).put _ (.inr (by simp))
  have:=hnew v5 _ (by rw[aR,e0]) (by rw[e0]; exact aL.keep s5 kf (fun d hd h=>by have:=b3 d (b5 d hd); simp at h; omega)) c5 (fun d hd=>by have:=b3 d (b5 d hd); omega) ((ke5.mono (by simp)).trans kf)
  rw[e0] at this; exact this
def ku (p:Pt) (n:Nat) : Bool:=(decide (1≤n) && decide (n≤p.1)) || decide (n∈p.2)
def Sj (c:aj) : Prop:=∀ {M:RM} {b o T u n:Nat} {l:List AV} {v:AV} {xs:List Nat} {Q:ak},M.heap b=some (.row l false T 0)→l[o]?=some (N .u64 (u:Int))→l[o + 1]?=some v→Sl aX M v xs→Asc xs→xs.length≤1000000 →
 Q (Bo (ku (u,xs) n)) M→c [.ptr b o,N .u64 (n:Int)] M Q
theorem acG {cb:aj} (hsr:IW cb) : Sj fun args M Q=>∃ a0 a1,args=[a0,a1]∧EP cb a0 a1 M Q:=by
 intro M b o T u n l v xs Q hb ho hv hs hasc hxl hQ
 refine⟨_,_,rfl, ?_⟩
 unfold EP
 simp only[j6]
 unfold ku at hQ
 rw[aM,aU,az hb hv]
 refine hsr hs hxl hasc ?_
 rw[lM,lH,iK]
 by_cases h1:1≤n
 ·rw[show decide ((n:Int) ≥ 1)=true by simp; omega,dx,aM,aU,Nat.add_zero,az hb ho,lV]
  dsimp only
  rw[eT]
  by_cases h2:n≤u
  ·rw[show decide ((n:Int)≤(u:Int))=true by simpa using h2,pz]
   dsimp only
   rw[eT]
   simpa [h1,h2] using hQ
  ·rw[show decide ((n:Int)≤(u:Int))=false by simp; omega,iq]
   dsimp only
   rw[df]
   simpa [h1,h2] using hQ
 ·rw[show decide ((n:Int) ≥ 1)=false by simp; omega,bS]
  dsimp only
  rw[df,iq]
  dsimp only
  rw[df]
  simpa [h1] using hQ
abbrev aD:=Int × Nat
abbrev aT (d:aD) : List AV:=[N .i64 d.1,N .u64 (d.2:Int)]
def eQ:Enc aD:=⟨2,aT,fun _=>rfl,fun _=>rfl⟩
def good (d:aD) : Bool:=decide (0≤d.1) && decide (d.1<16) && decide (1≤d.2) && decide (d.2≤1099511627776)
def BF (c:aj) : Prop:=∀ {M:RM} {d:aD} {Q:ak},(∀ M',ag [] M M'→Q (Bo (good d)) M')→c [.agg (aT d)] M Q
theorem Ri {M1:RM} {K:ak} {d:aD} {T:Nat} {b:Nat} (h:M1.heap b=some (.row (aT d) false T 0)) (hQ:K (Bo (good d)) M1) :
  aJ (.ptr b 0) 0 fun t3=>au M1 t3 fun t4=>ae .geq t4 (N .i64 0) fun t5 =>
   ah t5 true (fun k'=>aJ (.ptr b 0) 0 fun t7=>au M1 t7 fun t8=>ae .lss t8 (N .i64 16) fun t9=>k' t9 M1) (fun k=>k .undef M1) fun t9 M2=>aK t5 t9 (Bo false) fun bW =>
   ah bW true (fun k'=>aJ (.ptr b 0) 1 fun t12=>au M2 t12 fun t13=>ae .geq t13 (N .u64 1) fun t14=>k' t14 M2) (fun k=>k .undef M2) fun t14 M3=>aK bW t14 (Bo false) fun t15 =>
   ah t15 true (fun k'=>aJ (.ptr b 0) 1 fun t17=>au M3 t17 fun t18=>ae .leq t18 (N .u64 1099511627776) fun t19=>k' t19 M3) (fun k=>k .undef M3) fun t19 M4=>aK t15 t19 (Bo false) fun t20=>K t20 M4:=by
 unfold good at hQ
 obtain⟨dv,n⟩:=d
 simp only at hQ
 rw[bG,az h rfl,iK]
 by_cases h1:0≤dv
 ·rw[show decide (dv ≥ 0)=true by simpa using h1,dx,bG,az h rfl,dB]
  dsimp only
  rw[eT]
  by_cases h2:dv<16
  ·rw[show decide (dv<16)=true by simpa using h2,dx,bG,az h rfl,iK]
   dsimp only
   rw[eT]
   by_cases h3:1≤n
   ·rw[show decide ((n:Int) ≥ 1)=true by simp; omega,dx,bG,az h rfl,lV]
    dsimp only
    rw[eT,show decide ((n:Int)≤1099511627776)=decide (n≤1099511627776) by simp; omega]
    simpa [h1,h2,h3] using hQ
   ·rw[show decide ((n:Int) ≥ 1)=false by simp; omega,bS]
    dsimp only
    rw[df]
    simpa [h1,h2,h3] using hQ
  ·rw[show decide (dv<16)=false by simpa using h2,bS]
   dsimp only
   rw[df,bS]
   dsimp only
   rw[df]
   simpa [h1,h2] using hQ
 ·rw[show decide (dv ≥ 0)=false by simpa using h1,bS]
  dsimp only
  rw[df,bS]
  dsimp only
  rw[df,bS]
  dsimp only
  rw[df]
  simpa [h1] using hQ
theorem ack {T:Nat} : BF fun args M Q=>∃ a0,args=[a0]∧LB T a0 M Q:=by
 intro M d Q hQ
 refine⟨_,rfl, ?_⟩
 unfold LB
 simp only[j6]
 rw[dS rfl (by simp),bB]
 exact Ri (RM.aS _) (hQ _ ((ag.refl _ _).push _))
theorem U5 {T:Nat} : BF fun args M Q=>∃ a0,args=[a0]∧Mv T a0 M Q:=by
 intro M d Q hQ
 refine⟨_,rfl, ?_⟩
 unfold Mv
 simp only[j6]
 rw[dS rfl (by simp),bB]
 exact Ri (RM.aS _) (hQ _ ((ag.refl _ _).push _))
def om (p:Pt) : Prop:=Asc p.2∧(∀ x∈p.2,p.1 + 1<x)∧p.1≤1099511627776∧(∀ x∈p.2,x≤1099511627776)∧p.2.length≤4096
theorem adT {n:Nat} {xs:List Nat} (h:Asc xs) (hn:n ∉ xs) : Asc (fD (below n xs) n xs):=by
 unfold fD Asc
 rw[List.pairwise_append]
 have ht:=List.Pairwise.sublist (List.take_sublist (below n xs) xs) h
 have hd:=List.Pairwise.sublist (List.drop_sublist (below n xs) xs) h
 have lt1:∀ a∈xs.take (below n xs),a<n:=fun a ha=>by
  obtain⟨i,hi,rfl⟩:=List.getElem_of_mem ha
  rw[List.getElem_take]
  exact Ub (by simp at hi; omega) (by simp at hi; omega)
 have gt1:∀ a∈xs.drop (below n xs),n<a:=fun a ha=>by
  obtain⟨i,hi,rfl⟩:=List.getElem_of_mem ha
  rw[List.getElem_drop]
  simp only[List.length_drop] at hi
  have h0:below n xs<xs.length:=by omega
  have h1:=Vl (n:=n) h0
  have h2:xs[below n xs]≠n:=fun e=>hn (by rw[← e]; exact List.getElem_mem h0)
  rcases Nat.eq_zero_or_pos i with rfl | hi0
  ·simp only[Nat.add_zero]; omega
  ·have:=h.lt (i:=below n xs) (j:=below n xs + i) (by omega) (by omega); omega
 refine⟨ht,List.pairwise_cons.2 ⟨gt1,hd⟩,fun a ha b hb=>?_⟩
 rcases List.mem_cons.1 hb with rfl | hb
 ·exact lt1 a ha
 ·have:=lt1 a ha; have:=gt1 b hb; omega
theorem Bf:∀ (xs:List Nat) (u N:Nat),Asc xs→u≤N→(∀ x∈xs,x≤N)→Asc (settle u xs).2∧(∀ x∈(settle u xs).2,(settle u xs).1 + 1<x)∧(settle u xs).1≤N∧u≤(settle u xs).1
 | [],u,N,_,hu,_=>⟨by simp[settle,dP,Asc],by simp[settle,dP],hu,Nat.le_refl _⟩
 | x :: xs,u,N,ha,hu,hx=>by
   have ha2:=(List.pairwise_cons.1 ha).2
   by_cases h:x≤u + 1
   ·have e:settle u (x :: xs)=settle (max u x) xs:=by
     unfold settle
     rw[dP,if_pos h]; rfl
    rw[e]
    have:=Bf xs (max u x) N ha2 (by have:=hx x (by simp); omega) (fun y hy=>hx y (by simp[hy]))
    exact⟨this.1,this.2.1,this.2.2.1,by have:=this.2.2.2; omega⟩
   ·have e:settle u (x :: xs)=(u,x :: xs):=by
     unfold settle
     rw[dP,if_neg h]; rfl
    rw[e]
    refine⟨ha,fun y hy=>?_,hu,Nat.le_refl _⟩
    simp only at hy ⊢
    rcases List.mem_cons.1 hy with rfl | hy
    ·omega
    ·have:=(List.pairwise_cons.1 ha).1 y hy; omega
theorem NJ {u:Nat} {xs:List Nat} {y:Nat} (h:y∈(settle u xs).2) : y∈xs:=List.mem_of_mem_drop h
theorem ahH {p:Pt} {n:Nat} (hp:om p) (hn:n≤1099511627776) : om (gG p n).2:=by
 unfold gG
 split
 ·exact hp
 ·rename_i h
  split
  ·rename_i h2
   have hm:n ∉ p.2:=fun hm=>h (.inl hm)
   have:=Bf (fD (below n p.2) n p.2) p.1 1099511627776 (adT hp.1 hm) hp.2.2.1 (fun x hx=>by rcases Eo hx with rfl | hx; exact hn; exact hp.2.2.2.1 x hx)
   exact⟨this.1,this.2.1,this.2.2.1,fun x hx=>by rcases Eo (NJ hx) with rfl | hx; exact hn; exact hp.2.2.2.1 x hx,h2⟩
  ·exact hp
structure gN (T:Nat) (S:Nat→Prop) (M:RM) (b:Nat) (ps:List Pt) : Prop where
 lt:b<M.next
 len:ps.length=16
 row:∃ l,M.heap b=some (.row l false T 0)∧l.length=32∧∀ (i:Nat) (hi:i<ps.length),∃ v,l[2 * i]?=some (N .u64 (ps[i].1:Int))∧l[2 * i + 1]?=some v∧Sl aX M v ps[i].2∧mh v∧∀ d∈aH v,S d
 nb:¬ S b
theorem gN.mono {T:Nat} {S S' : Nat→Prop} {M:RM} {b:Nat} {ps:List Pt} (h:gN T S M b ps) (hs:∀ d,S d→S' d) (hb:¬ S' b) : gN T S' M b ps:=by
 obtain⟨l,h1,h2,h3⟩:=h.row
 exact⟨h.lt,h.len,⟨l,h1,h2,fun i hi=>let ⟨v,a1,a2,a3,a4,a5⟩:=h3 i hi; ⟨v,a1,a2,a3,a4,fun d hd=>hs d (a5 d hd)⟩⟩,hb⟩
theorem gN.keep {T:Nat} {S:Nat→Prop} {M M' : RM} {b:Nat} {ps:List Pt} {bs:List Nat} (h:gN T S M b ps) (hk:ag bs M M') (hb:b ∉ bs) (hs:∀ d∈bs,¬ S d) : gN T S M' b ps:=by
 obtain⟨l,h1,h2,h3⟩:=h.row
 exact⟨Nat.lt_of_lt_of_le h.lt hk.next,h.len,⟨l,hk.aP h1 h.lt hb,h2,fun i hi=>let ⟨v,a1,a2,a3,a4,a5⟩:=h3 i hi; ⟨v,a1,a2,aL.keep a3 hk (fun d hd hm=>hs d hm (a5 d hd)),a4,a5⟩⟩,h.nb⟩
theorem gN.below {T:Nat} {S:Nat→Prop} {M:RM} {b:Nat} {ps:List Pt} (h:gN T S M b ps) : gN T (fun d=>S d∧d<M.next) M b ps:=by
 obtain⟨l,h1,h2,h3⟩:=h.row
 exact⟨h.lt,h.len,⟨l,h1,h2,fun i hi=>let ⟨v,a1,a2,a3,a4,a5⟩:=h3 i hi; ⟨v,a1,a2,a3,a4,fun d hd=>⟨a5 d hd,aL.lt a3 d hd⟩⟩⟩,fun hb=>h.nb hb.1⟩
def lh (ps:List Pt) (d:aD) : Int × List Pt :=
 if good d then(if (gG (ps.getD d.1.toNat (0,[])) d.2).1 then(0,ps.set d.1.toNat (gG (ps.getD d.1.toNat (0,[])) d.2).2) else(2,ps)) else(1,ps)
def Sq (T:Nat) (c:aj) : Prop:=∀ {M:RM} {b:Nat} {ps:List Pt} {d:aD} {S:Nat→Prop} {Q:ak},gN T S M b ps→(∀ p∈ps,om p) →
 (∀ M',gN T (fun e=>S e∨M.next≤e) M' b (lh ps d).2→ag [b] M M'→Q (N .i64 (lh ps d).1) M')→c [.ptr b 0,.agg (aT d)] M Q
theorem abn {p:Pt} {n:Nat} (h:(gG p n).1=false) : (gG p n).2=p:=by
 unfold gG at h ⊢
 split
 ·rfl
 ·split
  ·rename_i h1 h2
   rw[if_neg h1,if_pos h2] at h; cases h
  ·rfl
theorem acz {T TD:Nat} {cg ca:aj} (hg:BF cg) (ha:aax ca) : Sq T fun args M Q=>∃ a0 a1,args=[a0,a1]∧GJ TD cg ca a0 a1 M Q:=by
 intro M b ps d S Q hset hwf hQ
 refine⟨_,_,rfl, ?_⟩
 unfold GJ
 rw[dS rfl (by simp),bB,fA (n:=2) (RM.aS _) rfl]
 have k1:ag [] M (M.push (.row (aT d) false TD 0)):=(ag.refl _ _).push _
 have h3:(M.push (.row (aT d) false TD 0)).heap M.next=some (.row (aT d) false TD 0):=RM.aS _
 have n1:(M.push (.row (aT d) false TD 0)).next=M.next + 1:=rfl
 generalize M.push (.row (aT d) false TD 0)=M1 at *
 refine hg fun M2 k2=>?_
 have kk:=k1.trans k2
 have h3:=k2.aP h3 (by omega) (by simp)
 have s2:=hset.keep kk (by simp) (by simp)
 have hbl:=hset.lt
 rw[bH]
 unfold lh at hQ
 have n2:=k2.next
 cases hgd:good d with
 | false =>
   simp only[hgd,Bool.false_eq_true,if_false] at hQ
   rw[Bool.not_false,dD]
   exact hQ M2 (s2.mono (fun e h=>.inl h) (fun h=>by rcases h with h | h; exact hset.nb h; omega)) (kk.mono (by simp))
 | true =>
   simp only[hgd,if_true] at hQ
   have hgd':=hgd
   simp[good] at hgd'
   obtain⟨i,hi⟩ : ∃ i:Nat,d.1=(i:Int):=⟨d.1.toNat,by omega⟩
   have aey:i<16:=by omega
   have hil:i<ps.length:=by rw[hset.len]; exact aey
   have anS:ps.getD d.1.toNat (0,[])=ps[i]:=by rw[hi,Int.toNat_natCast,List.getD_eq_getElem?_getD,List.getElem?_eq_getElem hil]; rfl
   rw[anS] at hQ
   rw[hi,Int.toNat_natCast] at hQ
   rw[Bool.not_true,bD,bG,az h3 rfl,aM,bG,hi,AJ]
   refine⟨by omega,by omega, ?_⟩
   rw[bG,az h3 rfl,Int.toNat_natCast,Nat.zero_add,Nat.mul_comm i 2]
   obtain⟨l,hb,abt,hrow⟩:=s2.row
   obtain⟨v,a1,a2,a3,a4,a5⟩:=hrow i hil
   have hwp:=hwf _ (List.getElem_mem hil)
   have hk0:∀ b'∈([b] : List Nat),b'=b:=by simp
   refine ha hb s2.lt a1 a2 a3 (fun h=>hset.nb (a5 b h)) a4 hwp.1 (by have:=hwp.2.2.2.2; omega) (by have:=hwp.2.2.1; omega) (fun x hx=>by have:=hwp.2.2.2.1 x hx; omega) (by omega) ?_ ?_
   ·intro M3 he k3
    have s3:=s2.keep k3 (by simp) (by simp)
    rw[bH]
    cases hr:(gG (ps[i].1,ps[i].2) d.2).1 with
    | false =>
      have hr' : (gG ps[i] d.2).1=false:=hr
      simp only[hr',Bool.false_eq_true,if_false] at hQ
      rw[Bool.not_false,dD]
      exact hQ M3 (s3.mono (fun e h=>.inl h) (fun h=>by rcases h with h | h; exact hset.nb h; omega)) ((kk.trans k3).mono (by simp))
    | true =>
      have hr' : (gG ps[i] d.2).1=true:=hr
      have he2:(gG ps[i] d.2).2=ps[i]:=by
       have:=congrArg Prod.snd he
       exact this
      simp only[hr',if_true,he2,List.set_getElem_self] at hQ
      rw[Bool.not_true,bD]
      exact hQ M3 (s3.mono (fun e h=>.inl h) (fun h=>by rcases h with h | h; exact hset.nb h; omega)) ((kk.trans k3).mono (by simp))
   ·intro v' M3 hb3 hs3 hc3 hbk k3
    rw[bH]
    have hb2n:∀ b'∈aH v',b'≠b:=fun b' hb' e=>by have:=hbk b' hb'; omega
    have Ve:gN T (fun e=>S e∨M.next≤e) M3 b (ps.set i (gG ps[i] d.2).2):=by
     refine⟨Nat.lt_of_lt_of_le s2.lt k3.next,by rw[List.length_set]; exact hset.len,⟨_,hb3,by simp[abt]; omega,fun j hj=>?_⟩,fun h=>by rcases h with h | h; exact hset.nb h; omega⟩
     rw[List.length_set] at hj
     have htl:(l.take (2 * i)).length=2 * i:=by simp; omega
     by_cases hji:j=i
     ·subst hji
      refine⟨v', ?_, ?_, ?_,hc3,fun e he=>.inr (by have:=hbk e he; omega)⟩
      ·rw[List.append_assoc,List.getElem?_append_right (by omega),htl,Nat.sub_self]; simp
      ·rw[List.append_assoc,List.getElem?_append_right (by omega),htl,show 2 * j + 1 - 2 * j=1 by omega]; simp
      ·simp only[List.getElem_set_self]; exact hs3
     ·obtain⟨w,e1,e2,e3,e4,e5⟩:=hrow j hj
      have same:∀ k,(k=2 * j∨k=2 * j + 1)→(l.take (2 * i)++[N .u64 (((gG (ps[i].1,ps[i].2) d.2).2.1:Nat) : Int),v']++l.drop (2 * i + 2))[k]?=l[k]?:=fun k hk=>by
       rcases Nat.lt_or_ge k (2 * i) with h | h
       ·rw[List.append_assoc,List.getElem?_append_left (by omega),List.getElem?_take_of_lt h]
       ·rw[List.getElem?_append_right (by simp; omega),List.getElem?_drop]
        congr 1
        simp; omega
      refine⟨w, ?_, ?_, ?_,e4,fun e he=>.inl (e5 e he)⟩
      ·rw[same _ (.inl rfl),e1,List.getElem_set_ne (Ne.symm hji)]
      ·rw[same _ (.inr rfl),e2]
      ·rw[List.getElem_set_ne (Ne.symm hji)]
       exact aL.keep e3 k3 (fun e he hm=>by simp at hm; subst hm; exact hset.nb (e5 _ he))
    cases hr:(gG (ps[i].1,ps[i].2) d.2).1 with
    | false =>
      have hr' : (gG ps[i] d.2).1=false:=hr
      simp only[hr',Bool.false_eq_true,if_false] at hQ
      rw[Bool.not_false,dD]
      have e:=abn hr'
      rw[e,List.set_getElem_self] at Ve
      exact hQ M3 Ve ((kk.mono (by simp)).trans k3)
    | true =>
      have hr' : (gG ps[i] d.2).1=true:=hr
      simp only[hr',if_true] at hQ
      rw[Bool.not_true,bD]
      exact hQ M3 Ve ((kk.mono (by simp)).trans k3)
def jG:List Pt:=List.replicate 16 (0,[])
def Xt (T:Nat) (c:aj) : Prop:=∀ {M:RM} {Q:ak},(∀ M',gN T (fun _=>False) M' M.next jG→ag [] M M'→M'.next=M.next + 1→Q (.ptr M.next 0) M')→c [] M Q
theorem aeG {T:Nat} : Xt T fun args M Q=>args=[]∧Ps T M Q:=by
 intro M Q hQ
 refine⟨rfl, ?_⟩
 unfold Ps
 rw[qY]
 refine⟨_,rfl, ?_⟩
 rw[dS rfl (by simp),bB]
 refine hQ _ ⟨by simp[RM.push],rfl,⟨_,RM.aS _,rfl,fun i hi=>?_⟩,id⟩ ((ag.refl _ _).push _) rfl
 have hi:i<16:=hi
 refine⟨bZ, ?_, ?_, ?_,trivial,by simp[aH]⟩
 ·obtain rfl | rfl | rfl | rfl | rfl | rfl | rfl | rfl | rfl | rfl | rfl | rfl | rfl | rfl | rfl | rfl:i=0∨i=1∨i=2∨i=3∨i=4∨i=5∨i=6∨i=7∨i=8∨i=9∨i=10∨i=11∨i=12∨i=13∨i=14∨i=15:=by omega
  all_goals rfl
 ·obtain rfl | rfl | rfl | rfl | rfl | rfl | rfl | rfl | rfl | rfl | rfl | rfl | rfl | rfl | rfl | rfl:i=0∨i=1∨i=2∨i=3∨i=4∨i=5∨i=6∨i=7∨i=8∨i=9∨i=10∨i=11∨i=12∨i=13∨i=14∨i=15:=by omega
  all_goals rfl
 ·simp only[jG,List.getElem_replicate]; exact .nil
section
variable {α:Type} {E:Enc α}
end
def akE:Nat→Nat→List UInt8→Option (Nat × Nat)
 | _,_,[]=>none
 | i,v,x :: xs =>
   if x.toNat ≥ 128 then akE (i + 1) ((v ||| (x.toNat % 128 * 2 ^ (7 * i) % 2 ^ 64)) % 2 ^ 64) xs
   else if x.toNat=0∧i > 0∨i=9∧x.toNat > 1 then none else some ((v ||| (x.toNat % 128 * 2 ^ (7 * i) % 2 ^ 64)) % 2 ^ 64,i + 1)
def aqj (bs:List UInt8) : Option (Nat × Nat):=akE 0 0 (bs.take 10)
structure RdH (T:Nat) (S:Nat→Prop) (M:RM) (r:Nat) (bs:List UInt8) (f:Bool) : Prop where
 lt:r<M.next
 row:∃ v,M.heap r=some (.row [v,Bo f] false T 0)∧Sl BY M v bs∧mh v∧∀ d∈aH v,S d
 nb:¬ S r
theorem RdH.keep {T:Nat} {S:Nat→Prop} {M M' : RM} {r:Nat} {bs:List UInt8} {f:Bool} {ks:List Nat} (h:RdH T S M r bs f) (hk:ag ks M M') (hr:r ∉ ks) (hs:∀ d∈ks,¬ S d) : RdH T S M' r bs f:=by
 obtain⟨v,h1,h2,h3,h4⟩:=h.row
 exact⟨Nat.lt_of_lt_of_le h.lt hk.next,⟨v,hk.aP h1 h.lt hr,aL.keep h2 hk (fun d hd hm=>hs d hm (h4 d hd)),h3,h4⟩,h.nb⟩
def ahl (most:Nat) (bs:List UInt8) (f:Bool) : Nat × List UInt8 × Bool :=
 match aqj bs with
 | none=>(0,bs,true)
 | some (v,n)=>if f || decide (most<v) then(0,bs,true) else(v,bs.drop n,false)
def agc (f:(List AV→RM→Prop)→Prop) (g:List AV→RM→Prop) : Prop:=f g
theorem bR (f:(List AV→RM→Prop)→Prop) (g:List AV→RM→Prop) : bV f g=agc f g:=rfl
theorem aY {H:(List AV→RM→Prop)→Prop} {G:List AV→RM→Prop} (P:List AV→RM→Prop) (hT:∀ xs M,P xs M→G xs M)
  (hH:∀ J:List AV→RM→Prop,(∀ xs M,P xs M→J xs M)→H J) : agc H G:=hH G hT
abbrev jZ:=(Nat × Nat) × List Nat
def Ir (ps:List Pt) : Nat→List jZ
 | 0=>[]
 | i + 1=>Ir ps i++(if 0<(ps.getD i (0,[])).1∨0<(ps.getD i (0,[])).2.length then[((i,(ps.getD i (0,[])).1),(ps.getD i (0,[])).2)] else[])
def parts (ps:List Pt) : List jZ:=Ir ps 16
@[irreducible] def an9 (x a:Nat) : Nat:=(x + 18446744073709551616 - a) % 18446744073709551616
def afS:Nat→List Nat→List UInt8
 | _,[]=>[]
 | a,x :: xs=>Oy (an9 x a)++afS x xs
def alq (p:jZ) : List UInt8:=Oy p.1.1++Oy p.1.2++Oy p.2.length++afS p.1.2 p.2
structure QF (T TU base:Nat) (M:RM) (b:Nat) (ps:List Pt) : Prop where
 lt:b<M.next
 len:ps.length=16
 row:∃ (l:List AV) (vs:Nat→AV),M.heap b=some (.row l false T 0)∧l.length=32∧(∀ (i:Nat) (hi:i<ps.length),l[2 * i]?=some (N .u64 (ps[i].1:Int))∧l[2 * i + 1]?=some (vs i)∧Ow aX M base TU (vs i) ps[i].2) ∧
  ∀ i j,i<16→j<16→i≠j→∀ d∈aH (vs i),d ∉ aH (vs j)
 nb:b<base
theorem QF.keep {T TU base:Nat} {M M' : RM} {b:Nat} {ps:List Pt} {bs:List Nat} (h:QF T TU base M b ps) (hk:ag bs M M') (hb:b ∉ bs) (hs:∀ d∈bs,d<base) : QF T TU base M' b ps:=by
 obtain⟨l,vs,h1,h2,h3,h4⟩:=h.row
 refine⟨Nat.lt_of_lt_of_le h.lt hk.next,h.len,⟨l,vs,hk.aP h1 h.lt hb,h2,fun i hi=>⟨(h3 i hi).1,(h3 i hi).2.1,(h3 i hi).2.2.keep hk fun d hd hm=>?_⟩,h4⟩,h.nb⟩
 have:=((h3 i hi).2.2.blk d hd).1
 have:=hs d hm
 omega
theorem QF.more {T TU base:Nat} {M:RM} {b i x:Nat} {ps:List Pt} (h:QF T TU base M b ps) (hi:i<16) (hlen:(ps.getD i (0,[])).2.length≤1000000) (hbase:base≤M.next) {K:RM→Prop}
  (hK:∀ M' ks,QF T TU base M' b (ps.set i ((ps.getD i (0,[])).1,(ps.getD i (0,[])).2++[x]))→ag ks M M'→(∀ d∈ks,d=b∨base≤d)→K M') :
  au M (.ptr b (2 * i + 1)) fun t55=>fV TU 1 [(N .u64 0)] [(0,1,N .u64 (x:Int))] fun r f=>cz r f M fun t57 dV=>appW TU 1 8 [(N .u64 0)] false t55 t57 dV fun t58 fF =>
   cB (.ptr b (2 * i)) fun t59=>aJ t59 1 fun t60=>aC fF t60 t58 1 K:=by
 obtain⟨l,vs,h1,h2,h3,h4⟩:=h.row
 have hnb:=h.nb
 have hblt:=h.lt
 have hil:i<ps.length:=by rw[h.len]; exact hi
 have hpD:ps.getD i (0,[])=ps[i]:=by rw[List.getD_eq_getElem?_getD,List.getElem?_eq_getElem hil]; rfl
 rw[hpD] at hlen hK
 rw[az h1 (h3 i hil).2.1,rP (x:=N .u64 (x:Int)) (size:=1) rfl rfl rfl,bB]
 refine xz (E:=aX) (a:=x) (h3 i hil).2.2 hbase (Nat.le_refl _) (by omega) (by omega) ?_
 intro v' M' o1 k1 n1 hv
 have hbv:∀ j,b ∉ aH (vs j)∨¬ j<16:=fun j=>by
  by_cases hj:j<16
  ·refine .inl fun hm=>?_
   have:=((h3 j (by rw[h.len]; exact hj)).2.2.blk b hm).1
   omega
  ·exact .inr hj
 have hh:M'.heap b=some (.row l false T 0):=k1.aP h1 hblt (by rcases hbv i with h | h; exact h; exact absurd hi h)
 rw[aM,aU,fG hh (by omega) o1.cells o1.one]
 have kk:ag [b] M' (M'.put b (.row (l.set (2 * i + 1) v') false T 0)):=(ag.refl _ _).put _ (.inr (by simp))
 have nbv:b ∉ aH v':=fun hm=>by have:=(o1.blk b hm).1; omega
 refine hK _ (b :: aH (vs i)) ⟨Nat.lt_of_lt_of_le hblt n1,by rw[List.length_set]; exact h.len,⟨_,fun j=>if j=i then v' else vs j,aR _,by rw[List.length_set]; exact h2,fun j hj=>?_,fun j1 j2 q1 q2 hne d hd=>?_⟩,h.nb⟩ ?_ ?_
 ·have hj' : j<ps.length:=by rw[List.length_set] at hj; exact hj
  by_cases hji:j=i
  ·subst hji
   refine⟨?_, ?_, ?_⟩
   ·rw[List.getElem?_set_ne (by omega),List.getElem_set_self]; exact(h3 j hj').1
   ·rw[List.getElem?_set_self (by omega)]; simp
   ·rw[List.getElem_set_self]; simp only[if_true]
    exact o1.keep kk fun d hd hm=>by simp at hm; subst hm; exact nbv hd
  ·have aeO:j<16:=by rw[← h.len]; exact hj'
   refine⟨?_, ?_, ?_⟩
   ·rw[List.getElem?_set_ne (by omega),List.getElem_set_ne (Ne.symm hji)]; exact(h3 j hj').1
   ·rw[List.getElem?_set_ne (by omega)]; simp only[if_neg hji]; exact(h3 j hj').2.1
   ·rw[List.getElem_set_ne (Ne.symm hji)]; simp only[if_neg hji]
    refine((h3 j hj').2.2.keep k1 fun d hd hm=>h4 j i aeO hi hji d hd hm).keep kk fun d hd hm=>?_
    simp at hm; subst hm
    rcases hbv j with h | h
    ·exact h hd
    ·exact h aeO
 ·simp only at hd ⊢
  by_cases e1:j1=i
  ·rw[if_pos e1] at hd
   rw[if_neg (fun e=>hne (e1.trans e.symm))]
   rcases hv with rfl | hv
   ·exact h4 i j2 hi q2 (fun e=>hne (e1.trans e)) d hd
   ·intro hm
    have:=hv d hd
    have:=((h3 j2 (by rw[h.len]; exact q2)).2.2.blk d hm).2
    omega
  ·rw[if_neg e1] at hd
   by_cases e2:j2=i
   ·rw[if_pos e2]
    rcases hv with rfl | hv
    ·exact h4 j1 i q1 hi e1 d hd
    ·intro hm
     have:=hv d hm
     have:=((h3 j1 (by rw[h.len]; exact q1)).2.2.blk d hd).2
     omega
   ·rw[if_neg e2]
    exact h4 j1 j2 q1 q2 hne d hd
 ·exact(k1.mono (fun d hd=>List.mem_cons_of_mem _ hd)).trans (kk.mono (by simp))
 ·intro d hd
  rcases List.mem_cons.1 hd with rfl | hd
  ·exact .inl rfl
  ·exact .inr ((h3 i hil).2.2.blk d hd).1
theorem Own.sl {M:RM} {base T:Nat} {v:AV} {L:List UInt8} (h:Own M base T 1 v (TR L) L.length) : Sl BY M v L:=by
 have:=h.jq
 show aL M 1 v (BY.row L) L.length
 rw[ab3]; exact this
@[irreducible] def arl (bs:List UInt8) (f:Bool) : Nat × List UInt8 × Bool:=ahl 18446744073709551615 bs f
theorem Gg {ps:List Pt} {i:Nat} (h:i<ps.length) (p:Pt) : (ps.set i p).getD i (0,[])=p:=by
 rw[List.getD_eq_getElem?_getD,List.getElem?_set_self h]; rfl
def Ad (a b:aD) : Bool:=decide (a.1<b.1) || (decide (a.1=b.1) && decide (a.2<b.2))
theorem MZ (a b:aD) : dG [1,1] (aT a) (aT b)=some (decide (a=b)):=by
 obtain⟨d,n⟩:=a
 obtain⟨e,k⟩:=b
 simp only[MC,EC]
 by_cases h1:d=e
 ·by_cases h2:n=k
  ·simp[h1,h2]
  ·have:¬ (n:Int)=(k:Int):=by omega
   simp[h1,h2,this]
 ·simp[h1]
section
variable {α:Type} {E:Enc α}
theorem ahr {M:RM} {base T k:Nat} {v:AV} {xs:List α} (hE:1≤E.size) (ho:Ow E M base T v xs) (hk:k≤xs.length) :
  ∃ v1 v2,cO E.size v none (some (N .i64 (k:Int))) none=some v1∧Sl E M v1 (xs.take k)∧cO E.size v (some (N .i64 (k:Int))) none none=some v2∧Sl E M v2 (xs.drop k)∧(∀ d∈aH v1,d∈aH v)∧∀ d∈aH v2,d∈aH v:=by
 have hs:=ho.jq
 generalize hcs:E.row xs=cs at *
 have ho' : Own M base T E.size v cs xs.length:=by rw[← hcs]; exact ho
 have hl:cs.length=xs.length * E.size:=by rw[← hcs,Enc.eY]
 have hd:E.row (xs.drop k)=cs.drop (k * E.size):=by rw[← hcs,← E.xL]
 have ht:E.row (xs.take k)=cs.take (k * E.size):=by rw[← hcs,← E.wQ]
 have g1:∀ v',Sl E M v' (xs.take k)↔aL M E.size v' (cs.take (k * E.size)) k:=fun v'=>by simp only[Sl]; rw[ht,List.length_take,Nat.min_eq_left hk]
 have g2:∀ v',Sl E M v' (xs.drop k)↔aL M E.size v' (cs.drop (k * E.size)) (xs.length - k):=fun v'=>by simp only[Sl]; rw[hd,List.length_drop]
 generalize hn:xs.length=n at *
 cases ho' with
 | nil =>
   have:k=0:=by omega
   subst this
   exact⟨bZ,bZ,by simp[cO,bnd],(g1 _).2 (by simp; exact .nil),by simp[cO,bnd],(g2 _).2 (by simp; exact .nil),by simp,by simp⟩
 | ex0 b o h1 h2 h3 =>
   have:k=0:=by omega
   subst this
   have e0:aL M E.size (.slc b o 0 (.ex 0)) [] 0:=hs
   exact⟨.slc b o 0 (.ex 0),.slc b o 0 (.ex 0),by simp[cO,bnd],(g1 _).2 (by simpa using e0),by simp[cO,bnd],(g2 _).2 (by simpa using e0),by simp[aH],by simp[aH]⟩
 | op b n cs h1 h2 h3 h4 =>
   have hload:∀ o m,o + m≤cs.length→M.loads b o m=some ((cs.drop o).take m):=fun o m h=>RM.dw h3 h
   have hmul:k * E.size≤n * E.size:=Nat.mul_le_mul_right _ hk
   by_cases hn0:n=0
   ·have hk0:k=0:=by omega
    subst hk0 hn0
    have hc0:cs=[]:=List.length_eq_zero_iff.1 (by simpa using h4)
    subst hc0
    exact⟨.emp b,.emp b,by simp[cO,bnd],(g1 _).2 (by simp; exact .emp b),by simp[cO,bnd],(g2 _).2 (by simp; exact .emp b),by simp[aH],by simp[aH]⟩
   ·have p1:aL M E.size (.slc b (0 + 0 * E.size) (k - 0) (.op E.size)) (cs.take (k * E.size)) k:=by
     rw[Nat.sub_zero,Nat.zero_mul]
     refine .slc _ _ _ _ _ h2 ?_
     have:=hload 0 (k * E.size) (by omega)
     simpa using this
    by_cases hkn:n≤k
    ·refine⟨.slc b (0 + 0 * E.size) (k - 0) (.op E.size),.emp b,by simp only[cO,bnd]; simp[hk,hn0],(g1 _).2 p1,by simp only[cO,bnd]; simp[hk,hkn],(g2 _).2 ?_,by simp[aH],by simp[aH]⟩
     have:k=n:=by omega
     subst this
     rw[Nat.sub_self,List.drop_of_length_le (by omega)]
     exact .emp b
    ·refine⟨.slc b (0 + 0 * E.size) (k - 0) (.op E.size),.slc b (0 + k * E.size) (n - k) (.op E.size),by simp only[cO,bnd]; simp[hk,hn0],(g1 _).2 p1,by simp only[cO,bnd]; simp[hk,hkn],(g2 _).2 ?_,by simp[aH],by simp[aH]⟩
     refine .slc _ _ _ _ _ h2 ?_
     have hs2:k * E.size + (n - k) * E.size=n * E.size:=by rw[← Nat.add_mul]; congr 1; omega
     rw[Nat.zero_add,hload (k * E.size) ((n - k) * E.size) (by omega),List.take_of_length_le (by simp; omega)]
end
def atL (d:aD) (l:List aD) : Nat:=(l.takeWhile (fun x=>Ad x d)).length
def aa5 (l:List aD) (d:aD) : List aD:=if d∈l then l else l.take (atL d l)++d :: l.drop (atL d l)
theorem afD (l:List aD) (d:aD) : (aa5 l d).length≤l.length + 1:=by
 unfold aa5
 split
 ·omega
 ·simp; omega
def agP (T:Nat) (c:aj) : Prop:=∀ {M:RM} {base:Nat} {v:AV} {l:List aD} {d:aD} {Q:ak},Ow eQ M base T v l→base≤M.next→l.length≤100000→(∀ v' M',Ow eQ M' base T v' (aa5 l d)→ag [] M M'→Q v' M')→c [v,.agg (aT d)] M Q
def sZ (p:List Pt × List aD) (d:aD) : List Pt × List aD:=((lh p.1 d).2,if (lh p.1 d).1=0 then aa5 p.2 d else p.2)
def Vk (l:List aD) : List Pt × List aD:=l.foldl sZ (jG,[])
theorem KW:∀ p∈jG,om p:=fun p hp=>by
 simp only[jG,List.mem_replicate] at hp
 rw[hp.2]
 exact⟨.nil,fun x hx=>by simp at hx,Nat.zero_le _,fun x hx=>by simp at hx,Nat.zero_le _⟩
theorem zW {ps:List Pt} (h:∀ p∈ps,om p) (i:Nat) : om (ps.getD i (0,[])):=by
 rw[List.getD_eq_getElem?_getD]
 by_cases hj:i<ps.length
 ·rw[List.getElem?_eq_getElem hj]
  exact h _ (List.getElem_mem hj)
 ·rw[List.getElem?_eq_none (by omega)]
  exact⟨.nil,fun x hx=>by simp at hx,Nat.zero_le _,fun x hx=>by simp at hx,Nat.zero_le _⟩
theorem Y0 {ps:List Pt} {d:aD} (h:∀ p∈ps,om p) : ∀ p∈(lh ps d).2,om p:=by
 unfold lh
 split
 ·rename_i hg
  split
  ·intro p hp
   rcases List.mem_or_eq_of_mem_set hp with hp | rfl
   ·exact h p hp
   ·refine ahH (zW h _) ?_
    simp only[good,Bool.and_eq_true,decide_eq_true_eq] at hg
    exact hg.2
  ·exact h
 ·exact h
def OfC (TS TD:Nat) (c:aj) : Prop:=∀ {M:RM} {v:AV} {l:List aD} {Q:ak},Sl eQ M v l→l.length≤10000 →
 (∀ s w M',M.next≤s→gN TS (fun e=>s<e) M' s (Vk l).1→(∀ p∈(Vk l).1,om p)→Ow eQ M' (s + 1) TD w (Vk l).2→(Vk l).2.length≤l.length→ag [] M M'→Q (.tup [.ptr s 0,w]) M')→c [v] M Q
theorem YC {TS TD:Nat} {cn ca cr:aj} (hn:Xt TS cn) (ha:Sq TS ca) (hr:agP TD cr) : OfC TS TD fun args M Q=>∃ a0,args=[a0]∧alU cn ca cr a0 M Q:=by
 intro M v l Q hs hl hQ
 refine⟨_,rfl, ?_⟩
 unfold alU
 simp only[bR]
 refine hn fun M1 hs1 k1 n1=>?_
 generalize hsn:M.next=s at *
 refine aI (fun m ys M3=>∃ (i:Nat) (w:AV) (p:List Pt × List aD),m=l.length - i∧ys=[w,N .i64 (i:Int)]∧i≤l.length∧ag [] M M3∧s<M3.next∧gN TS (fun e=>s<e) M3 s p.1∧(∀ q∈p.1,om q)∧Ow eQ M3 (s + 1) TD w p.2∧p.2.length≤i ∧
   Vk l=(l.drop i).foldl sZ p) _
  ⟨0,bZ,(jG,[]),rfl,rfl,Nat.zero_le _,k1,by omega,hs1.mono (fun _ h=>h.elim) (by omega),KW,.nil,Nat.le_refl _,rfl⟩ ?_
 rintro next m ys M3 hnext ⟨i,w,p,rfl,rfl,hi,k3,n3,hs3,hw3,ho3,hpl,hof⟩
 dsimp only[aa]
 have s3:Sl eQ M3 v l:=aL.keep hs k3 (by simp)
 rw[aL.len s3,dB]
 refine aG (fun hlt=>?_) (fun hge=>?_)
 ·have hlt:i<l.length:=by simpa using hlt
  rw[List.drop_eq_getElem_cons hlt,List.foldl_cons] at hof
  refine aY (fun zs M'=>∃ w',zs=[w']∧ag [] M M'∧s<M'.next∧gN TS (fun e=>s<e) M' s (sZ p l[i]).1∧(∀ q∈(sZ p l[i]).1,om q)∧Ow eQ M' (s + 1) TD w' (sZ p l[i]).2∧(sZ p l[i]).2.length≤i + 1) ?_ ?_
  ·rintro zs M' ⟨w',rfl,b1,b2,b3,b4,b5,b6⟩
   dsimp only[aa]
   rw[cZ,iN (by omega)]
   exact hnext _ _ _ (by omega) ⟨i + 1,w',_,rfl,rfl,by omega,b1,b2,b3,b4,b5,b6,hof⟩
  intro J hJ
  obtain⟨b1,o1,_,_,hidx,hld⟩:=Sl.at (E:=eQ) (i:=i) s3 2 (i:Int) hlt rfl rfl
  rw[hidx,gK]
  refine⟨_,hld, ?_⟩
  refine ha hs3 hw3 fun M4 hs4 k4=>?_
  have n4:=k4.next
  have k34:ag [] M M4:=k3.dK k4 (by simp; omega)
  have alv:gN TS (fun e=>s<e) M4 s (lh p.1 l[i]).2:=hs4.mono (fun e h=>by rcases h with h | h <;> omega) (by omega)
  have ho4:=ho3.keep k4 (fun b hb hm=>by have:=(ho3.blk b hb).1; simp at hm; omega)
  have hw4:=Y0 (d:=l[i]) hw3
  rw[bU]
  refine aG (fun he=>?_) (fun he=>?_)
  ·have he:(lh p.1 l[i]).1=0:=by simpa using he
   have s4:Sl eQ M4 v l:=aL.keep hs k34 (by simp)
   obtain⟨b2,o2,_,_,anp,aqG⟩:=Sl.at (E:=eQ) (i:=i) s4 2 (i:Int) hlt rfl rfl
   rw[anp,gK]
   refine⟨_,aqG, ?_⟩
   refine hr ho4 (by omega) (by omega) fun w' M5 ho5 k5=>?_
   have n5:=k5.next
   refine hJ _ _ ⟨w',rfl,k34.trans k5,by omega, ?_,hw4, ?_, ?_⟩
   ·exact alv.keep k5 (by simp) (by simp)
   ·rw[sZ]; simp only[he,if_true]; exact ho5
   ·rw[sZ]; simp only[he,if_true]
    have:=afD p.2 l[i]
    omega
  ·have he:¬ (lh p.1 l[i]).1=0:=by simpa using he
   refine hJ _ _ ⟨w,rfl,k34,by omega,alv,hw4, ?_, ?_⟩
   ·rw[sZ]; simp only[he,if_false]; exact ho4
   ·rw[sZ]; simp only[he,if_false]; omega
 ·have he:i=l.length:=by simp at hge; omega
  subst he
  rw[List.drop_length,List.foldl_nil] at hof
  subst hof
  exact hQ s w M3 (Nat.le_refl _) hs3 hw3 ho3 hpl k3
theorem Own.yJ {M:RM} {base el size n:Nat} {v:AV} {cs:List AV} (h:Own M base el size v cs n) (hn:0<n) : ∃ b,v=.slc b 0 n (.op size)∧base≤b∧b<M.next∧M.heap b=some (.row cs true el 0)∧cs.length=n * size:=by
 cases h with
 | nil=>omega
 | ex0=>omega
 | op b n cs h1 h2 h3 h4=>exact⟨b,rfl,h1,h2,h3,h4⟩
theorem aeB (x:Nat) (xs:List Nat) : fD xs.length x xs=xs++[x]:=by simp[fD]
theorem aag {M:RM} {v:AV} {bx n0 T x ex:Nat} {xs:List Nat} {co cr:aj} {Q:ak} (ho:Ow aX M n0 T v xs) (hn:n0≤M.next) (hl:xs.length≤100000) (hx:M.heap bx=some (.row [N .u64 (x:Int)] false ex 0)) (hxl:bx<M.next)
  (hQ:∀ v' M',Sl aX M' v' (fD xs.length x xs)→mh v'→(∀ c∈aH v',n0≤c)→ag (aH v) M M'→Q v' M') : nH T co cr v (N .i64 (xs.length:Int)) (.slc bx 0 1 (.ex 1)) M Q:=by
 unfold nH
 obtain⟨v1,v2,e1,s1,e2,s2,hb1,hb2⟩:=ahr (E:=aX) (k:=xs.length) (by decide) ho (Nat.le_refl _)
 have e2:cO 1 v (some (N .i64 (xs.length:Int))) none none=some v2:=e2
 have hs:Sl aX M v xs:=ho.jq
 rw[e2,eH,nX,bU,show((((1:Nat) : Int)) == 0)=false from rfl,bD,aL.len hs,bU,show((xs.length:Int) == (xs.length:Int))=true by simp,dD]
 have sx:Sl aX M (.slc bx 0 1 (.ex 1)) [x]:=.slc _ _ _ _ _ hxl (by rw[RM.dw hx (by show 0 + 1 * 1≤1; omega)]; rfl)
 refine IV (E:=aX) (ys:=[x]) ho hn (Nat.le_refl _) sx (by simp; omega) (by simp; omega) ?_
 intro v' M' o k _ _
 refine hQ v' M' ?_ (Own.mh o) (fun c hc=>(o.blk c hc).1) k
 rw[aeB]
 exact o.jq
def wU (p q:Pt) : Bool:=decide (p.1≤q.1) && p.2.all (ku q)
def zX (ps qs:List Pt) : Bool:=(List.range 16).all fun i=>wU (ps.getD i (0,[])) (qs.getD i (0,[]))
theorem JZ {ps qs:List Pt} : zX ps qs=true↔∀ i,i<16→wU (ps.getD i (0,[])) (qs.getD i (0,[]))=true:=by
 unfold zX
 rw[List.all_eq_true]
 exact⟨fun h i hi=>h i (List.mem_range.2 hi),fun h i hi=>h i (List.mem_range.1 hi)⟩
def Ql (T:Nat) (c:aj) : Prop:=∀ {M:RM} {a b:Nat} {ps qs:List Pt} {S S' : Nat→Prop} {Q:ak},gN T S M a ps→gN T S' M b qs→(∀ p∈ps,p.2.length≤1000000)→(∀ q∈qs,Asc q.2∧q.2.length≤1000000) →
 (∀ M',ag [] M M'→Q (Bo (zX ps qs)) M')→c [.ptr a 0,.ptr b 0] M Q
theorem XO {TS T:Nat} {ch:aj} (hh:Sj ch) : Ql TS fun args M Q=>∃ a0 a1,args=[a0,a1]∧Bi T ch a0 a1 M Q:=by
 intro M a b ps qs S S' Q h h' hpl hql hQ
 refine⟨_,_,rfl, ?_⟩
 unfold Bi
 obtain⟨l,ha,abt,hrow⟩:=h.row
 obtain⟨l',hb,hl32',hrow'⟩:=h'.row
 rw[aM,bG,fA (n:=32) ha abt]
 refine aI (fun m ys M3=>∃ (i:Nat),m=16 - i∧ys=[N .i64 (i:Int)]∧i≤16∧ag [] M M3∧∀ j,j<i→wU (ps.getD j (0,[])) (qs.getD j (0,[]))=true) _
  ⟨0,rfl,rfl,Nat.zero_le _,ag.refl _ _,fun j hj=>by omega⟩ ?_
 rintro next m ys M3 hnext ⟨i,rfl,rfl,hi,hK,hset⟩
 dsimp only[aa]
 rw[dB]
 refine aG (fun hlt=>?_) (fun hge=>?_)
 ·have hlt:i<16:=by
   have:(i:Int)<16:=of_decide_eq_true hlt
   omega
  have hil:i<ps.length:=by rw[h.len]; exact hlt
  have ae7:i<qs.length:=by rw[h'.len]; exact hlt
  obtain⟨w,a1,a2,a3,a4,a5⟩:=hrow i hil
  obtain⟨w',b1,b2,b3,b4,b5⟩:=hrow' i ae7
  have hpD:ps.getD i (0,[])=ps[i]:=by rw[List.getD_eq_getElem?_getD,List.getElem?_eq_getElem hil]; rfl
  have hqD:qs.getD i (0,[])=qs[i]:=by rw[List.getD_eq_getElem?_getD,List.getElem?_eq_getElem ae7]; rfl
  have hcut:(l.drop (2 * i)).take 2=[N .u64 (ps[i].1:Int),w]:=by
   obtain⟨q1,q2⟩:=List.getElem?_eq_some_iff.1 a1
   obtain⟨r1,r2⟩:=List.getElem?_eq_some_iff.1 a2
   rw[List.drop_eq_getElem_cons q1,List.drop_eq_getElem_cons r1,q2,r2]; rfl
  rw[acS]
  refine⟨by omega,by omega,by simp only[Int.toNat_natCast]; omega, ?_⟩
  rw[Int.toNat_natCast,Nat.mul_comm i 2,hcut,bB]
  have hw1:=aL.one a3
  rw[gz (n:=2) (x:=.agg [N .u64 (ps[i].1:Int),w]) (l:=[N .u64 0,.sc (.slice none 0 0)]) (RM.aS _) rfl rfl (by simp[AV.cells,hw1]; rfl)]
  have kk:ag [] M3 ((M3.push (.row [N .u64 0,.sc (.slice none 0 0)] false T 0)).put M3.next (.row (AV.agg [N .u64 (ps[i].1:Int),w]).cells false T 0)):=((ag.refl _ _).push _).new _ (Nat.le_refl _)
  have hh' : ((M3.push (.row [N .u64 0,.sc (.slice none 0 0)] false T 0)).put M3.next (.row (AV.agg [N .u64 (ps[i].1:Int),w]).cells false T 0)).heap M3.next=some (.row [N .u64 (ps[i].1:Int),w] false T 0):=aR _
  generalize (M3.push (.row [N .u64 0,.sc (.slice none 0 0)] false T 0)).put M3.next (.row (AV.agg [N .u64 (ps[i].1:Int),w]).cells false T 0)=M4 at *
  have k4:=hK.trans kk
  have s4:Sl aX M4 w ps[i].2:=aL.keep a3 k4 (by simp)
  have t4:Sl aX M4 w' qs[i].2:=aL.keep b3 k4 (by simp)
  have hb4:=k4.aP hb h'.lt (by simp)
  have hxl:=hpl _ (List.getElem_mem hil)
  obtain⟨hqa,hqn⟩:=hql _ (List.getElem_mem ae7)
  rw[aM,bG,AJ]
  refine⟨by omega,by omega, ?_⟩
  rw[Int.toNat_natCast,Nat.zero_add,Nat.mul_comm i 2,bG,az hh' rfl,aM,aU,Nat.add_zero,az hb4 b1,jS]
  have fail:∀ M5,ag [] M4 M5→wU ps[i] qs[i]=false→Q (Bo false) M5:=fun M5 k5 hf=>by
   have:zX ps qs=false:=by
    rw[Bool.eq_false_iff]
    intro hall
    have:=JZ.1 hall i hlt
    rw[hpD,hqD,hf] at this
    cases this
   rw[← this]
   exact hQ M5 (k4.trans k5)
  refine aG (fun hg=>fail M4 (ag.refl _ _) ?_) (fun hg=>?_)
  ·have:((ps[i].1:Nat) : Int) > ((qs[i].1:Nat) : Int):=of_decide_eq_true hg
   unfold wU
   rw[show decide (ps[i].1≤qs[i].1)=false by simp; omega,Bool.false_and]
  ·have hle:ps[i].1≤qs[i].1:=by
    have:¬ ((ps[i].1:Nat) : Int) > ((qs[i].1:Nat) : Int):=of_decide_eq_false hg
    omega
   rw[bG,az hh' rfl,aL.len s4]
   refine aI (fun m ys M5=>∃ (j:Nat),m=ps[i].2.length - j∧ys=[N .i64 (j:Int)]∧j≤ps[i].2.length∧M5=M4∧ps[i].2.all (ku qs[i])=(ps[i].2.drop j).all (ku qs[i])) _
    ⟨0,rfl,rfl,Nat.zero_le _,rfl,rfl⟩ ?_
   rintro gT m ys M5 dH ⟨j,rfl,rfl,hj,rfl,hall⟩
   dsimp only[aa]
   rw[dB]
   refine aG (fun hlt2=>?_) (fun sP=>?_)
   ·have hlt2:j<ps[i].2.length:=by simpa using hlt2
    obtain⟨b9,o9,_,_,hidx,hc⟩:=Sl.Hu (E:=aX) s4 (j:Int) hlt2
    rw[List.drop_eq_getElem_cons hlt2,List.all_cons] at hall
    rw[hidx,gL]
    refine⟨_,hc _ rfl, ?_⟩
    refine hh hb4 b1 b2 t4 hqa hqn ?_
    rw[bH]
    cases hhas:ku (qs[i].1,qs[i].2) ps[i].2[j] with
    | false =>
      have hhas:ku qs[i] ps[i].2[j]=false:=hhas
      rw[Bool.not_false,dD]
      refine fail M5 (ag.refl _ _) ?_
      unfold wU
      rw[hall,hhas,Bool.false_and,Bool.and_false]
    | true =>
      have hhas:ku qs[i] ps[i].2[j]=true:=hhas
      rw[Bool.not_true,bD,cZ,iN (by omega)]
      refine dH _ _ _ (by omega) ⟨j + 1,rfl,rfl,by omega,rfl, ?_⟩
      rw[hall,hhas,Bool.true_and]
   ·have he:j=ps[i].2.length:=by simp at sP; omega
    subst he
    rw[List.drop_length,List.all_nil] at hall
    rw[cZ,iN (by omega)]
    refine hnext _ _ _ (by omega) ⟨i + 1,rfl,rfl,by omega,k4,fun j hj=>?_⟩
    rcases Nat.lt_or_ge j i with h | h
    ·exact hset j h
    ·have:j=i:=by omega
     subst this
     rw[hpD,hqD]
     unfold wU
     rw[hall,Bool.and_true]
     simpa using hle
 ·have he:i=16:=by
   have:¬ (i:Int)<16:=of_decide_eq_false hge
   omega
  subst he
  have:zX ps qs=true:=JZ.2 hset
  rw[← this]
  exact hQ M3 hK
def gZ (ps:List Pt) (d:aD) : Bool:=good d && ku (ps.getD d.1.toNat (0,[])) d.2
def aaA (T:Nat) (c:aj) : Prop:=∀ {M:RM} {b:Nat} {ps:List Pt} {d:aD} {S:Nat→Prop} {Q:ak},gN T S M b ps→(∀ q∈ps,Asc q.2∧q.2.length≤1000000) →
 (∀ M',ag [] M M'→Q (Bo (gZ ps d)) M')→c [.ptr b 0,.agg (aT d)] M Q
theorem ac5 {TS T:Nat} {cg ch:aj} (hg:BF cg) (hh:Sj ch) : aaA TS fun args M Q=>∃ a0 a1,args=[a0,a1]∧GU T cg ch a0 a1 M Q:=by
 intro M b ps d S Q h hql hQ
 refine⟨_,_,rfl, ?_⟩
 unfold GU
 simp only[fB,dY]
 rw[dS rfl (by simp),bB,fA (n:=2) (RM.aS _) rfl]
 have k1:ag [] M (M.push (.row (aT d) false T 0)):=(ag.refl _ _).push _
 have h3:(M.push (.row (aT d) false T 0)).heap M.next=some (.row (aT d) false T 0):=RM.aS _
 have n1:(M.push (.row (aT d) false T 0)).next=M.next + 1:=rfl
 generalize M.push (.row (aT d) false T 0)=M1 at *
 refine hg fun M2 k2=>?_
 have kk:=k1.trans k2
 have h3:=k2.aP h3 (by omega) (by simp)
 have hQ:=hQ M2 kk
 unfold gZ at hQ
 cases hgd:good d with
 | false =>
   rw[bS]
   dsimp only
   rw[df]
   rw[hgd,Bool.false_and] at hQ
   exact hQ
 | true =>
   rw[hgd,Bool.true_and] at hQ
   simp[good] at hgd
   obtain⟨i,hi⟩ : ∃ i:Nat,d.1=(i:Int):=⟨d.1.toNat,by omega⟩
   have aey:i<16:=by omega
   have s2:=h.keep kk (by simp) (by simp)
   have hil:i<ps.length:=by rw[h.len]; exact aey
   have hpD:ps.getD d.1.toNat (0,[])=ps[i]:=by rw[hi,Int.toNat_natCast,List.getD_eq_getElem?_getD,List.getElem?_eq_getElem hil]; rfl
   rw[hpD] at hQ
   obtain⟨l,hb,abt,hrow⟩:=s2.row
   obtain⟨v,a1,a2,a3,a4,a5⟩:=hrow i hil
   obtain⟨hqa,hqn⟩:=hql _ (List.getElem_mem hil)
   rw[dx]
   dsimp only
   rw[bG,az h3 rfl,aM,bG,hi,AJ]
   refine⟨by omega,by omega, ?_⟩
   rw[bG,az h3 rfl,Int.toNat_natCast,Nat.zero_add,Nat.mul_comm i 2]
   refine hh hb a1 a2 a3 hqa hqn ?_
   rw[eT]
   exact hQ
abbrev lN:Nat→Nat→Bool:=fun x y=>decide (x<y)
def PM (M:RM) (b T:Nat) (d:Array Nat) : RM:=M.put b (.row (aX.row d.toList) true T 0)
abbrev vv (b n:Nat) : AV:=.slc b 0 n (.op 1)
section
variable {M:RM} {b T n i j:Nat} {d:Array Nat} {K:AV→Prop}
theorem PM.heap:(PM M b T d).heap b=some (.row (aX.row d.toList) true T 0):=RM.xm _ _
theorem PM.LP:(aX.row d.toList).length=d.size:=by rw[Enc.eY]; simp[aX]
theorem xC (hi:i<d.size) : d[i]! = d[i]:=getElem!_pos d i hi
theorem PM.cellAt (hi:i<d.size) : (aX.row d.toList)[i]?=some (N .u64 ((d[i]! : Nat) : Int)):=by
 rw[Po,List.getElem?_map,Array.getElem?_toList,xC hi,Array.getElem?_eq_getElem hi]; rfl
theorem PM.idx {kd:IntKind} (hi:i<n) : ai (vv b n) (N kd (i:Int)) 1 K=K (.ptr b i):=by
 rw[pW]
 simp only[Int.toNat_natCast]
 rw[show 0 + i * 1=i by omega]
 exact propext ⟨fun h=>h.2.2,fun h=>⟨by omega,by omega,h⟩⟩
theorem PM.rd {kd:IntKind} (hn:n=d.size) (hi:i<d.size) : (ai (vv b n) (N kd (i:Int)) 1 fun p=>au (PM M b T d) p K)=K (N .u64 ((d[i]! : Nat) : Int)):=by
 rw[PM.idx (by omega),az PM.heap (PM.cellAt hi)]
theorem PM.put {x:Nat} (hi:i<d.size) {K:RM→Prop} : aC (PM M b T d) (.ptr b i) (N .u64 (x:Int)) 1 K=K (PM M b T (d.setIfInBounds i x)):=by
 rw[fG PM.heap (by rw[PM.LP]; exact hi) rfl rfl]
 congr 1
 have e:(aX.row d.toList).set i (N .u64 (x:Int))=aX.row (d.setIfInBounds i x).toList:=by rw[Po,Po,Array.toList_setIfInBounds,List.map_set]
 rw[e,PM,PM]
 unfold RM.put
 congr 1
 funext c
 by_cases h:c=b <;> simp[h]
theorem PM.swap {k1 k2:IntKind} (hn:n=d.size) (hi:i<d.size) (hj:j<d.size) {K:RM→Prop} :
  (ai (vv b n) (N k1 (i:Int)) 1 fun p=>aC (PM M b T d) p (N .u64 ((d[j]! : Nat) : Int)) 1 fun M1=>ai (vv b n) (N k2 (j:Int)) 1 fun q=>aC M1 q (N .u64 ((d[i]! : Nat) : Int)) 1 K)=K (PM M b T (Sort.swp d i j)):=by
 rw[PM.idx (by omega),PM.put hi,PM.idx (by omega),PM.put (by simpa using hj)]
 rfl
theorem eO (d:Array Nat) (i j:Nat) : (Sort.swp d i j).size=d.size:=by simp[Sort.swp]
theorem PM.push {x:RB} (h:b<M.next) : (PM M b T d).push x=PM (M.push x) b T d:=by
 unfold PM RM.push RM.put
 congr 1
 funext c
 simp only
 by_cases h1:c=M.next <;> by_cases h2:c=b <;> simp[h1,h2] <;> omega
theorem PM.Zv {x:RB} {c:Nat} (h:c≠b) : (PM M b T d).put c x=PM (M.put c x) b T d:=by
 unfold PM RM.put
 congr 1
 funext e
 simp only
 by_cases h1:e=c <;> by_cases h2:e=b <;> simp[h1,h2] <;> omega
theorem PM.MN {c:Nat} (h:c≠b) : (PM M b T d).heap c=M.heap c:=by
 unfold PM RM.put; simp[h]
theorem addN (h:i + j<4611686018427387904) : ae .add (N .i64 (i:Int)) (N .i64 (j:Int)) K=K (N .i64 ((i + j:Nat) : Int)):=by
 rw[cZ,aW (by omega) (by omega),Int.natCast_add]
theorem add1 (h:i<4611686018427387904) : ae .add (N .i64 (i:Int)) (N .i64 1) K=K (N .i64 ((i + 1:Nat) : Int)):=by
 rw[cZ,iN (by omega)]
theorem dM (h:j≤i) (hb:i<4611686018427387904) : ae .sub (N .i64 (i:Int)) (N .i64 (j:Int)) K=K (N .i64 ((i - j:Nat) : Int)):=by
 rw[ig,aW (by omega) (by omega),show(i:Int) - (j:Int)=((i - j:Nat) : Int) by omega]
theorem bu (h:1≤i) (hb:i<4611686018427387904) : ae .sub (N .i64 (i:Int)) (N .i64 1) K=K (N .i64 ((i - 1:Nat) : Int)):=dM h hb
theorem afE (hb:i<1152921504606846976) : ae .mul (N .i64 2) (N .i64 (i:Int)) K=K (N .i64 ((2 * i:Nat) : Int)):=by
 rw[uO,aW (by omega) (by omega),show(2:Int) * (i:Int)=((2 * i:Nat) : Int) by omega]
theorem ed:ae .lss (N .i64 (i:Int)) (N .i64 (j:Int)) K=K (Bo (decide (i<j))):=by rw[dB,show decide ((i:Int)<(j:Int))=decide (i<j) by simp]
theorem pG:ae .gtr (N .i64 (i:Int)) (N .i64 (j:Int)) K=K (Bo (decide (i > j))):=by rw[jS,show decide ((i:Int) > (j:Int))=decide (i > j) by simp]
theorem jR:ae .leq (N .i64 (i:Int)) (N .i64 (j:Int)) K=K (Bo (decide (i≤j))):=by rw[lV,show decide ((i:Int)≤(j:Int))=decide (i≤j) by simp]
theorem ja:ae .geq (N .i64 (i:Int)) (N .i64 (j:Int)) K=K (Bo (decide (i ≥ j))):=by rw[iK,show decide ((i:Int) ≥ (j:Int))=decide (i ≥ j) by simp]
theorem Qv:ae .eql (N .i64 (i:Int)) (N .i64 (j:Int)) K=K (Bo (decide (i=j))):=by
 rw[bU,show((i:Int) == (j:Int))=decide (i=j) by by_cases h:i=j <;> simp[h]; omega]
end
def zP (T:Nat) (f:Array Nat→Nat→Nat→Array Nat) (P:Array Nat→Nat→Nat→Prop) (c:aj) : Prop:=∀ {M:RM} {b a e:Nat} {d:Array Nat} {Q:ak},b<M.next→d.size≤1000000→a≤e→e≤d.size→P d a e→Q (.tup []) (PM M b T (f d a e)) →
 c [vv b d.size,N .i64 (a:Int),N .i64 (e:Int)] (PM M b T d) Q
theorem JK (a:Nat) : ∀ (j:Nat) (d:Array Nat),(Sort.insInner lN a j d).size=d.size
 | 0,d=>rfl
 | j + 1,d=>by
   rw[Sort.insInner]
   split
   ·rw[JK a j,eO]
   ·rfl
theorem acp {T:Nat} {cl:aj} (hl:xZ cl) : zP T (Sort.insertionSort lN) (fun _ _ _=>True) fun args M Q=>∃ a0 a1 a2,args=[a0,a1,a2]∧eZ cl a0 a1 a2 M Q:=by
 intro M b a e d Q hb hsz hae he _ hQ
 refine⟨_,_,_,rfl, ?_⟩
 unfold eZ
 simp only[fB,dY,eP]
 rw[add1 (by omega)]
 rw[Sort.insertionSort] at hQ
 obtain⟨R,hR⟩ : ∃ R,R=Sort.insOuter lN a e (a + 1) d:=⟨_,rfl⟩
 rw[← hR] at hQ
 refine aI (fun m ys M3=>∃ (i:Nat) (d3:Array Nat),m=d.size - i∧ys=[N .i64 (i:Int)]∧i≤d.size + 1∧M3=PM M b T d3∧d3.size=d.size∧R=Sort.insOuter lN a e i d3) _ ⟨a + 1,d,rfl,rfl,by omega,rfl,rfl,hR⟩ ?_
 rintro next m ys M3 hnext ⟨i,d3,rfl,rfl,hi,rfl,hs3,hm⟩
 dsimp only[aa]
 rw[ed]
 refine aG (fun hlt=>?_) (fun hge=>?_)
 ·have hlt:i<e:=of_decide_eq_true hlt
  rw[Sort.insOuter,if_pos hlt] at hm
  obtain⟨R5,hR5⟩ : ∃ R5,R5=Sort.insInner lN a i d3:=⟨_,rfl⟩
  rw[← hR5] at hm
  refine aI (fun m ys M5=>∃ (j:Nat) (d5:Array Nat),m=j + 1∧ys=[N .i64 (j:Int)]∧j≤i∧M5=PM M b T d5∧d5.size=d.size∧R5=Sort.insInner lN a j d5) _ ⟨i,d3,rfl,rfl,Nat.le_refl _,rfl,hs3,hR5⟩ ?_
  rintro gT m ys M5 dH ⟨j,d5,rfl,rfl,hj,rfl,hs5,hm5⟩
  dsimp only[aa]
  rw[pG]
  have out:Sort.insInner lN a j d5=d5→ae .add (N .i64 (i:Int)) (N .i64 1) (fun t14=>next [t14] (PM M b T d5)):=fun h=>by
   rw[add1 (by omega)]
   refine hnext _ _ _ (by omega) ⟨i + 1,d5,rfl,rfl,by omega,rfl,hs5, ?_⟩
   rw[hm,hm5,h]
  by_cases hg:j > a
  ·obtain⟨k,rfl⟩ : ∃ k,j=k + 1:=⟨j - 1,by omega⟩
   rw[decide_eq_true hg,dx]
   dsimp only
   rw[PM.rd hs5.symm (by omega),bu (by omega) (by omega),Nat.add_sub_cancel,PM.rd hs5.symm (by omega)]
   refine hl ?_
   rw[eT]
   rw[Sort.insInner] at hm5 out
   refine aG (fun h=>?_) (fun h=>?_)
   ·rw[if_pos (by simp[hg,h])] at hm5
    rw[bu (by omega) (by omega),bu (by omega) (by omega),Nat.add_sub_cancel,PM.rd hs5.symm (by omega),PM.rd hs5.symm (by omega),PM.swap hs5.symm (by omega) (by omega),bu (by omega) (by omega),Nat.add_sub_cancel]
    exact dH _ _ _ (by omega) ⟨k,_,rfl,rfl,by omega,rfl,by rw[eO]; exact hs5,hm5⟩
   ·exact out (by rw[if_neg (by simp[h])])
  ·rw[decide_eq_false hg,bS]
   dsimp only
   rw[df,bD]
   refine out ?_
   cases j with
   | zero=>rfl
   | succ k=>rw[Sort.insInner,if_neg (by simp[hg])]
 ·have hge:¬ i<e:=of_decide_eq_false hge
  rw[Sort.insOuter,if_neg hge] at hm
  rw[hm] at hQ
  exact hQ
theorem Xc {T:Nat} : zP T Sort.reverseRange (fun _ a e=>a<e) fun args M Q=>∃ a0 a1 a2,args=[a0,a1,a2]∧jU a0 a1 a2 M Q:=by
 intro M b a e d Q hb hsz hae he hP hQ
 refine⟨_,_,_,rfl, ?_⟩
 unfold jU
 rw[bu (by omega) (by omega)]
 rw[Sort.reverseRange] at hQ
 obtain⟨R,hR⟩ : ∃ R,R=Sort.reverseLoop a (e - 1) d:=⟨_,rfl⟩
 rw[← hR] at hQ
 refine aI (fun m ys M3=>∃ (i j:Nat) (d3:Array Nat),m=j - i∧ys=[N .i64 (i:Int),N .i64 (j:Int)]∧j<d.size∧i≤d.size∧M3=PM M b T d3∧d3.size=d.size∧R=Sort.reverseLoop i j d3) _ ⟨a,e - 1,d,rfl,rfl,by omega,by omega,rfl,rfl,hR⟩ ?_
 rintro next m ys M3 hnext ⟨i,j,d3,rfl,rfl,hj,hi,rfl,hs3,hm⟩
 dsimp only[aa]
 rw[ed]
 rw[Sort.reverseLoop] at hm
 refine aG (fun hlt=>?_) (fun hge=>?_)
 ·have hlt:i<j:=of_decide_eq_true hlt
  rw[if_pos hlt] at hm
  rw[PM.rd hs3.symm (by omega),PM.rd hs3.symm (by omega),PM.swap hs3.symm (by omega) (by omega),add1 (by omega),bu (by omega) (by omega)]
  exact hnext _ _ _ (by omega) ⟨i + 1,j - 1,_,rfl,rfl,by omega,by omega,rfl,by rw[eO]; exact hs3,hm⟩
 ·have hge:¬ i<j:=of_decide_eq_false hge
  rw[if_neg hge] at hm
  rw[hm] at hQ
  exact hQ
def ZE (T:Nat) (c:aj) : Prop:=∀ {M:RM} {b lo hi first:Nat} {d:Array Nat} {Q:ak},b<M.next→d.size≤1000000→first + hi≤d.size→lo≤1000000→Q (.tup []) (PM M b T (Sort.siftDown lN hi first lo d)) →
 c [vv b d.size,N .i64 (lo:Int),N .i64 (hi:Int),N .i64 (first:Int)] (PM M b T d) Q
theorem zY (hi first:Nat) : ∀ (k lo:Nat) (d:Array Nat),hi - lo≤k→(Sort.siftDown lN hi first lo d).size=d.size
 | 0,lo,d,h=>by rw[Sort.siftDown,dif_pos (by omega)]
 | k + 1,lo,d,h=>by
   rw[Sort.siftDown]
   split
   ·rfl
   ·split
    ·split
     ·rfl
     ·split
      ·rw[zY hi first k _ _ (by omega),eO]
      ·rfl
    ·split
     ·rfl
     ·rw[zY hi first k _ _ (by omega),eO]
theorem acu {T:Nat} {cl:aj} (hl:xZ cl) : ZE T fun args M Q=>∃ a0 a1 a2 a3,args=[a0,a1,a2,a3]∧l8 cl a0 a1 a2 a3 M Q:=by
 intro M b lo hi first d Q hb hsz hfe hlo hQ
 refine⟨_,_,_,_,rfl, ?_⟩
 unfold l8
 simp only[fB,dY,eP,bR]
 obtain⟨R,hR⟩ : ∃ R,R=Sort.siftDown lN hi first lo d:=⟨_,rfl⟩
 rw[← hR] at hQ
 refine aI (fun m ys M3=>∃ (r:Nat) (d3:Array Nat),m=1000000 + hi - r∧ys=[N .i64 (r:Int)]∧(r≤1000000)∧M3=PM M b T d3∧d3.size=d.size∧R=Sort.siftDown lN hi first r d3) _ ⟨lo,d,rfl,rfl,hlo,rfl,rfl,hR⟩ ?_
 rintro next m ys M3 hnext ⟨r,d3,rfl,rfl,hr,rfl,hs3,hm⟩
 dsimp only[aa]
 rw[afE (by omega),add1 (by omega),ja]
 rw[Sort.siftDown] at hm
 refine aG (fun hg=>?_) (fun hg=>?_)
 ·rw[dif_pos (of_decide_eq_true hg)] at hm
  rw[hm] at hQ
  exact hQ
 have hg:¬ 2 * r + 1 ≥ hi:=of_decide_eq_false hg
 rw[dif_neg hg] at hm
 -- the child that is taken
 refine aY (fun zs M'=>∃ c:Nat,zs=[N .i64 (c:Int)]∧M'=PM M b T d3∧r<c∧c<hi∧R=if !lN d3[first + r]! d3[first + c]! then d3 else Sort.siftDown lN hi first c (Sort.swp d3 (first + r) (first + c))) ?_ ?_
 ·rintro zs M' ⟨c,rfl,rfl,hrc,akB,hm2⟩
  dsimp only[aa]
  rw[addN (by omega),PM.rd hs3.symm (by omega),addN (by omega),PM.rd hs3.symm (by omega)]
  refine hl ?_
  rw[bH]
  refine aG (fun h=>?_) (fun h=>?_)
  ·rw[if_pos h] at hm2
   rw[hm2] at hQ
   exact hQ
  ·rw[if_neg (by simp only[lN,h]; decide)] at hm2
   rw[addN (by omega),addN (by omega),addN (by omega),PM.rd hs3.symm (by omega),addN (by omega),PM.rd hs3.symm (by omega),PM.swap hs3.symm (by omega) (by omega)]
   exact hnext _ _ _ (by omega) ⟨c,_,rfl,rfl,by omega,rfl,by rw[eO]; exact hs3,hm2⟩
 intro J hJ
 rw[add1 (by omega),ed]
 have one:¬ (2 * r + 1 + 1<hi∧lN d3[first + (2 * r + 1)]! d3[first + (2 * r + 1) + 1]! = true)→J [N .i64 ((2 * r + 1:Nat) : Int)] (PM M b T d3):=fun h=>by
  refine hJ _ _ ⟨2 * r + 1,rfl,rfl,by omega,by omega, ?_⟩
  rw[if_neg (by simpa using h)] at hm
  exact hm
 by_cases h1:2 * r + 1 + 1<hi
 ·rw[decide_eq_true h1,dx]
  dsimp only
  rw[addN (by omega),PM.rd hs3.symm (by omega),addN (by omega),add1 (by omega),PM.rd hs3.symm (by omega)]
  refine hl ?_
  rw[eT]
  refine aG (fun h=>?_) (fun h=>?_)
  ·rw[add1 (by omega)]
   refine hJ _ _ ⟨2 * r + 2,rfl,rfl,by omega,by omega, ?_⟩
   rw[if_pos (by simp only[lN,h,decide_eq_true h1,Bool.and_self]),dif_pos (by omega)] at hm
   exact hm
  ·exact one (fun h'=>by have:=h'.2; rw[show lN d3[first + (2 * r + 1)]! d3[first + (2 * r + 1) + 1]! = false from h] at this; cases this)
 ·rw[decide_eq_false h1,bS]
  dsimp only
  rw[df,bD]
  exact one (fun h=>h1 h.1)
theorem VA (hi first:Nat) : ∀ (k:Nat) (d:Array Nat),(Sort.heapBuild lN hi first k d).size=d.size
 | 0,d=>rfl
 | k + 1,d=>by rw[Sort.heapBuild,VA hi first k,zY hi first hi _ _ (by omega)]
theorem aco {T:Nat} {cs:aj} (hs:ZE T cs) : zP T (Sort.heapSort lN) (fun _ a e=>a<e) fun args M Q=>∃ a0 a1 a2,args=[a0,a1,a2]∧ma cs a0 a1 a2 M Q:=by
 intro M b a e d Q hb hsz hae he hP hQ
 refine⟨_,_,_,rfl, ?_⟩
 unfold ma
 rw[Sort.heapSort] at hQ
 rw[dM hae (by omega),bu (by omega) (by omega),lc]
 refine⟨by decide, ?_⟩
 rw[show(2:Int)=((2:Nat) : Int) from rfl,show((e - a - 1:Nat) : Int).tdiv ((2:Nat) : Int)=(((e - a - 1) / 2:Nat) : Int) by rw[Int.tdiv_eq_ediv_of_nonneg (by omega)]; rfl,aW (by omega) (by omega)]
 obtain⟨R,hR⟩ : ∃ R,R=Sort.heapBuild lN (e - a) a ((e - a - 1) / 2 + 1) d:=⟨_,rfl⟩
 rw[← hR] at hQ
 refine aI (fun m ys M3=>∃ (k:Nat) (d3:Array Nat),m=k + 1∧ys=[N .i64 ((k:Int) - 1)]∧k≤(e - a - 1) / 2 + 1∧M3=PM M b T d3∧d3.size=d.size∧R=Sort.heapBuild lN (e - a) a k d3) _ ⟨(e - a - 1) / 2 + 1,d,rfl,by congr 3; omega,Nat.le_refl _,rfl,rfl,hR⟩ ?_
 rintro next m ys M3 hnext ⟨k,d3,rfl,rfl,hk,rfl,hs3,hm⟩
 dsimp only[aa]
 rw[iK]
 refine aG (fun hg=>?_) (fun hg=>?_)
 ·have hg:1≤k:=by
   have:(k:Int) - 1 ≥ 0:=of_decide_eq_true hg
   omega
  obtain⟨k',rfl⟩ : ∃ k',k=k' + 1:=⟨k - 1,by omega⟩
  rw[Sort.heapBuild] at hm
  rw[show((k' + 1:Nat) : Int) - 1=(k' : Int) by omega,← hs3]
  refine hs hb (by omega) (by omega) (by omega) ?_
  rw[ig,aW (by omega) (by omega)]
  exact hnext _ _ _ (by omega) ⟨k',_,rfl,rfl,by omega,rfl,by rw[zY _ _ (e - a) _ _ (by omega)]; exact hs3,hm⟩
 ·have hk0:k=0:=by
   have:¬ (k:Int) - 1 ≥ 0:=of_decide_eq_false hg
   omega
  subst hk0
  rw[Sort.heapBuild] at hm
  rw[hm] at hQ
  rw[bu (by omega) (by omega)]
  obtain⟨R4,hR4⟩ : ∃ R4,R4=Sort.heapPop lN a (e - a) d3:=⟨_,rfl⟩
  rw[← hR4] at hQ
  refine aI (fun m ys M4=>∃ (k:Nat) (d4:Array Nat),m=k + 1∧ys=[N .i64 ((k:Int) - 1)]∧k≤e - a∧M4=PM M b T d4∧d4.size=d.size∧R4=Sort.heapPop lN a k d4) _ ⟨e - a,d3,rfl,by congr 3; omega,Nat.le_refl _,rfl,hs3,hR4⟩ ?_
  rintro gT m ys M4 dH ⟨k,d4,rfl,rfl,hk,rfl,hs4,hm4⟩
  dsimp only[aa]
  rw[iK]
  refine aG (fun hg=>?_) (fun hg=>?_)
  ·have hg:1≤k:=by
    have:(k:Int) - 1 ≥ 0:=of_decide_eq_true hg
    omega
   obtain⟨k',rfl⟩ : ∃ k',k=k' + 1:=⟨k - 1,by omega⟩
   rw[Sort.heapPop] at hm4
   rw[show((k' + 1:Nat) : Int) - 1=(k' : Int) by omega,addN (by omega),addN (by omega),PM.rd hs4.symm (by omega),PM.rd hs4.symm (by omega),PM.swap hs4.symm (by omega) (by omega),show d.size=(Sort.swp d4 a (a + k')).size by rw[eO]; exact hs4.symm]
   refine hs (lo:=0) hb (by rw[eO]; omega) (by rw[eO]; omega) (by decide) ?_
   rw[ig,aW (by omega) (by omega)]
   exact dH _ _ _ (by omega) ⟨k',_,rfl,rfl,by omega,rfl,by rw[zY _ _ k' _ _ (by omega),eO]; exact hs4,hm4⟩
  ·have hk0:k=0:=by
    have:¬ (k:Int) - 1 ≥ 0:=of_decide_eq_false hg
    omega
   subst hk0
   rw[Sort.heapPop] at hm4
   rw[hm4] at hQ
   exact hQ
section
variable {body:(List AV→RM→Prop)→List AV→RM→Prop} {p:Nat→Bool} {d:Array Nat} {M:RM}
theorem OQ {J i0:Nat} (h:∀ (next:List AV→RM→Prop) (i:Nat),i0≤i→i≤max (J + 1) i0→((decide (i≤J) && p d[i]!)=true→next [N .i64 ((i + 1:Nat) : Int)] M)→((decide (i≤J) && p d[i]!)=false→i=Sort.scanUp p d J i0)→body next [N .i64 (i:Int)] M) :
  aN body [N .i64 (i0:Int)] M:=by
 obtain⟨R,hR⟩ : ∃ R,R=Sort.scanUp p d J i0:=⟨_,rfl⟩
 refine aI (fun m ys M3=>∃ (i:Nat),m=J + 1 - i∧ys=[N .i64 (i:Int)]∧i0≤i∧i≤max (J + 1) i0∧M3=M∧R=Sort.scanUp p d J i) _ ⟨i0,rfl,rfl,Nat.le_refl _,by omega,rfl,hR⟩ ?_
 rintro next m ys M3 hnext ⟨i,rfl,rfl,h0,hi,rfl,hm⟩
 rw[Sort.scanUp] at hm
 refine h next i h0 hi (fun hc=>?_) (fun hc=>?_)
 ·rw[if_pos hc] at hm
  have hij:i≤J:=by
   rw[Bool.and_eq_true] at hc
   exact of_decide_eq_true hc.1
  exact hnext _ _ _ (by omega) ⟨i + 1,rfl,rfl,by omega,by omega,rfl,hm⟩
 ·rw[if_neg (by rw[hc]; decide)] at hm
  rw[← hR]; exact hm.symm
theorem Hr {i j0:Nat} (h1:1≤i) (h:∀ (next:List AV→RM→Prop) (j:Nat),j≤j0→(j=j0∨i≤j + 1)→((decide (i≤j) && p d[j]!)=true→next [N .i64 ((j - 1:Nat) : Int)] M)→((decide (i≤j) && p d[j]!)=false→j=Sort.scanDown p d i j0)→body next [N .i64 (j:Int)] M) :
  aN body [N .i64 (j0:Int)] M:=by
 obtain⟨R,hR⟩ : ∃ R,R=Sort.scanDown p d i j0:=⟨_,rfl⟩
 refine aI (fun m ys M3=>∃ (j:Nat),m=j + 1∧ys=[N .i64 (j:Int)]∧j≤j0∧(j=j0∨i≤j + 1)∧M3=M∧R=Sort.scanDown p d i j) _ ⟨j0,rfl,rfl,Nat.le_refl _,.inl rfl,rfl,hR⟩ ?_
 rintro next m ys M3 hnext ⟨j,rfl,rfl,h0,hi,rfl,hm⟩
 refine h next j h0 hi (fun hc=>?_) (fun hc=>?_)
 ·have hij:i≤j:=by
   rw[Bool.and_eq_true] at hc
   exact of_decide_eq_true hc.1
  obtain⟨k,rfl⟩ : ∃ k,j=k + 1:=⟨j - 1,by omega⟩
  rw[Sort.scanDown,if_pos hc] at hm
  exact hnext _ _ _ (by omega) ⟨k,rfl,rfl,by omega,by omega,rfl,hm⟩
 ·rw[← hR]
  cases j with
  | zero=>exact hm.symm
  | succ k=>rw[Sort.scanDown,if_neg (by rw[hc]; decide)] at hm; exact hm.symm
end
theorem zU {d d' : Array Nat} {i j:Nat} (h:d'.size=d.size) : (Sort.swp d' i j).size=d.size:=by rw[eO,h]
def Qo (T:Nat) (c:aj) : Prop:=∀ {M:RM} {b a e pv:Nat} {d:Array Nat} {Q:ak},b<M.next→d.size≤1000000→a≤pv→pv<e→e≤d.size→Q (N .i64 (((Sort.partitionEqual lN d a e pv).1:Nat) : Int)) (PM M b T (Sort.partitionEqual lN d a e pv).2) →
 c [vv b d.size,N .i64 (a:Int),N .i64 (e:Int),N .i64 (pv:Int)] (PM M b T d) Q
theorem andM {c p:Bool} {f:ak→Prop} {M:RM} {G:AV→RM→Prop} (hf:c=true→∀ k:ak,k (Bo p) M→f k) (hG:G (Bo (c && p)) M) :
  ah (Bo c) true f (fun k=>k .undef M) (fun t M'=>aK (Bo c) t (Bo false) fun u=>G u M'):=by
 cases c with
 | false=>rw[bS]; dsimp only; rw[df]; exact hG
 | true=>rw[dx]; exact hf rfl _ (by rw[eT]; exact hG)
theorem Ty {c p:Bool} {f:KR→Prop} {M:RM} {G:AV→RM→Prop} (hf:c=true→∀ k:KR,k (Bo p) M none→f k) (hG:G (Bo (c && p)) M) :
  af (Bo c) true f (fun k=>k .undef M none) (fun t M' b=>aK (Bo c) t (Bo false) fun u=>G u M'):=by
 cases c with
 | false=>rw[pq]; dsimp only; rw[df]; exact hG
 | true=>rw[o8]; exact hf rfl _ (by rw[eT]; exact hG)
theorem Yr {T:Nat} {cl:aj} (hl:xZ cl) : Qo T fun args M Q=>∃ a0 a1 a2 a3,args=[a0,a1,a2,a3]∧jf cl a0 a1 a2 a3 M Q:=by
 intro M b a e pv d Q hb hsz hap hpe he hQ
 refine⟨_,_,_,_,rfl, ?_⟩
 unfold jf
 simp only[fB,dY,eP]
 rw[Sort.partitionEqual] at hQ
 rw[PM.rd rfl (by omega),PM.rd rfl (by omega),PM.swap rfl (by omega) (by omega),add1 (by omega),bu (by omega) (by omega)]
 obtain⟨R,hR⟩ : ∃ R,R=Sort.partEqLoop lN a (a + 1) (e - 1) (Sort.swp d a pv):=⟨_,rfl⟩
 rw[← hR] at hQ
 refine aI (fun m ys M3=>∃ (i j:Nat) (d3:Array Nat),m=j + 1 - i∧ys=[N .i64 (i:Int),N .i64 (j:Int)]∧a + 1≤i∧i≤e + 1∧j<e∧M3=PM M b T d3∧d3.size=d.size∧R=Sort.partEqLoop lN a i j d3) _ ⟨a + 1,e - 1,_,rfl,rfl,Nat.le_refl _,by omega,by omega,rfl,eO _ _ _,hR⟩ ?_
 rintro next m ys M3 hnext ⟨i,j,d3,rfl,rfl,hai,hie,hje,rfl,hs3,hm⟩
 dsimp only[aa]
 rw[Sort.partEqLoop] at hm
 refine OQ (p:=fun x=>!lN d3[a]! x) (d:=d3) (J:=j) fun gT i2 h0 h1 hgo hstop=>?_
 dsimp only[aa]
 rw[jR]
 refine Ty (p:=!lN d3[a]! d3[i2]!) (fun hc k hk=>?_) ?_
 ·have hc:i2≤j:=of_decide_eq_true hc
  rw[PM.rd hs3.symm (by omega),PM.rd hs3.symm (by omega)]
  refine hl ?_
  rw[bH]
  exact hk
 refine aG (fun h=>?_) (fun h=>?_)
 ·rw[add1 (by omega)]
  exact hgo h
 have hi2:=hstop h
 rw[← hi2] at hm
 refine Hr (p:=fun x=>lN d3[a]! x) (d:=d3) (i:=i2) (by omega) fun qp j2 q0 q1 qN kE=>?_
 dsimp only[aa]
 rw[jR]
 refine andM (p:=lN d3[a]! d3[j2]!) (fun hc k hk=>?_) ?_
 ·have hc:i2≤j2:=of_decide_eq_true hc
  rw[PM.rd hs3.symm (by omega),PM.rd hs3.symm (by omega)]
  exact hl hk
 refine aG (fun h=>?_) (fun h=>?_)
 ·have hc:i2≤j2:=by
   rw[Bool.and_eq_true] at h
   exact of_decide_eq_true h.1
  rw[bu (by omega) (by omega)]
  exact qN h
 have hj2:=kE h
 simp only[← hj2] at hm
 rw[pG]
 refine aG (fun hg=>?_) (fun hg=>?_)
 ·rw[if_pos (of_decide_eq_true hg)] at hm
  rw[hm] at hQ
  exact hQ
 ·have hg:¬ i2 > j2:=of_decide_eq_false hg
  rw[if_neg hg,dif_pos (by omega)] at hm
  rw[PM.rd hs3.symm (by omega),PM.rd hs3.symm (by omega),PM.swap hs3.symm (by omega) (by omega),add1 (by omega),bu (by omega) (by omega)]
  exact hnext _ _ _ (by omega) ⟨i2 + 1,j2 - 1,_,rfl,rfl,by omega,by omega,by omega,rfl,zU hs3,hm⟩
def aaN (T:Nat) (c:aj) : Prop:=∀ {M:RM} {b a e pv:Nat} {d:Array Nat} {Q:ak},b<M.next→d.size≤1000000→a≤pv→pv<e→e≤d.size→Q (.tup [N .i64 (((Sort.partition lN d a e pv).1:Nat) : Int),Bo (Sort.partition lN d a e pv).2.1]) (PM M b T (Sort.partition lN d a e pv).2.2) →
 c [vv b d.size,N .i64 (a:Int),N .i64 (e:Int),N .i64 (pv:Int)] (PM M b T d) Q
theorem IB (d:Array Nat) (a e pv:Nat) : Sort.partition lN d a e pv =
  if Sort.scanUp (fun x=>lN x (Sort.swp d a pv)[a]!) (Sort.swp d a pv) (e - 1) (a + 1) > Sort.scanDown (fun x=>!lN x (Sort.swp d a pv)[a]!) (Sort.swp d a pv) (Sort.scanUp (fun x=>lN x (Sort.swp d a pv)[a]!) (Sort.swp d a pv) (e - 1) (a + 1)) (e - 1) then
   (Sort.scanDown (fun x=>!lN x (Sort.swp d a pv)[a]!) (Sort.swp d a pv) (Sort.scanUp (fun x=>lN x (Sort.swp d a pv)[a]!) (Sort.swp d a pv) (e - 1) (a + 1)) (e - 1),true,Sort.swp (Sort.swp d a pv) (Sort.scanDown (fun x=>!lN x (Sort.swp d a pv)[a]!) (Sort.swp d a pv) (Sort.scanUp (fun x=>lN x (Sort.swp d a pv)[a]!) (Sort.swp d a pv) (e - 1) (a + 1)) (e - 1)) a)
  else((Sort.partLoop lN a (Sort.scanUp (fun x=>lN x (Sort.swp d a pv)[a]!) (Sort.swp d a pv) (e - 1) (a + 1) + 1) (Sort.scanDown (fun x=>!lN x (Sort.swp d a pv)[a]!) (Sort.swp d a pv) (Sort.scanUp (fun x=>lN x (Sort.swp d a pv)[a]!) (Sort.swp d a pv) (e - 1) (a + 1)) (e - 1) - 1) (Sort.swp (Sort.swp d a pv) (Sort.scanUp (fun x=>lN x (Sort.swp d a pv)[a]!) (Sort.swp d a pv) (e - 1) (a + 1)) (Sort.scanDown (fun x=>!lN x (Sort.swp d a pv)[a]!) (Sort.swp d a pv) (Sort.scanUp (fun x=>lN x (Sort.swp d a pv)[a]!) (Sort.swp d a pv) (e - 1) (a + 1)) (e - 1)))).1,false,
   Sort.swp (Sort.partLoop lN a (Sort.scanUp (fun x=>lN x (Sort.swp d a pv)[a]!) (Sort.swp d a pv) (e - 1) (a + 1) + 1) (Sort.scanDown (fun x=>!lN x (Sort.swp d a pv)[a]!) (Sort.swp d a pv) (Sort.scanUp (fun x=>lN x (Sort.swp d a pv)[a]!) (Sort.swp d a pv) (e - 1) (a + 1)) (e - 1) - 1) (Sort.swp (Sort.swp d a pv) (Sort.scanUp (fun x=>lN x (Sort.swp d a pv)[a]!) (Sort.swp d a pv) (e - 1) (a + 1)) (Sort.scanDown (fun x=>!lN x (Sort.swp d a pv)[a]!) (Sort.swp d a pv) (Sort.scanUp (fun x=>lN x (Sort.swp d a pv)[a]!) (Sort.swp d a pv) (e - 1) (a + 1)) (e - 1)))).2
    (Sort.partLoop lN a (Sort.scanUp (fun x=>lN x (Sort.swp d a pv)[a]!) (Sort.swp d a pv) (e - 1) (a + 1) + 1) (Sort.scanDown (fun x=>!lN x (Sort.swp d a pv)[a]!) (Sort.swp d a pv) (Sort.scanUp (fun x=>lN x (Sort.swp d a pv)[a]!) (Sort.swp d a pv) (e - 1) (a + 1)) (e - 1) - 1) (Sort.swp (Sort.swp d a pv) (Sort.scanUp (fun x=>lN x (Sort.swp d a pv)[a]!) (Sort.swp d a pv) (e - 1) (a + 1)) (Sort.scanDown (fun x=>!lN x (Sort.swp d a pv)[a]!) (Sort.swp d a pv) (Sort.scanUp (fun x=>lN x (Sort.swp d a pv)[a]!) (Sort.swp d a pv) (e - 1) (a + 1)) (e - 1)))).1 a):=rfl
theorem adg {T:Nat} {cl:aj} (hl:xZ cl) : aaN T fun args M Q=>∃ a0 a1 a2 a3,args=[a0,a1,a2,a3]∧lI cl a0 a1 a2 a3 M Q:=by
 intro M b a e pv d Q hb hsz hap hpe he hQ
 refine⟨_,_,_,_,rfl, ?_⟩
 unfold lI
 simp only[fB,dY,eP]
 have hs2:=eO d a pv
 rw[IB] at hQ
 rw[PM.rd rfl (by omega),PM.rd rfl (by omega),PM.swap rfl (by omega) (by omega),add1 (by omega),bu (by omega) (by omega)]
 generalize Sort.swp d a pv=d2 at *
 refine OQ (p:=fun x=>lN x d2[a]!) (d:=d2) (J:=e - 1) fun gT i h0 h1 hgo hstop=>?_
 dsimp only[aa]
 rw[jR]
 refine andM (p:=lN d2[i]! d2[a]!) (fun hc k hk=>?_) ?_
 ·have hc:i≤e - 1:=of_decide_eq_true hc
  rw[PM.rd hs2.symm (by omega),PM.rd hs2.symm (by omega)]
  exact hl hk
 refine aG (fun h=>?_) (fun h=>?_)
 ·rw[add1 (by omega)]
  exact hgo h
 have hi2:=hstop h
 simp only[← hi2] at hQ
 refine Hr (p:=fun x=>!lN x d2[a]!) (d:=d2) (i:=i) (by omega) fun qp j q0 q1 qN kE=>?_
 dsimp only[aa]
 rw[jR]
 refine Ty (p:=!lN d2[j]! d2[a]!) (fun hc k hk=>?_) ?_
 ·have hc:i≤j:=of_decide_eq_true hc
  rw[PM.rd hs2.symm (by omega),PM.rd hs2.symm (by omega)]
  refine hl ?_
  rw[bH]
  exact hk
 refine aG (fun h=>?_) (fun h=>?_)
 ·have hc:i≤j:=by
   rw[Bool.and_eq_true] at h
   exact of_decide_eq_true h.1
  rw[bu (by omega) (by omega)]
  exact qN h
 have hj2:=kE h
 simp only[← hj2] at hQ
 rw[pG]
 refine aG (fun hg=>?_) (fun hg=>?_)
 ·rw[if_pos (of_decide_eq_true hg)] at hQ
  rw[PM.rd hs2.symm (by omega),PM.rd hs2.symm (by omega),PM.swap hs2.symm (by omega) (by omega)]
  exact hQ
 have hg:¬ i > j:=of_decide_eq_false hg
 rw[if_neg hg] at hQ
 rw[PM.rd hs2.symm (by omega),PM.rd hs2.symm (by omega),PM.swap hs2.symm (by omega) (by omega),add1 (by omega),bu (by omega) (by omega)]
 obtain⟨R,hR⟩ : ∃ R,R=Sort.partLoop lN a (i + 1) (j - 1) (Sort.swp d2 i j):=⟨_,rfl⟩
 simp only[← hR] at hQ
 refine aI (fun m ys M3=>∃ (i j:Nat) (d3:Array Nat),m=j + 1 - i∧ys=[N .i64 (i:Int),N .i64 (j:Int)]∧a + 1≤i∧i≤e + 1∧j<e∧M3=PM M b T d3∧d3.size=d.size∧R=Sort.partLoop lN a i j d3) _ ⟨i + 1,j - 1,_,rfl,rfl,by omega,by omega,by omega,rfl,zU hs2,hR⟩ ?_
 rintro next m ys M3 hnext ⟨i,j,d3,rfl,rfl,hai,hie,hje,rfl,hs3,hm⟩
 dsimp only[aa]
 rw[Sort.partLoop] at hm
 refine OQ (p:=fun x=>lN x d3[a]!) (d:=d3) (J:=j) fun gT i2 h0 h1 hgo hstop=>?_
 dsimp only[aa]
 rw[jR]
 refine andM (p:=lN d3[i2]! d3[a]!) (fun hc k hk=>?_) ?_
 ·have hc:i2≤j:=of_decide_eq_true hc
  rw[PM.rd hs3.symm (by omega),PM.rd hs3.symm (by omega)]
  exact hl hk
 refine aG (fun h=>?_) (fun h=>?_)
 ·rw[add1 (by omega)]
  exact hgo h
 have hi2:=hstop h
 rw[← hi2] at hm
 refine Hr (p:=fun x=>!lN x d3[a]!) (d:=d3) (i:=i2) (by omega) fun qp j2 q0 q1 qN kE=>?_
 dsimp only[aa]
 rw[jR]
 refine Ty (p:=!lN d3[j2]! d3[a]!) (fun hc k hk=>?_) ?_
 ·have hc:i2≤j2:=of_decide_eq_true hc
  rw[PM.rd hs3.symm (by omega),PM.rd hs3.symm (by omega)]
  refine hl ?_
  rw[bH]
  exact hk
 refine aG (fun h=>?_) (fun h=>?_)
 ·have hc:i2≤j2:=by
   rw[Bool.and_eq_true] at h
   exact of_decide_eq_true h.1
  rw[bu (by omega) (by omega)]
  exact qN h
 have hj2:=kE h
 simp only[← hj2] at hm
 rw[pG]
 refine aG (fun hg=>?_) (fun hg=>?_)
 ·rw[if_pos (of_decide_eq_true hg)] at hm
  rw[hm] at hQ
  rw[PM.rd hs3.symm (by omega),PM.rd hs3.symm (by omega),PM.swap hs3.symm (by omega) (by omega)]
  exact hQ
 ·have hg:¬ i2 > j2:=of_decide_eq_false hg
  rw[if_neg hg,dif_pos (by omega)] at hm
  rw[PM.rd hs3.symm (by omega),PM.rd hs3.symm (by omega),PM.swap hs3.symm (by omega) (by omega),add1 (by omega),bu (by omega) (by omega)]
  exact hnext _ _ _ (by omega) ⟨i2 + 1,j2 - 1,_,rfl,rfl,by omega,by omega,by omega,rfl,zU hs3,hm⟩
def Up (xs:List Nat) : Prop:=∀ i j (hi:i<xs.length) (hj:j<xs.length),i≤j→xs[i]≤xs[j]
theorem Asc.up {xs:List Nat} (h:Asc xs) : Up xs:=fun i j hi hj hij=>by
 rcases Nat.lt_or_ge i j with h1 | h1
 ·exact Nat.le_of_lt (h.lt h1 hj)
 ·have:i=j:=by omega
  subst this; exact Nat.le_refl _
theorem Own.u64 {M:RM} {base T:Nat} {v:AV} {xs:List Nat} (h:Ow aX M base T v xs) : Sl aX M v xs:=h.jq
theorem oU (a b:Nat) : (a:Int).tdiv (b:Int)=((a / b:Nat) : Int):=by
 rw[Int.tdiv_eq_ediv_of_nonneg (by omega)]; rfl
end Go.Ab.aD
