/- Part 4 of the ground of the proofs of this seat (texts R10 to Q1). By an AI agent. -/
import Derived.Test.YtlhlnchhaminjaaGreatJoi3
import Derived.ChangeShapes
import Derived.OpenShut
import Derived.WideKeyArgs
import GoSem.ClaimJoined
import Derived.Sort.AssemblyPlain
set_option linter.unusedVariables false
set_option linter.unusedSimpArgs false
namespace Go.Ab
open Go Go.RowKit
def RM.cell (M:RM) (b o:Nat) : Option AV:=(M.cells b).bind (·[o]?)
section
variable {M M' : RM} {K:AV→Prop} {KQ:ai}
theorem IC {b o:Nat} {v:AV} : M.loads b o 1=some [v]↔M.cell b o=some v:=by
 unfold RM.loads RM.cell
 cases hc:M.cells b with
 | none=>simp
 | some l =>
   simp only [Option.bind_some]
   constructor
   ·intro h
    split at h
    ·rename_i hlt
     have h1:=Option.some.inj h
     have:((l.drop o).take 1)[0]?=some v:=by rw [h1]; rfl
     rw [List.getElem?_take,if_pos (by omega),List.getElem?_drop] at this
     simpa using this
    ·cases h
   ·intro h
    have hlt:=(List.getElem?_eq_some_iff.1 h).1
    rw [if_pos (by omega)]
    congr 1
    rw [List.drop_eq_getElem_cons hlt]
    simp only [List.take_succ_cons,List.take_zero]
    congr 1
    exact (List.getElem?_eq_some_iff.1 h).2
@[go_sem] theorem fu (b o:Nat) : aj M (.ptr b o) K=∃ v,M.cell b o=some v∧K v:=by
 apply propext; unfold aj
 constructor
 ·rintro ⟨b',o',v,h,hl,hk⟩; cases h; exact ⟨v,IC.1 hl,hk⟩
 ·rintro ⟨v,hl,hk⟩; exact ⟨b,o,v,rfl,IC.2 hl,hk⟩
@[go_sem] theorem eQ (b o n:Nat) : aH M (.ptr b o) n K=∃ vs,M.loads b o n=some vs∧K (.agg vs):=by
 apply propext; unfold aH
 constructor
 ·rintro ⟨b',o',v,h,hl,hk⟩; cases h; exact ⟨v,hl,hk⟩
 ·rintro ⟨v,hl,hk⟩; exact ⟨b,o,v,rfl,hl,hk⟩
@[go_sem] theorem vR (b p:Nat) (x:AV) (n:Nat) (K:RM→Prop) : aN M (.ptr b p) x n K=(x.cells.length=n∧∃ M',M.stores b p x.cells=some M'∧K M'):=by
 apply propext; unfold aN
 constructor
 ·rintro ⟨b',o',M',h,h1,h2,hk⟩; cases h; exact ⟨h1,M',h2,hk⟩
 ·rintro ⟨h1,M',h2,hk⟩; exact ⟨b,p,M',rfl,h1,h2,hk⟩
def PG (k:IntKind) (a b:Int) : Int:=k.wrap (BitVec.ofInt k.bits a &&& BitVec.ofInt k.bits b).toNat
def Yd (k:IntKind) (a b:Int) : Int:=k.wrap (BitVec.ofInt k.bits a ||| BitVec.ofInt k.bits b).toNat
def SK (k:IntKind) (a b:Int) : Int:=k.wrap (BitVec.ofInt k.bits a ^^^ BitVec.ofInt k.bits b).toNat
def Yz (k:IntKind) (a b:Int) : Int:=k.wrap (BitVec.ofInt k.bits a &&& ~~~BitVec.ofInt k.bits b).toNat
def TK (k:IntKind) (a b:Int) : Int:=k.wrap (a * 2 ^ (min b.toNat k.bits))
def Jt (k:IntKind) (a b:Int) : Int:=a.fdiv (2 ^ (min b.toNat k.bits))
section
variable (k:IntKind) (a b:Int)
theorem iI {op:BinOp} {v:Value} (h:xk op k a b=some v) : af op (N k a) (N k b) K=K (.sc v):=by
 apply propext; unfold af
 constructor
 ·rintro ⟨k',a',b',u,h1,h2,h3,hk⟩; cases h1; cases h2; rw [h] at h3; cases h3; exact hk
 ·intro hk; exact ⟨k,a,b,v,rfl,rfl,h,hk⟩
@[go_sem] theorem bH:af .add (N k a) (N k b) K=K (N k (k.wrap (a + b))):=iI k a b rfl
@[go_sem] theorem gT:af .sub (N k a) (N k b) K=K (N k (k.wrap (a - b))):=iI k a b rfl
@[go_sem] theorem xA:af .mul (N k a) (N k b) K=K (N k (k.wrap (a * b))):=iI k a b rfl
@[go_sem] theorem Bj:af .and (N k a) (N k b) K=K (N k (PG k a b)):=iI k a b rfl
@[go_sem] theorem acO:af .or (N k a) (N k b) K=K (N k (Yd k a b)):=iI k a b rfl
@[go_sem] theorem tV:af .xor (N k a) (N k b) K=K (N k (SK k a b)):=iI k a b rfl
@[go_sem] theorem aaE:af .andNot (N k a) (N k b) K=K (N k (Yz k a b)):=iI k a b rfl
@[go_sem] theorem di:af .eql (N k a) (N k b) K=K (Bo (a == b)):=iI k a b rfl
@[go_sem] theorem gD:af .neq (N k a) (N k b) K=K (Bo (a != b)):=iI k a b rfl
@[go_sem] theorem bL:af .lss (N k a) (N k b) K=K (Bo (decide (a<b))):=iI k a b rfl
@[go_sem] theorem lW:af .leq (N k a) (N k b) K=K (Bo (decide (a≤b))):=iI k a b rfl
@[go_sem] theorem iC:af .gtr (N k a) (N k b) K=K (Bo (decide (a > b))):=iI k a b rfl
@[go_sem] theorem jw:af .geq (N k a) (N k b) K=K (Bo (decide (a ≥ b))):=iI k a b rfl
@[go_sem] theorem nz:af .quo (N k a) (N k b) K=(b≠0∧K (N k (k.wrap (a.tdiv b)))):=by
 apply propext; unfold af xk
 constructor
 ·rintro ⟨k',a',b',u,h1,h2,h3,hk⟩; cases h1; cases h2
  simp only at h3
  split at h3
  ·cases h3
  ·cases h3; exact ⟨‹_›,hk⟩
 ·rintro ⟨h0,hk⟩; exact ⟨k,a,b,_,rfl,rfl,by simp only [if_neg h0],hk⟩
@[go_sem] theorem OU:af .rem (N k a) (N k b) K=(b≠0∧K (N k (a.tmod b))):=by
 apply propext; unfold af xk
 constructor
 ·rintro ⟨k',a',b',u,h1,h2,h3,hk⟩; cases h1; cases h2
  simp only at h3
  split at h3
  ·cases h3
  ·cases h3; exact ⟨‹_›,hk⟩
 ·rintro ⟨h0,hk⟩; exact ⟨k,a,b,_,rfl,rfl,by simp only [if_neg h0],hk⟩
variable (l:IntKind)
@[go_sem] theorem zo:vE .shl (N k a) (N l b) K=(0≤b∧K (N k (TK k a b))):=by
 apply propext; unfold vE Jc
 constructor
 ·rintro ⟨k',a',l',b',u,h1,h2,h3,hk⟩; cases h1; cases h2
  split at h3
  ·cases h3
  ·cases h3; exact ⟨by omega,hk⟩
 ·rintro ⟨h0,hk⟩; exact ⟨k,a,l,b,_,rfl,rfl,by rw [if_neg (by omega)]; rfl,hk⟩
@[go_sem] theorem wm:vE .shr (N k a) (N l b) K=(0≤b∧K (N k (Jt k a b))):=by
 apply propext; unfold vE Jc
 constructor
 ·rintro ⟨k',a',l',b',u,h1,h2,h3,hk⟩; cases h1; cases h2
  split at h3
  ·cases h3
  ·cases h3; exact ⟨by omega,hk⟩
 ·rintro ⟨h0,hk⟩; exact ⟨k,a,l,b,_,rfl,rfl,by rw [if_neg (by omega)]; rfl,hk⟩
@[go_sem] theorem acL {l:IntKind} {a:Int} {K:AV→Prop} : Uf (N l a) K=K (St (Utf8.encode a).data.toList):=by
 apply propext; unfold Uf
 constructor
 ·rintro ⟨l',n,h,hk⟩; cases h; exact hk
 ·intro h; exact ⟨_,_,rfl,h⟩
@[go_sem] theorem eX:gp k (N l a) K=K (N k (k.wrap a)):=by
 apply propext; unfold gp
 constructor
 ·rintro ⟨l',n,h,hk⟩; cases h; exact hk
 ·intro hk; exact ⟨l,a,rfl,hk⟩
@[go_sem] theorem Vs (mx:Bool) : JU mx (N k a) (N k b) K=K (N k (if mx then (if b > a then b else a) else (if b<a then b else a))):=by
 apply propext; unfold JU
 constructor
 ·rintro ⟨k',a',b',h1,h2,hk⟩; cases h1; cases h2; exact hk
 ·intro hk; exact ⟨k,a,b,rfl,rfl,hk⟩
@[go_sem] theorem acU:XO (N k a) K=K (N k (k.wrap (0 - a))):=by
 apply propext; unfold XO
 constructor
 ·rintro ⟨k',a',h1,hk⟩; cases h1; exact hk
 ·intro hk; exact ⟨k,a,rfl,hk⟩
end
@[go_sem] theorem bO (b:Bool) : dU (Bo b) K=K (Bo (!b)):=by
 apply propext; unfold dU
 constructor
 ·rintro ⟨b',h,hk⟩; cases h; exact hk
 ·intro hk; exact ⟨b,rfl,hk⟩
@[go_sem] theorem aa2 (neg a b:Bool) : zM neg (Bo a) (Bo b) K=K (Bo ((a == b) != neg)):=by
 apply propext; unfold zM
 constructor
 ·rintro ⟨a',b',h,h',hk⟩; cases h; cases h'; exact hk
 ·intro hk; exact ⟨a,b,rfl,rfl,hk⟩
@[go_sem] theorem PH (t:Bool) (a b:AV) : aP (Bo t) a b K=K (if t then a else b):=by
 apply propext; unfold aP
 constructor
 ·rintro ⟨t',h,hk⟩; cases h; exact hk
 ·intro hk; exact ⟨t,rfl,hk⟩
@[go_sem] theorem MV (b:Bool) (p q:Prop) : aA (Bo b) p q=((b=true→p)∧(b=false→q)):=rfl
@[go_sem] theorem aby {α:Type} (b want:Bool) (f g:α→Prop) (k:α) : lH (Bo b) want f g k=if b=want then f k else g k:=rfl
@[go_sem] theorem aac {α:Type} (want:Bool) (f g:α→Prop) (k:α) : lH .undef want f g k=g k:=rfl
@[go_sem] theorem aK (b o:Nat) : bG (.ptr b o) K=K (.ptr b o):=by
 apply propext; unfold bG
 constructor
 ·rintro ⟨b',o',h,hk⟩; cases h; exact hk
 ·intro hk; exact ⟨b,o,rfl,hk⟩
@[go_sem] theorem aG (b o n:Nat) : aD (.ptr b o) n K=K (.ptr b (o + n)):=by
 apply propext; unfold aD
 constructor
 ·rintro ⟨b',o',h,hk⟩; cases h; exact hk
 ·intro hk; exact ⟨b,o,rfl,hk⟩
@[go_sem] theorem lQ (b p len:Nat) (cap:Cap) (k:IntKind) (n:Int) (size:Nat) : ax (.slc b p len cap) (N k n) size K=(0≤n∧n<len∧K (.ptr b (p + n.toNat * size))):=by
 apply propext; unfold ax
 constructor
 ·rintro ⟨b',p',l',c',k',n',h,h',h0,h1,hk⟩; cases h; cases h'; exact ⟨h0,h1,hk⟩
 ·rintro ⟨h0,h1,hk⟩; exact ⟨b,p,len,cap,k,n,rfl,rfl,h0,h1,hk⟩
@[go_sem] theorem gW (b p:Nat) (k:IntKind) (n:Int) (len size:Nat) : mJ (.ptr b p) (N k n) len size K=(0≤n∧n<len∧K (.ptr b (p + n.toNat * size))):=by
 apply propext; unfold mJ
 constructor
 ·rintro ⟨b',p',k',n',h,h',h0,h1,hk⟩; cases h; cases h'; exact ⟨h0,h1,hk⟩
 ·rintro ⟨h0,h1,hk⟩; exact ⟨b,p,k,n,rfl,rfl,h0,h1,hk⟩
@[go_sem] theorem abb (cs:List AV) (off:Nat) : RZ (.agg cs) off K=∃ v,cs[off]?=some v∧K v:=by
 apply propext; unfold RZ
 constructor
 ·rintro ⟨cs',v,h,h1,hk⟩; cases h; exact ⟨v,h1,hk⟩
 ·rintro ⟨v,h1,hk⟩; exact ⟨cs,v,rfl,h1,hk⟩
@[go_sem] theorem abp (cs:List AV) (off n:Nat) : RF (.agg cs) off n K=(off + n≤cs.length∧K (.agg ((cs.drop off).take n))):=by
 apply propext; unfold RF
 constructor
 ·rintro ⟨cs',h,h1,hk⟩; cases h; exact ⟨h1,hk⟩
 ·rintro ⟨h1,hk⟩; exact ⟨cs,rfl,h1,hk⟩
@[go_sem] theorem abr (cs:List AV) (k:IntKind) (n:Int) (len:Nat) : Sa (.agg cs) (N k n) len K=(0≤n∧n<len∧∃ v,cs[n.toNat]?=some v∧K v):=by
 apply propext; unfold Sa
 constructor
 ·rintro ⟨cs',k',n',v,h,h',h0,h1,h2,hk⟩; cases h; cases h'; exact ⟨h0,h1,v,h2,hk⟩
 ·rintro ⟨h0,h1,v,h2,hk⟩; exact ⟨cs,k,n,v,rfl,rfl,h0,h1,h2,hk⟩
@[go_sem] theorem LY (cs:List AV) (k:IntKind) (n:Int) (len size:Nat) : Iq (.agg cs) (N k n) len size K=(0≤n∧n<len∧n.toNat * size + size≤cs.length∧K (.agg ((cs.drop (n.toNat * size)).take size))):=by
 apply propext; unfold Iq
 constructor
 ·rintro ⟨cs',k',n',h,h',h0,h1,h2,hk⟩; cases h; cases h'; exact ⟨h0,h1,h2,hk⟩
 ·rintro ⟨h0,h1,h2,hk⟩; exact ⟨cs,k,n,rfl,rfl,h0,h1,h2,hk⟩
@[go_sem] theorem Y4 (s:List UInt8) (k:IntKind) (n:Int) : NN (St s) (N k n) K=(0≤n∧∃ b,s[n.toNat]?=some b∧K (N .u8 b.toNat)):=by
 apply propext; unfold NN
 constructor
 ·rintro ⟨s',k',n',b,h,h',h0,h1,hk⟩; cases h; cases h'; exact ⟨h0,b,h1,hk⟩
 ·rintro ⟨h0,b,h1,hk⟩; exact ⟨s,k,n,b,rfl,rfl,h0,h1,hk⟩
@[go_sem] theorem OM (vs:List AV) (i:Nat) : gU (.tup vs) i K=∃ v,vs[i]?=some v∧K v:=by
 apply propext; unfold gU
 constructor
 ·rintro ⟨cs',v,h,h1,hk⟩; cases h; exact ⟨v,h1,hk⟩
 ·rintro ⟨v,h1,hk⟩; exact ⟨vs,v,rfl,h1,hk⟩
@[go_sem] theorem dD (v:AV) : eZ (some v) K=K v:=by
 apply propext; unfold eZ
 constructor
 ·rintro ⟨v',h,hk⟩; cases h; exact hk
 ·intro hk; exact ⟨v,rfl,hk⟩
@[go_sem] theorem lV (b o n:Nat) (c:Cap) : bu (.slc b o n c) K=K (N .i64 n):=by
 apply propext; unfold bu
 constructor
 ·rintro ⟨n',h,hk⟩; cases h; exact hk
 ·intro hk; exact ⟨n,rfl,hk⟩
@[go_sem] theorem Wy (b:Nat) : bu (.emp b) K=K (N .i64 0):=by
 apply propext; unfold bu
 constructor
 ·rintro ⟨n',h,hk⟩; cases h; exact hk
 ·intro hk; exact ⟨0,rfl,hk⟩
@[go_sem] theorem FY:bu (.sc (.slice none 0 0)) K=K (N .i64 0):=by
 apply propext; unfold bu
 constructor
 ·rintro ⟨n',h,hk⟩; cases h; exact hk
 ·intro hk; exact ⟨0,rfl,hk⟩
@[go_sem] theorem kw (s:List UInt8) : mK (St s) K=K (N .i64 s.length):=by
 apply propext; unfold mK
 constructor
 ·rintro ⟨s',h,hk⟩; cases h; exact hk
 ·intro hk; exact ⟨s,rfl,hk⟩
@[go_sem] theorem Zd (b o n c:Nat) : yR (.slc b o n (.ex c)) K=K (N .i64 c):=by
 apply propext; unfold yR
 constructor
 ·rintro ⟨n',h,hk⟩; cases h; exact hk
 ·intro hk; exact ⟨c,rfl,hk⟩
@[go_sem] theorem ace:yR (.sc (.slice none 0 0)) K=K (N .i64 0):=by
 apply propext; unfold yR
 constructor
 ·rintro ⟨n',h,hk⟩; cases h; exact hk
 ·intro hk; exact ⟨0,rfl,hk⟩
@[go_sem] theorem abX (s:List UInt8) : isStr (St s) K=K (St s):=by
 apply propext; unfold isStr
 constructor
 ·rintro ⟨s',h,hk⟩; cases h; exact hk
 ·intro hk; exact ⟨s,rfl,hk⟩
@[go_sem] theorem Qt {x:AV} {s:List UInt8} (h:Ay M x=some s) : iJ M x K=K (St s):=by
 apply propext; unfold iJ
 constructor
 ·rintro ⟨s',h',hk⟩; rw [h] at h'; cases h'; exact hk
 ·intro hk; exact ⟨s,h,hk⟩
theorem qL {op:BinOp} {a b:List UInt8} {v:AV} (h:Am op a b=some v) : gQ op (St a) (St b) K=K v:=by
 apply propext; unfold gQ
 constructor
 ·rintro ⟨a',b',u,h1,h2,h3,hk⟩; cases h1; cases h2; rw [h] at h3; cases h3; exact hk
 ·intro hk; exact ⟨a,b,v,rfl,rfl,h,hk⟩
@[go_sem] theorem qG (a b:List UInt8) : gQ .eql (St a) (St b) K=K (Bo (a == b)):=by rw [← l6]; exact qL rfl
@[go_sem] theorem kK (a b:List UInt8) : gQ .neq (St a) (St b) K=K (Bo (a != b)):=by rw [bne,← l6]; exact qL rfl
@[go_sem] theorem G5 (a b:List UInt8) : gQ .lss (St a) (St b) K=K (Bo (Op.bytesLess a b)):=qL rfl
@[go_sem] theorem abE (a b:List UInt8) : gQ .leq (St a) (St b) K=K (Bo (Op.bytesLess a b || a == b)):=by rw [← l6]; exact qL rfl
@[go_sem] theorem Wv (a b:List UInt8) : gQ .gtr (St a) (St b) K=K (Bo (!(Op.bytesLess a b || a == b))):=by rw [← l6]; exact qL rfl
@[go_sem] theorem abY (a b:List UInt8) : gQ .geq (St a) (St b) K=K (Bo (!Op.bytesLess a b)):=qL rfl
@[go_sem] theorem abA (a b:List UInt8) : gQ .add (St a) (St b) K=(a.length + b.length≤9223372036854775807∧K (St (a++b))):=by
 apply propext; unfold gQ
 constructor
 ·rintro ⟨a',b',u,h1,h2,h3,hk⟩; cases h1; cases h2
  simp only [Am] at h3
  split at h3
  ·rename_i hb; cases h3; exact ⟨bE hb,hk⟩
  ·cases h3
 ·rintro ⟨h0,hk⟩; exact ⟨a,b,_,rfl,rfl,by simp only [Am,bB.2 h0],hk⟩
theorem lZ {neg:Bool} {tag:Nat} {x y:AV} {r:Bool} (ht:MG x=tag) (h:EI x y=some r) : jD neg tag x y K=K (Bo (r != neg)):=by
 apply propext; unfold jD
 constructor
 ·rintro ⟨_,r',h',hk⟩; rw [h] at h'; cases h'; exact hk
 ·intro hk; exact ⟨ht,r,h,hk⟩
@[go_sem] theorem JX (neg:Bool) : jD neg 2 (.sc (.slice none 0 0)) (.sc (.slice none 0 0)) K=K (Bo (!neg)):=(lZ (tag:=2) (r:=true) rfl rfl).trans (by cases neg <;> rfl)
@[go_sem] theorem K4 (neg:Bool) (b:Nat) : jD neg 2 (.emp b) (.sc (.slice none 0 0)) K=K (Bo neg):=(lZ (tag:=2) (r:=false) rfl rfl).trans (by cases neg <;> rfl)
@[go_sem] theorem Jy (neg:Bool) (b o n:Nat) (c:Cap) : jD neg 2 (.slc b o n c) (.sc (.slice none 0 0)) K=K (Bo neg):=(lZ (tag:=2) (r:=false) rfl rfl).trans (by cases neg <;> rfl)
@[go_sem] theorem YN (neg:Bool) (b o:Nat) : jD neg 1 (.ptr b o) (.sc (.pointer none)) K=K (Bo neg):=(lZ (tag:=1) (r:=false) rfl rfl).trans (by cases neg <;> rfl)
@[go_sem] theorem Yc (neg:Bool) : jD neg 1 (.sc (.pointer none)) (.sc (.pointer none)) K=K (Bo (!neg)):=(lZ (tag:=1) (r:=true) rfl rfl).trans (by cases neg <;> rfl)
@[go_sem] theorem YX (neg:Bool) (b:Nat) : jD neg 3 (.map b) (.sc (.map none)) K=K (Bo neg):=(lZ (tag:=3) (r:=false) rfl rfl).trans (by cases neg <;> rfl)
@[go_sem] theorem Zj (neg:Bool) (f:Fn) (xs ys:List AV) : jD neg 4 (.fn f xs ys) (.sc .nilFunc) K=K (Bo neg):=(lZ (tag:=4) (r:=false) rfl rfl).trans (by cases neg <;> rfl)
@[go_sem] theorem Uc (neg:Bool) (ks:List Nat) (cs ds:List AV) : kV neg ks (.agg cs) (.agg ds) K=(cs.length=ks.length∧ds.length=ks.length∧∃ r,ek ks cs ds=some r∧K (Bo (r != neg))):=by
 apply propext; unfold kV
 constructor
 ·rintro ⟨a',b',r,h1,h2,h3,h4,h5,hk⟩; cases h1; cases h2; exact ⟨h3,h4,r,h5,hk⟩
 ·rintro ⟨h3,h4,r,h5,hk⟩; exact ⟨cs,ds,r,rfl,rfl,h3,h4,h5,hk⟩
@[go_sem] theorem acE (C:FuncId→av) (g:FuncId) (first cap args:List AV) : dZ C (.fn (.func g) first cap) args M KQ=C g (first++args++cap) M KQ:=by
 apply propext; unfold dZ
 constructor
 ·rintro ⟨g',f',c',h,hk⟩; cases h; exact hk
 ·intro hk; exact ⟨g,first,cap,rfl,hk⟩
@[go_sem] theorem mW (cs:List AV) (parts:List (Nat × Nat × AV)) : mG cs parts K=∃ cs',qh cs parts=some cs'∧K (.agg cs'):=rfl
@[go_sem] theorem aX (x:RB) (mk:Nat→AV) : bY x mk M KQ=KQ (mk M.next) (M.push x):=rfl
@[go_sem] theorem iV (x:RB) (mk:Nat→AV) (k:KR) : jZ x mk M k=k (mk M.next) (M.push x) (some M.next):=rfl
@[go_sem] theorem uh (f:(List AV→RM→Prop)→Prop) (g:List AV→RM→Prop) : dE f g=f g:=rfl
@[go_sem] theorem abf (x:AV) (xs:List AV) : aa (x :: xs) 0=x:=rfl
@[go_sem] theorem abq (x:AV) (xs:List AV) (n:Nat) : aa (x :: xs) (n + 1)=aa xs n:=rfl
@[go_sem] theorem Tp (b:Nat) (x:RB) (mk:Nat→AV) (v:AV) : uA (some b) M x mk v=(M.heap b=some x∧mk b=v):=rfl
end
theorem UI {body:(List AV→RM→Prop)→List AV→RM→Prop} {xs:List AV} {M:RM} (I:Nat→List AV→RM→Prop) (n:Nat) (h0:I n xs M)
  (hb:∀ m ys M',I m ys M'→body (fun zs M''=>∃ m',m'<m∧I m' zs M'') ys M') : aU body xs M:=⟨I,n,h0,hb⟩
section
variable {M M' : RM}
theorem RM.x9 {b:Nat} {l:List AV} {opn:Bool} {el fz:Nat} (h:M.heap b=some (.row l opn el fz)) : M.cells b=some l:=by simp [RM.cells,h]
theorem RM.WM {b o:Nat} {l:List AV} {opn:Bool} {el fz:Nat} (h:M.heap b=some (.row l opn el fz)) : M.cell b o=l[o]?:=by simp [RM.cell,RM.x9 h]
theorem RM.dh {b o k:Nat} {l:List AV} {opn:Bool} {el fz:Nat} (h:M.heap b=some (.row l opn el fz)) (hk:o + k≤l.length) : M.loads b o k=some ((l.drop o).take k):=by
 simp [RM.loads,RM.x9 h,hk]
theorem RM.Ae {b o:Nat} {l vs:List AV} {opn:Bool} {el fz:Nat} (h:M.heap b=some (.row l opn el fz)) (h1:o + vs.length≤l.length) (h2:fz≤o) (h3:vs.all oneCell=true) :
  M.stores b o vs=some (M.put b (.row (l.take o++vs++l.drop (o + vs.length)) opn el fz)):=by
 simp only [RM.stores,h]
 rw [if_pos ⟨h1,h2,h3⟩]
structure ah (bs:List Nat) (M M' : RM) : Prop where
 base:M'.base=M.base
 next:M.next≤M'.next
 heap:∀ c,c<M.next→c ∉ bs→M'.heap c=M.heap c
theorem ah.refl (bs:List Nat) (M:RM) : ah bs M M:=⟨rfl,Nat.le_refl _,fun _ _ _=>rfl⟩
theorem ah.trans {bs:List Nat} {M1 M2:RM} (h:ah bs M M1) (k:ah bs M1 M2) : ah bs M M2 :=
 ⟨k.base.trans h.base,Nat.le_trans h.next k.next,fun c hc hb=>(k.heap c (Nat.lt_of_lt_of_le hc h.next) hb).trans (h.heap c hc hb)⟩
theorem ah.push {bs:List Nat} (h:ah bs M M') (x:RB) : ah bs M (M'.push x) :=
 ⟨h.base,Nat.le_succ_of_le h.next,fun c hc hb=>by
  have:=h.next
  simp only [RM.push]; rw [if_neg (by omega)]; exact h.heap c hc hb⟩
theorem ah.put {bs:List Nat} (h:ah bs M M') {b:Nat} (x:RB) (hb:M.next≤b∨b∈bs) : ah bs M (M'.put b x) :=
 ⟨h.base,h.next,fun c hc hcb=>by
  simp only [RM.put]; rw [if_neg]
  ·exact h.heap c hc hcb
  ·rintro rfl; rcases hb with hb | hb
   ·omega
   ·exact hcb hb⟩
theorem ah.del {bs:List Nat} (h:ah bs M M') {b:Nat} (hb:M.next≤b∨b∈bs) : ah bs M (M'.del b) :=
 ⟨h.base,h.next,fun c hc hcb=>by
  simp only [RM.del]; rw [if_neg]
  ·exact h.heap c hc hcb
  ·rintro rfl; rcases hb with hb | hb
   ·omega
   ·exact hcb hb⟩
theorem ah.mono {bs cs:List Nat} (h:ah bs M M') (hs:∀ b∈bs,b∈cs) : ah cs M M':=⟨h.base,h.next,fun c hc hb=>h.heap c hc fun h=>hb (hs c h)⟩
theorem ah.bi {bs:List Nat} {M1 M2:RM} {cs:List Nat} (h:ah bs M M1) (k:ah cs M1 M2) (hn:∀ c∈cs,M.next≤c∨c∈bs) : ah bs M M2 :=
 ⟨k.base.trans h.base,Nat.le_trans h.next k.next,fun c hc hb=>by
  rw [k.heap c (Nat.lt_of_lt_of_le hc h.next) (fun hm=>by rcases hn c hm with h1 | h1; omega; exact hb h1),h.heap c hc hb]⟩
theorem ah.cells {bs:List Nat} (h:ah bs M M') {b:Nat} (hlt:b<M.next) (hb:b ∉ bs) : M'.cells b=M.cells b:=by
 simp only [RM.cells,h.heap b hlt hb,RM.lo,h.base]
theorem ah.cell {bs:List Nat} (h:ah bs M M') {b o:Nat} (hlt:b<M.next) (hb:b ∉ bs) : M'.cell b o=M.cell b o:=by
 simp only [RM.cell,h.cells hlt hb]
theorem ah.loads {bs:List Nat} (h:ah bs M M') {b o k:Nat} (hlt:b<M.next) (hb:b ∉ bs) : M'.loads b o k=M.loads b o k:=by
 simp only [RM.loads,h.cells hlt hb]
@[go_sem] theorem RM.aa7 (x:RB) : (M.push x).next=M.next + 1:=rfl
@[go_sem] theorem RM.abI (b:Nat) (x:RB) : (M.put b x).next=M.next:=rfl
@[go_sem] theorem RM.abU (b:Nat) : (M.del b).next=M.next:=rfl
@[go_sem] theorem RM.aR (x:RB) : (M.push x).heap M.next=some x:=by simp [RM.push]
theorem RM.Xu {x:RB} {c:Nat} (h:c≠M.next) : (M.push x).heap c=M.heap c:=by simp [RM.push,h]
@[go_sem] theorem RM.uo (b:Nat) (x:RB) : (M.put b x).heap b=some x:=by simp [RM.put]
end
end Go.Ab
set_option linter.unusedVariables false
set_option linter.unusedSimpArgs false
namespace Go.Ab
open Go Go.RowKit
abbrev eG:AV:=.sc (.slice none 0 0)
inductive aM (M:RM) (size:Nat) : AV→List AV→Nat→Prop
 | nil:aM M size eG [] 0
 | emp (b:Nat) : aM M size (.emp b) [] 0
 | slc (b o n:Nat) (cap:Cap) (cs:List AV) : b<M.next→M.loads b o (n * size)=some cs→aM M size (.slc b o n cap) cs n
section
variable {M M' : RM} {size:Nat} {v:AV} {cs:List AV} {n:Nat}
theorem Dx {b o k:Nat} {cs:List AV} (h:M.loads b o k=some cs) : cs.length=k:=by
 unfold RM.loads at h
 split at h <;> first | (cases h; done) | skip
 split at h <;> first | (cases h; done) | skip
 rename_i hle
 have:=Option.some.inj h
 rw [← this,List.length_take,List.length_drop]; omega
theorem VM {b o k:Nat} {cs:List AV} (h:M.loads b o k=some cs) (i:Nat) (hi:i<k) : M.cell b (o + i)=cs[i]?:=by
 unfold RM.loads at h
 unfold RM.cell
 split at h <;> first | (cases h; done) | skip
 rename_i l hl
 split at h <;> first | (cases h; done) | skip
 cases h
 simp only [hl,Option.bind_some]
 rw [List.getElem?_take,if_pos hi,List.getElem?_drop]
theorem uO {b o k:Nat} {cs:List AV} (h:M.loads b o k=some cs) (i j:Nat) (hij:i + j≤k) : M.loads b (o + i) j=some ((cs.drop i).take j):=by
 unfold RM.loads at h ⊢
 cases hl:M.cells b with
 | none=>rw [hl] at h; cases h
 | some l =>
   rw [hl] at h
   simp only at h ⊢
   split at h
   ·rename_i hle
    have h:=Option.some.inj h
    subst h
    rw [if_pos (by omega),List.drop_take,List.drop_drop,List.take_take]
    congr 2
    omega
   ·cases h
theorem Iz {b o:Nat} {l:List AV} (h:M.cells b=some l) (ho:o≤l.length) : M.loads b o 0=some []:=by
 simp [RM.loads,h,ho]
theorem aM.length (h:aM M size v cs n) : cs.length=n * size:=by
 cases h with
 | nil=>exact (Nat.zero_mul _).symm
 | emp=>exact (Nat.zero_mul _).symm
 | slc b o n cap cs hb0 hl=>exact Dx hl
theorem aM.len (h:aM M size v cs n) {K:AV→Prop} : bu v K=K (N .i64 n):=by
 cases h with
 | nil=>exact FY
 | emp b=>exact Wy b
 | slc b o n cap cs hb0 hl=>exact lV b o n cap
theorem aM.kN (h:aM M size v cs n) (zs:List AV) : kN M size zs false v=some (n,cs):=by
 cases h with
 | nil=>rfl
 | emp b=>rfl
 | slc b o n cap cs hb0 hl=>simp only [Go.Ab.kN,hl]
theorem aM.pos (h:aM M size v cs n) (hn:0<n) : ∃ b o cap,v=.slc b o n cap∧b<M.next∧M.loads b o (n * size)=some cs:=by
 cases h with
 | nil=>omega
 | emp b=>omega
 | slc b o n cap cs hb0 hl=>exact ⟨b,o,cap,rfl,hb0,hl⟩
theorem aM.Ay (h:aM M 1 v cs n) {l:List UInt8} (hb:dS byteOf cs=some l) : Ay M v=some l:=by
 cases h with
 | nil=>simp [dS] at hb; subst hb; rfl
 | emp b=>simp [dS] at hb; subst hb; rfl
 | slc b o n cap cs hb0 hl =>
   rw [Nat.mul_one] at hl
   simp only [Go.Ab.Ay,hl]; exact hb
def aF:AV→List Nat
 | .slc b _ _ _=>[b]
 | _=>[]
theorem aM.keep {bs:List Nat} (h:aM M size v cs n) (hk:ah bs M M') (hb:∀ b∈aF v,b ∉ bs) : aM M' size v cs n:=by
 cases h with
 | nil=>exact .nil
 | emp b=>exact .emp b
 | slc b o n cap cs hb0 hl =>
   exact .slc b o n cap cs (Nat.lt_of_lt_of_le hb0 hk.next) (by rw [hk.loads hb0 (hb b (by simp [aF]))]; exact hl)
inductive Own (M:RM) (base el size:Nat) : AV→List AV→Nat→Prop
 | nil:Own M base el size eG [] 0
 | ex0 (b o:Nat) : base≤b→b<M.next→(∃ l,M.cells b=some l∧o≤l.length)→Own M base el size (.slc b o 0 (.ex 0)) [] 0
 | op (b n:Nat) (cs:List AV) : base≤b→b<M.next→M.heap b=some (.row cs true el 0)→cs.length=n * size→Own M base el size (.slc b 0 n (.op size)) cs n
theorem Own.eu {base el:Nat} (h:Own M base el size v cs n) : aM M size v cs n:=by
 cases h with
 | nil=>exact .nil
 | ex0 b o hb hlt hc =>
   obtain ⟨l,hl,ho⟩:=hc
   exact .slc b o 0 _ [] hlt (by rw [Nat.zero_mul]; exact Iz hl ho)
 | op b n cs hb hlt hh hl =>
   refine .slc b 0 n _ cs hlt ?_
   rw [RM.dh hh (by omega)]
   simp [← hl]
theorem Own.blk {base el:Nat} (h:Own M base el size v cs n) : ∀ b∈aF v,base≤b∧b<M.next:=by
 cases h with
 | nil=>intro b hb; simp [aF] at hb
 | ex0 b o hb hlt hc=>intro c hc; simp [aF] at hc; subst hc; exact ⟨hb,hlt⟩
 | op b n cs hb hlt hh hl=>intro c hc; simp [aF] at hc; subst hc; exact ⟨hb,hlt⟩
theorem Own.keep {base el:Nat} {bs:List Nat} (h:Own M base el size v cs n) (hk:ah bs M M') (hb:∀ b∈aF v,b ∉ bs) : Own M' base el size v cs n:=by
 cases h with
 | nil=>exact .nil
 | ex0 b o h1 hlt hc=>exact .ex0 b o h1 (Nat.lt_of_lt_of_le hlt hk.next) (by rw [hk.cells hlt (hb b (by simp [aF]))]; exact hc)
 | op b n cs h1 hlt hh hl=>exact .op b n cs h1 (Nat.lt_of_lt_of_le hlt hk.next) (by rw [hk.heap b hlt (hb b (by simp [aF]))]; exact hh) hl
theorem Own.mono {base base' el:Nat} (h:Own M base el size v cs n) (hb:base'≤base) : Own M base' el size v cs n:=by
 cases h with
 | nil=>exact .nil
 | ex0 b o h1 hlt hc=>exact .ex0 b o (Nat.le_trans hb h1) hlt hc
 | op b n cs h1 hlt hh hl=>exact .op b n cs (Nat.le_trans hb h1) hlt hh hl
theorem nI {base el bytes:Nat} {zs:List AV} {zeros:Bool} {x:AV} {m:Nat} {ds:List AV} {K:ai} (h:Own M base el size v cs n) (hbase:base≤M.next) (hs:1≤size) (hx:kN M size zs zeros x=some (m,ds)) (hd:ds.length=m * size)
  (h1:ds.all oneCell=true) (hb:(n + m) * bytes≤140737488355328) (hb2:n + m≤140737488355328)
  (hK:∀ v' M',Own M' base el size v' (cs++ds) (n + m)→ah (aF v) M M'→M.next≤M'.next→(v'=v∨∀ b∈aF v',M.next≤b)→K v' M') : appW el size bytes zs zeros v x M K:=by
 have hmb:m * bytes≤140737488355328:=Nat.le_trans (Nat.mul_le_mul_right _ (by omega)) hb
 refine ⟨m,ds,hx,hmb,by omega, ?_⟩
 cases h with
 | nil =>
   by_cases hm:m=0
   ·subst hm
    have:ds=[]:=List.eq_nil_of_length_eq_zero (by simpa using hd)
    subst this
    exact ⟨eG,M,by simp [mZ],hK _ _ .nil (ah.refl _ _) (Nat.le_refl _) (.inl rfl)⟩
   ·refine ⟨.slc M.next 0 m (.op size),M.push (.row ds true el 0),by simp only [mZ,if_neg hm,h1,if_true],hK _ _ ?_ ((ah.refl _ _).push _) (by simp [RM.push]) (.inr fun b hb=>by simp [aF] at hb; omega)⟩
    simp only [List.nil_append,Nat.zero_add]
    exact .op _ _ _ hbase (by simp [RM.push]) (RM.aR _) hd
 | ex0 b o hb0 hlt hc =>
   obtain ⟨l,hl,ho⟩:=hc
   by_cases hm:m=0
   ·subst hm
    have:ds=[]:=List.eq_nil_of_length_eq_zero (by simpa using hd)
    subst this
    exact ⟨_,M,by simp [mZ],hK _ _ (.ex0 b o hb0 hlt ⟨l,hl,ho⟩) (ah.refl _ _) (Nat.le_refl _) (.inl rfl)⟩
   ·refine ⟨.slc M.next 0 m (.op size),M.push (.row ds true el 0), ?_,hK _ _ ?_ ((ah.refl _ _).push _) (by simp [RM.push]) (.inr fun b hb=>by simp [aF] at hb; omega)⟩
    ·have hl0:M.loads b o (0 * size)=some []:=by rw [Nat.zero_mul]; exact Iz hl ho
     simp only [mZ,if_neg hm]
     rw [if_neg (by omega),hl0]
     simp only [Nat.zero_add,List.nil_append]
     rw [if_pos ⟨hmb,by omega,h1⟩]
    ·simp only [List.nil_append,Nat.zero_add]
     exact .op _ _ _ hbase (by simp [RM.push]) (RM.aR _) hd
 | op b n cs hb0 hlt hh hl =>
   by_cases hm:m=0
   ·subst hm
    have:ds=[]:=List.eq_nil_of_length_eq_zero (by simpa using hd)
    subst this
    exact ⟨_,M,by simp [mZ],hK _ _ (by simpa using .op b n cs hb0 hlt hh hl) (ah.refl _ _) (Nat.le_refl _) (.inl rfl)⟩
   ·have hpos:1≤m * size:=Nat.mul_pos (by omega) hs
    have hsum:(n + m) * size=n * size + m * size:=Nat.add_mul _ _ _
    refine ⟨.slc M.next 0 (n + m) (.op size),(M.del b).push (.row (cs++ds) true el 0), ?_,hK _ _ ?_ (((ah.refl _ _).del (.inr (by simp [aF]))).push _) (by simp [RM.push,RM.del]) (.inr fun b hb=>by simp [aF] at hb; omega)⟩
    ·simp only [mZ,if_neg hm,hh,and_self,if_true]
     rw [if_neg (by omega),if_pos ⟨trivial,hb,hb2,trivial,hl,Nat.zero_le _,h1⟩]
    ·exact .op _ _ _ (show base≤M.next from hbase) (by simp [RM.push,RM.del]) (by simp [RM.push,RM.del]) (by rw [List.length_append,hl,hd,hsum])
theorem aM.EI (h:aM M size v cs n) (neg:Bool) : (v=eG∧∀ K:AV→Prop,jD neg 2 v eG K=K (Bo (!neg)))∨(v≠eG∧∀ K:AV→Prop,jD neg 2 v eG K=K (Bo neg)):=by
 cases h with
 | nil=>exact .inl ⟨rfl,fun _=>JX neg⟩
 | emp b=>exact .inr ⟨by (intro h; cases h),fun _=>K4 neg b⟩
 | slc b o n cap cs hb0 hl=>exact .inr ⟨by (intro h; cases h),fun _=>Jy neg b o n cap⟩
theorem Own.lit {base el T:Nat} (M:RM) (h:base≤M.next) : Own (M.push (.row [] false T 0)) base el size (.slc M.next 0 0 (.ex 0)) [] 0 :=
 .ex0 _ _ h (by simp [RM.push]) ⟨[],by simp [RM.cells,RM.push],Nat.le_refl _⟩
end
end Go.Ab
set_option maxRecDepth 4000
set_option linter.unusedVariables false
set_option linter.unusedSimpArgs false
namespace Go.Ab
open Go
theorem wrap_u8 (n:Nat) : IntKind.wrap .u8 (n:Int)=((n % 256:Nat) : Int):=by
 simp only [IntKind.wrap,IntKind.bits,IntKind.signed,IntKind.max,IntKind.min]
 simp
theorem wrap_u64 (n:Nat) : IntKind.wrap .u64 (n:Int)=((n % 18446744073709551616:Nat) : Int):=by
 simp only [IntKind.wrap,IntKind.bits,IntKind.signed,IntKind.max,IntKind.min]
 simp
theorem AP {n:Int} (h0:0≤n) (h:n<256) : IntKind.wrap .u8 n=n:=by
 obtain ⟨m,rfl⟩:=Int.eq_ofNat_of_zero_le h0
 rw [wrap_u8,Nat.mod_eq_of_lt (by omega)]
theorem dx {n:Int} (h0:0≤n) (h:n<18446744073709551616) : IntKind.wrap .u64 n=n:=by
 obtain ⟨m,rfl⟩:=Int.eq_ofNat_of_zero_le h0
 rw [wrap_u64,Nat.mod_eq_of_lt (by omega)]
theorem bD {n:Int} (h0 : -9223372036854775808≤n) (h:n<9223372036854775808) : IntKind.wrap .i64 n=n:=by
 rw [IntKind.wrap_i64]; omega
theorem ZT (k:Nat) (a b:Nat) : (BitVec.ofInt k (a:Int) ||| BitVec.ofInt k (b:Int)).toNat=(a ||| b) % 2 ^ k:=by
 rw [BitVec.toNat_or,BitVec.ofInt_natCast,BitVec.ofInt_natCast,BitVec.toNat_ofNat,BitVec.toNat_ofNat,← Nat.or_mod_two_pow]
theorem Yy (k:Nat) (a b:Nat) : (BitVec.ofInt k (a:Int) &&& BitVec.ofInt k (b:Int)).toNat=(a &&& b) % 2 ^ k:=by
 rw [BitVec.toNat_and,BitVec.ofInt_natCast,BitVec.ofInt_natCast,BitVec.toNat_ofNat,BitVec.toNat_ofNat,← Nat.and_mod_two_pow]
theorem Zh (k:Nat) (a b:Nat) : (BitVec.ofInt k (a:Int) ^^^ BitVec.ofInt k (b:Int)).toNat=(a ^^^ b) % 2 ^ k:=by
 rw [BitVec.toNat_xor,BitVec.ofInt_natCast,BitVec.ofInt_natCast,BitVec.toNat_ofNat,BitVec.toNat_ofNat,← Nat.xor_mod_two_pow]
theorem XA (a b:Nat) : ((a:Int).fdiv (b:Int))=((a / b:Nat) : Int):=by
 rw [Int.fdiv_eq_ediv_of_nonneg _ (by omega)]; rfl
def uD:IntKind→Nat
 | .u8=>8 | .u16=>16 | .u32=>32 | _=>64
def yf:IntKind→Bool
 | .u8 | .u16 | .u32 | .u64=>true
 | _=>false
theorem AU {k:IntKind} (h:yf k=true) (n:Nat) : k.wrap (n:Int)=((n % 2 ^ uD k:Nat) : Int):=by
 cases k <;> simp [yf] at h <;> (simp only [IntKind.wrap,IntKind.bits,IntKind.signed,uD]; simp)
theorem Gz (k:IntKind) (h:yf k=true) : k.bits=uD k:=by cases k <;> simp [yf] at h <;> rfl
theorem YI {k:IntKind} (h:yf k=true) (a b:Nat) : Yd k a b=(((a ||| b) % 2 ^ uD k:Nat) : Int):=by
 unfold Yd
 rw [ZT,AU h,Gz k h,Nat.mod_mod]
theorem MJ {k:IntKind} (h:yf k=true) (a b:Nat) : PG k a b=(((a &&& b) % 2 ^ uD k:Nat) : Int):=by
 unfold PG
 rw [Yy,AU h,Gz k h,Nat.mod_mod]
theorem XX {k:IntKind} (h:yf k=true) (a b:Nat) : SK k a b=(((a ^^^ b) % 2 ^ uD k:Nat) : Int):=by
 unfold SK
 rw [Zh,AU h,Gz k h,Nat.mod_mod]
theorem BB (k:IntKind) (a b:Nat) (hb:b≤k.bits) : Jt k a b=((a / 2 ^ b:Nat) : Int):=by
 unfold Jt
 rw [Int.toNat_natCast,Nat.min_eq_left hb,← XA,Int.natCast_pow]; rfl
theorem Pk {k:IntKind} (h:yf k=true) (a b:Nat) (hb:b≤k.bits) : TK k a b=((a * 2 ^ b % 2 ^ uD k:Nat) : Int):=by
 unfold TK
 rw [Int.toNat_natCast,Nat.min_eq_left hb,← AU h,Int.natCast_mul,Int.natCast_pow]
 rfl
theorem Zl {x:Nat} (h:x<256) : x ||| 128=x % 128 + 128:=by
 have:∀ x:Fin 256,x.val ||| 128=x.val % 128 + 128:=by decide
 exact this ⟨x,h⟩
theorem CR (n:Nat) : (UInt8.ofNat n).toNat=n % 256:=by simp
end Go.Ab
set_option linter.unusedVariables false
set_option linter.unusedSimpArgs false
namespace Go.Ab.aC
open Go Go.Ab
theorem CG {T size bytes:Nat} {zs:List AV} {M0:RM} {a0:AV} {cs:List AV} {n:Nat} (h:aM M0 size a0 cs n) (h1:cs.all oneCell=true) (hs:1≤size) (hn:n * bytes≤140737488355328) (hn2:n≤140737488355328) {Q:ai}
  (hQ:∀ v M',Own M' M0.next T size v cs n→ah [] M0 M'→Q v M') :
  jD false 2 a0 eG fun t4=>aA t4 (Q eG M0) (df T 0 zs [] fun r f=>bY r f M0 fun t5 M=>appW T size bytes zs false t5 a0 M fun t7 M_0=>Q t7 M_0):=by
 rcases h.EI false with ⟨rfl,e⟩ | ⟨hne,e⟩
 ·rw [e]
  cases h
  exact ⟨fun _=>hQ _ _ .nil (ah.refl _ _),fun h=>by simp at h⟩
 ·rw [e]
  refine ⟨fun h=>by simp at h,fun _=>⟨[],rfl, ?_⟩⟩
  have hk:ah [] M0 (M0.push (.row [] false T 0)):=(ah.refl _ _).push _
  refine nI (base:=M0.next) (Own.lit M0 (Nat.le_refl _)) (by simp [RM.push]) hs ((h.keep hk (by simp)).kN _) h.length h1 (by rw [Nat.zero_add]; exact hn) (by omega) ?_
  intro v' M' ho hk' hnx hv
  exact hQ v' M' (by simpa using ho) (hk.bi hk' (by simp [aF]))
def DK (T size bytes:Nat) (c:av) : Prop:=∀ {M0:RM} {a0:AV} {cs:List AV} {n:Nat},aM M0 size a0 cs n→cs.all oneCell=true→n * bytes≤140737488355328→n≤140737488355328→∀ {Q:ai},
 (∀ v M',Own M' M0.next T size v cs n→ah [] M0 M'→Q v M')→c [a0] M0 Q
def bC (v:Nat) : List UInt8:=if v<128 then [UInt8.ofNat v] else UInt8.ofNat (v % 128 + 128) :: bC (v / 128)
 termination_by v
 decreasing_by omega
theorem oo {v:Nat} (h:v<128) : bC v=[UInt8.ofNat v]:=by rw [bC,if_pos h]
theorem nR {v:Nat} (h:¬ v<128) : bC v=UInt8.ofNat (v % 128 + 128) :: bC (v / 128):=by rw [bC,if_neg h]
theorem CB:∀ (k v:Nat),1≤k→v<128 ^ k→(bC v).length≤k
 | 0,_,h,_=>by omega
 | k + 1,v,_,h=>by
   by_cases hv:v<128
   ·rw [oo hv]; simp
   ·rw [nR hv]
    simp only [List.length_cons]
    have:1≤k:=by
     rcases k with _ | k
     ·simp at h; omega
     ·omega
    have:=CB k (v / 128) this (by rw [Nat.pow_succ] at h; omega)
    omega
abbrev dL (l:List UInt8) : List AV:=l.map fun b=>N .u8 b.toNat
theorem kg (l:List UInt8) : (dL l).all oneCell=true:=by simp [oneCell]
def Br (T:Nat) (c:av) : Prop:=∀ {M0:RM} {a0:AV} {cs:List AV} {n v:Nat},aM M0 1 a0 cs n→cs.all oneCell=true→n + 10≤140737488355328→v<2 ^ 64→∀ {Q:ai},
 (∀ r M',Own M' M0.next T 1 r (cs++dL (bC v)) (n + (bC v).length)→ah [] M0 M'→Q r M')→c [a0,N .u64 v] M0 Q
theorem NW {T base:Nat} {M:RM} {b:AV} {cs:List AV} {n:Nat} {x:AV} {K:ai} (ho:Own M base T 1 b cs n) (hb:base≤M.next) (hx:oneCell x=true) (hc:x.cells=[x]) (hn:n + 1≤140737488355328)
  (hK:∀ v' M',Own M' base T 1 v' (cs++[x]) (n + 1)→ah (aF b) M M'→K v' M') : df T 1 [N .u8 0] [(0,1,x)] fun r f=>bY r f M fun t M1=>appW T 1 1 [N .u8 0] false b t M1 K:=by
 refine ⟨[x],by simp [vN,bM,hc,hx], ?_⟩
 dsimp only
 rw [aX]
 have hk:ah [] M (M.push (.row [x] false T 0)):=(ah.refl _ _).push _
 have hs:aM (M.push (.row [x] false T 0)) 1 (.slc M.next 0 1 (.ex 1)) [x] 1:=.slc _ _ _ _ _ (by simp [RM.push]) (RM.dh (RM.aR _) (by simp))
 refine nI (ho.keep hk (by simp)) (Nat.le_trans hb hk.next) (Nat.le_refl _) (hs.kN _) (by simp) (by simpa using hx) (by omega) (by omega) ?_
 intro v' M' h1 h2 h3 h4
 exact hK v' M' h1 ((hk.mono (by simp)).trans h2)
theorem Y3 (m:Nat) : N .u8 (Yd .u8 (IntKind.u8.wrap (m:Int)) 128)=N .u8 ((UInt8.ofNat (m % 128 + 128)).toNat:Int):=by
 have e1:(128:Int)=((128:Nat) : Int):=rfl
 rw [e1,wrap_u8,YI rfl,CR,Zl (by omega)]
 simp only [uD]
 congr 2
 omega
theorem Rl {m:Nat} (h:m<128) : N .u8 (IntKind.u8.wrap (m:Int))=N .u8 ((UInt8.ofNat m).toNat:Int):=by
 rw [wrap_u8,CR]
theorem acu (m:Nat) : N .u64 (Jt .u64 (m:Int) 7)=N .u64 ((m / 128:Nat) : Int):=by
 rw [show (7:Int)=((7:Nat) : Int) from rfl,BB _ _ _ (by decide)]
theorem UA {T:Nat} {c:av} (hc:DK T 1 1 c) : Br T fun args M Q=>∃ a0 a1,args=[a0,a1]∧OP c T a0 a1 M Q:=by
 intro M0 a0 cs n v h h1 hn hv Q hQ
 refine ⟨a0,_,rfl, ?_⟩
 unfold OP
 refine hc h h1 (by omega) (by omega) fun b0 M ho hk=>?_
 refine UI (fun m xs M=>∃ b w done,m=w∧xs=[b,N .u64 (w:Nat)]∧Own M M0.next T 1 b (cs++dL done) (n + done.length)∧ah [] M0 M∧done++bC w=bC v∧w<2 ^ 64) v ⟨b0,v,[],rfl,rfl,by simpa using ho,hk,rfl,hv⟩ ?_
 rintro m ys M1 ⟨b,w,done,rfl,rfl,ho,hk,hd,hw⟩
 have hlen:=CB 10 v (by omega) (by omega)
 rw [← hd,List.length_append] at hlen
 dsimp only
 simp only [go_sem,aa]
 refine ⟨fun hge=>?_,fun hlt=>?_⟩
 ·have hge:¬ m<128:=by simp at hge; omega
  rw [nR hge,List.length_cons] at hlen
  refine NW ho hk.next rfl rfl (by omega) fun b' M' ho' hk'=>?_
  refine ⟨by omega,m / 128,by omega,b',m / 128,done++[UInt8.ofNat (m % 128 + 128)],rfl, ?_, ?_,hk.bi hk' (fun c hc=>.inl (ho.blk c hc).1), ?_,by omega⟩
  ·rw [acu]
  ·rw [Y3] at ho'
   simpa [Nat.add_assoc] using ho'
  ·rw [← hd,nR hge]; simp
 ·have hlt:m<128:=by simp at hlt; omega
  refine NW ho hk.next rfl rfl (by rw [oo hlt] at hlen; simp at hlen; omega) fun b' M' ho' hk'=>?_
  refine hQ b' M' ?_ (hk.bi hk' (fun c hc=>.inl (ho.blk c hc).1))
  rw [← hd,oo hlt]
  rw [Rl hlt] at ho'
  simpa [Nat.add_assoc] using ho'
end Go.Ab.aC
set_option linter.unusedVariables false
set_option linter.unusedSimpArgs false
namespace Go.Ab
open Go Go.RowKit
section
variable {P:Program}
theorem dW.opened {ρ:Ren} {M:RM} {w:World} {b n:Nat} {l:List AV} {el:Nat} {u:Value} (hw:dW P ρ M w) (hh:M.heap b=some (.row l true el 0)) (hl:l.length=n) (hv:aB ρ (.slc b 0 n (.op 1)) u) :
  ∃ c,n≤c∧aB ρ (.slc b 0 n (.ex c)) u∧dW P ρ (M.put b (.row (l++List.replicate (c - n) .top) true el 0)) w:=by
 obtain ⟨A,hA⟩:=hw
 obtain ⟨k,i,hb,hp,he,hk,rfl⟩:=wQ hv
 rcases hA.blk b _ hh with ⟨y,hy,hle⟩ | ⟨_,e0,_⟩
 ·cases y <;> first | exact hle.elim | skip
  rename_i nn tree zs opn elem fz
  obtain ⟨r1,rfl,rfl,rfl,r5⟩:=hle
  obtain ⟨ob,hob,cs,fr,rfl,hrow⟩:=hA.rel.blk b i _ hb hy
  obtain ⟨h0,hcs,hels⟩:=hrow.opn rfl
  have hk0:k=0:=by
   rcases Nat.eq_zero_or_pos k with e | e
   ·exact e
   ·have:0<k * i.esz:=Nat.mul_pos e h0
    omega
  subst hk0
  have hsh:=hrow.sh0
  rw [← he,Nat.mul_one,hsh,Nat.zero_add] at hcs
  refine ⟨i.capN,by omega, ?_,⟨{ A with heap:=A.heap.set b (.row i.capN (Tree.ofList (l++List.replicate (i.capN - n) .top) 0 .leaf) [] true elem 0) },hA.next,⟨hA.rel.dom,fun b' i' x hb' hx=>?_,fun b1 b2 i1 i2 x1 x2 p1 p2 g1 g2 e=>?_,fun b' x hx=>?_,fun b' i' x hb' hx=>?_,hA.rel.inv⟩,hA.size,fun c x hx=>?_,hA.old⟩⟩
  ·have:=aB.slcS (ρ:=ρ) b 0 n i.capN i hb
   rw [Nat.zero_mul] at *
   simpa using this
  ·simp only [Tree.bI] at hx
   by_cases e:b'=b
   ·subst e
    rw [if_pos rfl] at hx
    cases hx
    rw [hb] at hb'; cases hb'
    refine ⟨_,hob,cs,fr,rfl,⟨by rw [hsh]; omega,fun j x hj=>?_,fun j h1 h2=>hrow.free j h1 h2,hrow.mark,fun _=>⟨h0,by rw [hsh,← he]; omega,hels⟩,hsh⟩⟩
    obtain ⟨hjlt,hj2⟩:=kG hj
    rw [Tree.j6] at hj2
    split at hj2
    ·rename_i hlt
     rw [Nat.sub_zero] at hj2
     by_cases hjl:j<l.length
     ·rw [List.getElem?_append_left hjl] at hj2
      exact hrow.val j x (r5 j x hj2)
     ·rw [List.getElem?_append_right (by omega),List.getElem?_replicate] at hj2
      split at hj2
      ·cases hj2
       exact ⟨cs[j]'(by omega),by rw [hsh,Nat.zero_add]; simp,.top _⟩
      ·cases hj2
    ·simp [Tree.get] at hj2
   ·rw [if_neg e] at hx
    exact hA.rel.blk b' i' x hb' hx
  ·have q:∀ {b1 x1},(A.heap.set b (cB.row i.capN (Tree.ofList (l++List.replicate (i.capN - n) .top) 0 .leaf) [] true elem 0)).get b1=some x1→∃ y,A.heap.get b1=some y:=by
    intro b1 x1 h
    rw [Tree.bI] at h
    by_cases e:b1=b
    ·subst e; exact ⟨_,hy⟩
    ·rw [if_neg e] at h; exact ⟨_,h⟩
   obtain ⟨y1,e1⟩:=q g1
   obtain ⟨y2,e2⟩:=q g2
   exact hA.rel.sep _ _ _ _ _ _ p1 p2 e1 e2 e
  ·simp only [Tree.bI] at hx
   by_cases e:b'=b
   ·subst e; exact hA.rel.top _ _ hy
   ·rw [if_neg e] at hx; exact hA.rel.top _ _ hx
  ·simp only [Tree.bI] at hx
   by_cases e:b'=b
   ·subst e; exact hA.rel.lo _ _ _ hb' hy
   ·rw [if_neg e] at hx; exact hA.rel.lo _ _ _ hb' hx
  ·simp only [RM.put] at hx
   simp only [Tree.bI]
   by_cases e:c=b
   ·subst e
    rw [if_pos rfl] at hx ⊢
    cases hx
    refine .inl ⟨_,rfl,by simp; omega,rfl,rfl,rfl,fun j v hj=>?_⟩
    have hjl:=(List.getElem?_eq_some_iff.1 hj).1
    exact uJ (by simp at hjl; omega) (by rw [Tree.j6,if_pos (by omega)]; simpa using hj)
   ·rw [if_neg e] at hx ⊢
    exact hA.blk c x hx
 ·cases e0
theorem ig.XQ {f:FuncId} {b n:Nat} {l:List AV} {el:Nat} {rest:List AV} {M:RM} {Q:ai} (hP:EC P f) (hh:M.heap b=some (.row l true el 0)) (hl:l.length=n)
  (h:∀ c,n≤c→ig P f (.slc b 0 n (.ex c) :: rest) (M.put b (.row (l++List.replicate (c - n) .top) true el 0)) Q) : ig P f (.slc b 0 n (.op 1) :: rest) M Q:=by
 refine ⟨hP,fun ρ w us hargs hw=>?_⟩
 cases hargs with
 | cons _ u _ us hv hr =>
 obtain ⟨c,hc,hv',hw'⟩:=hw.opened hh hl hv
 refine ((h c hc).2 ρ w (u :: us) (.cons _ _ _ _ hv' hr) hw').mono fun e w' hR=>?_
 obtain ⟨v',v,M',ρ',rfl,k1,k2,k3⟩:=hR
 exact ⟨v',v,M',ρ',rfl,⟨k1.step,k1.rel,k1.base,k1.next⟩,k2,k3⟩
end
end Go.Ab
set_option linter.unusedVariables false
set_option linter.unusedSimpArgs false
namespace Go.Ab
open Go Go.RowKit
def RM.old (base:Base) (w:World) : RM where
 next:=base.n
 heap:=fun b=>if b<base.n then (match w.heap[b]? with | some (.cells c _ _)=>some (.ro c) | _=>none) else none
 base:=base
def OG (n:Nat) : Ren:=fun b=>if b<n then some ⟨b,0,0,0⟩ else none
theorem Xp {P:Program} {base:Base} {w:World} (hn:base.n=w.heap.size) (hi:base.inv w) : dW P (OG base.n) (RM.old base w) w:=by
 refine ⟨{ next:=base.n,heap:=.leaf },rfl,⟨fun b i h=>?_,fun b i x _ h=>by simp [Tree.get] at h,fun b _ i _ x _ _ _ h=>by simp [Tree.get] at h,fun b x h=>by simp [Tree.get] at h,fun b i x _ h=>by simp [Tree.get] at h,hi⟩,by simp [RM.old,RM.lo,hn],fun b x h=>.inr ?_,fun c hc=>by have hc' : c<base.n:=hc; simp only [OG]; rw [if_pos hc']⟩
 ·simp only [OG] at h
  split at h <;> first | (cases h; done) | skip
  cases h
  exact ⟨by assumption,by rw [← hn]; assumption⟩
 ·simp only [RM.old] at h
  split at h <;> first | (cases h; done) | skip
  rename_i hlt
  split at h <;> first | (cases h; done) | skip
  rename_i c el fr hh
  cases h
  exact ⟨c,rfl,hlt,el,fr,hh⟩
theorem RM.U4 {base:Base} {w:World} {b:Nat} {c:Array Value} {el:TypeId} {fr:_} (hb:b<base.n) (h:w.heap[b]?=some (.cells c el fr)) : (RM.old base w).cells b=some (c.toList.map (qI base.n)):=by
 simp only [RM.cells,RM.old,if_pos hb,h]
def wT (lo:Nat) : Value→AV
 | .agg cs=>.agg (cs.toList.map (qI lo))
 | v=>qI lo v
theorem Nz {ρ:Ren} {lo:Nat} (h:∀ c,c<lo→ρ c=some ⟨c,0,0,0⟩) : ∀ (vs:List Value),bz ρ (vs.map (qI lo)) vs
 | []=>.nil
 | v :: vs=>.cons _ _ _ _ (GD h v) (Nz h vs)
theorem XD {ρ:Ren} {lo:Nat} (h:∀ c,c<lo→ρ c=some ⟨c,0,0,0⟩) (v:Value) : aB ρ (wT lo v) v:=by
 unfold wT
 split
 ·exact .agg _ _ (Nz h _)
 ·exact GD h v
theorem Lu {ρ:Ren} {lo:Nat} (h:∀ c,c<lo→ρ c=some ⟨c,0,0,0⟩) : ∀ (vs:List Value),bz ρ (vs.map (wT lo)) vs
 | []=>.nil
 | v :: vs=>.cons _ _ _ _ (XD h v) (Lu h vs)
theorem ig.close {P:Program} {f:FuncId} {base:Base} {w:World} {us:Array Value} (hn:base.n=w.heap.size) (hi:base.inv w)
  (h:ig P f (us.toList.map (wT base.n)) (RM.old base w) fun v _=>v=Bo true) :
  Calls P f us w fun e w'=>e=.returned (.bool true)∧Below w.heap.size w w':=by
 have hr:=Xp (P:=P) hn hi
 refine ((h.2 (OG base.n) w us.toList (Lu (fun c hc=>by simp only [OG]; rw [if_pos hc]) _) hr)).mono fun e w' hR=>?_
 obtain ⟨v',v,M',ρ',rfl,k1,k2,rfl⟩:=hR
 obtain ⟨rfl,_⟩:=bg k2
 refine ⟨rfl,k1.step.os,k1.step.tape,k1.step.output,k1.step.size,fun k hk=>k1.step.low k ?_⟩
 show k<base.n
 rw [hn]; exact hk
def DD:Option TypeDesc→Bool
 | some .bool | some (.int _) | some .string | some (.slice _) | some (.struct _) | some (.array _ _)=>false
 | _=>true
inductive Fits (P:Program) (M:RM) : TypeId→List AV→Prop
 | bool (t:TypeId) (b:Bool) : P.underlying t=some .bool→Fits P M t [Bo b]
 | int (t:TypeId) (k:IntKind) (n:Int) : P.underlying t=some (.int k)→k.min≤n→n≤k.max→Fits P M t [N k n]
 | str (t:TypeId) (s:List UInt8) : P.underlying t=some .string→s.length≤reachBytes→Fits P M t [St s]
 | nils (t e:TypeId) : P.underlying t=some (.slice e)→Fits P M t [eG]
 | emp (t e:TypeId) (b:Nat) : P.underlying t=some (.slice e)→Fits P M t [.emp b]
 | slc (t e:TypeId) (b o n c:Nat) (cs:List AV) : P.underlying t=some (.slice e)→b<M.next→n≤c→c * P.bytesOf e≤reachBytes→M.loads b o (n * P.cellsOf e)=some cs →
   (∀ i,i<n→Fits P M e ((cs.drop (i * P.cellsOf e)).take (P.cellsOf e)))→Fits P M t [.slc b o n (.ex c)]
 | struct (t:TypeId) (fs:Array Field) (cs:List AV) : P.underlying t=some (.struct fs)→cs.length=P.cellsOf t →
   (∀ (i:Nat) (f:Field),fs[i]?=some f→Fits P M f.type ((cs.drop f.offset).take (P.cellsOf f.type)))→Fits P M t cs
 | array (t e:TypeId) (n:Nat) (cs:List AV) : P.underlying t=some (.array n e)→cs.length=P.cellsOf t →
   (∀ i,i<n→Fits P M e ((cs.drop (i * P.cellsOf e)).take (P.cellsOf e)))→Fits P M t cs
 | other (t:TypeId) (cs:List AV) : DD (P.underlying t)=true→Fits P M t cs
 | zero (t e:TypeId) (cs:List AV) : P.underlying t=some (.slice e)→P.cellsOf e=0→Fits P M t cs
theorem Ca (a:Addr) : a.add 0=a:=by simp [Addr.add]
theorem vI {w:World} {base:Nat} {a:Addr} {n:Nat} {cs:List Value} (h:w.cells? base a n=some cs) : cs.length=n∧∀ i,i<n→w.cell? (a.add i)=cs[i]?:=by
 unfold World.cells? at h
 split at h
 ·exact ⟨by simpa using mapM_some_length h,fun i hi=>mapM_some_get h i i (by simp [hi])⟩
 ·cases h
theorem cell?_at {w:World} {a:Addr} {v:Value} (h:w.cell? a=some v) : ∃ c el fr,w.heap[a.block]?=some (.cells c el fr)∧a.spot=none∧a.off<c.size∧c[a.off]?=some v:=by
 unfold World.cell? at h
 split at h
 ·rename_i c el fr hh
  split at h
  ·cases h
  ·rename_i hs
   exact ⟨c,el,fr,hh,by simpa using hs,(Array.getElem?_eq_some_iff.1 h).1,h⟩
 ·cases h
section
variable {H:Type} {enc:TypeId × Value→H} {P:Program} {base:Base} {w:World}
theorem tZ {e:TypeId} {ds:List (DataW H)} {d:DataW H} (hd:d∈ds) {x:Nat} (hx:x∈d.weights P e) : x∈DataW.weightsAll P e ds:=by
 induction ds with
 | nil=>cases hd
 | cons y ys ih =>
   simp only [DataW.weightsAll,List.mem_append]
   rcases List.mem_cons.1 hd with rfl | hd
   ·exact .inl hx
   ·exact .inr (ih hd)
theorem xL {x:Nat} : ∀ (ts:List TypeId) (ds:List (DataW H)) (i:Nat) (t:TypeId) (d:DataW H),ts[i]?=some t→ds[i]?=some d→x∈d.weights P t→x∈DataW.weightsEach P ts ds
 | [],_,_,_,_,h,_,_=>by simp at h
 | _ :: _,[],_,_,_,_,h,_=>by simp at h
 | t :: ts,d :: ds,0,t',d',h,h',hx=>by
   simp at h h'; subst h h'
   simp only [DataW.weightsEach,List.mem_append]; exact .inl hx
 | t :: ts,d :: ds,i + 1,t',d',h,h',hx=>by
   simp only [DataW.weightsEach,List.mem_append]
   exact .inr (xL ts ds i t' d' (by simpa using h) (by simpa using h') hx)
theorem Ol (hn:base.n=w.heap.size) {held:Bool} : ∀ (fuel:Nat) (t:TypeId) (cs:List Value) (x:DataW H × List MemPlace),DataW.trod enc P w 0 (fun _=>true) held fuel t cs=some x →
  (∀ y∈x.1.weights P t,y≤reachBytes)→Fits P (RM.old base w) t (cs.map (qI base.n)):=by
 intro fuel
 induction fuel with
 | zero=>intro t cs x h; simp [DataW.trod] at h
 | succ m ih =>
   intro t cs x h hw
   cases hu:P.underlying t with
   | none=>exact .other _ _ (by rw [hu]; rfl)
   | some d =>
     cases d with
     | bool =>
       obtain ⟨b,rfl,rfl⟩:=DataW.trod_bool hu h
       exact .bool t b hu
     | int k =>
       obtain ⟨n,rfl,rfl,hwf⟩:=DataW.trod_int hu h
       simp only [Lit.wf,Bool.and_eq_true,decide_eq_true_eq] at hwf
       exact .int t k n hu hwf.1 hwf.2
     | string =>
       obtain ⟨s,rfl,rfl,_⟩:=DataW.trod_string hu h
       exact .str t s.data.toList hu (hw _ (by simp [DataW.weights]))
     | slice e =>
       rcases DataW.trod_slice hu h with ⟨rfl,rfl⟩ | ⟨a,len,cap,elems,rest,n,hm,rfl,rfl,_,hlc,_,hel,hget,hrest,_⟩
       ·exact .nils t e hu
       ·cases hm
        rcases Nat.eq_zero_or_pos (P.cellsOf e) with hz | hz
        ·exact .zero t e _ hu hz
        rcases Nat.eq_zero_or_pos cap with hc | hc
        ·have hl0:len=0:=by omega
         subst hc hl0
         exact .emp t e 0 hu
        ·obtain ⟨hr1,hr2⟩:=hrest rfl
         have every:∀ i,i<cap→∃ es y,w.cells? 0 (a.add (i * P.cellsOf e)) (P.cellsOf e)=some es∧DataW.trod enc P w 0 (fun _=>true) held m e es=some y∧(y∈elems∨y∈rest):=by
          intro i hi
          by_cases hil:i<len
          ·have h1:=hget i hil
           have h2:elems[i]?=some (elems[i]'(by omega)):=by simp [hel,hil]
           rw [h2] at h1
           obtain ⟨es,e1,e2⟩:=Option.bind_eq_some_iff.1 h1
           exact ⟨es,_,e1,e2,.inl (List.getElem_mem _)⟩
          ·have h1:=hr2 (i - len) (by omega)
           rw [show len + (i - len)=i by omega] at h1
           have h2:rest[i - len]?=some (rest[i - len]'(by omega)):=by
            rw [List.getElem?_eq_getElem]
           rw [h2] at h1
           obtain ⟨es,e1,e2⟩:=Option.bind_eq_some_iff.1 h1
           exact ⟨es,_,e1,e2,.inr (List.getElem_mem _)⟩
         obtain ⟨es0,_,k0,_,_⟩:=every 0 hc
         obtain ⟨kl0,kg0⟩:=vI k0
         have hc0:=kg0 0 hz
         rw [List.getElem?_eq_getElem (by omega)] at hc0
         obtain ⟨c,el,fr,hh,hsp,_,_⟩:=cell?_at hc0
         obtain ⟨b,o,sp⟩:=a
         rw [Nat.zero_mul,Ca,Ca] at hh hsp
         simp only at hh hsp
         subst hsp
         have hblt:b<base.n:=by rw [hn]; exact (Array.getElem?_eq_some_iff.1 hh).1
         have hlast:o + cap * P.cellsOf e≤c.size:=by
          obtain ⟨es1,_,k1,_,_⟩:=every (cap - 1) (by omega)
          obtain ⟨kl1,kg1⟩:=vI k1
          have hc1:=kg1 (P.cellsOf e - 1) (by omega)
          rw [List.getElem?_eq_getElem (by omega)] at hc1
          obtain ⟨c',el',fr',hh',_,hlt,_⟩:=cell?_at hc1
          rw [fB,fB] at hh' hlt
          simp only at hh' hlt
          rw [hh] at hh'
          cases hh'
          have:cap * P.cellsOf e=(cap - 1) * P.cellsOf e + P.cellsOf e:=by
           rw [← Nat.succ_mul]; congr 1; omega
          omega
         have habs:qI base.n (.slice (some ⟨b,o,none⟩) len cap)=.slc b o len (.ex cap):=by
          obtain ⟨cap,rfl⟩ : ∃ k,cap=k + 1:=⟨cap - 1,by omega⟩
          simp only [qI,if_pos hblt]
         have hcells:=RM.U4 hblt hh
         have hle:len * P.cellsOf e≤cap * P.cellsOf e:=Nat.mul_le_mul_right _ hlc
         have hload:(RM.old base w).loads b o (len * P.cellsOf e)=some (((c.toList.map (qI base.n)).drop o).take (len * P.cellsOf e)):=by
          simp only [RM.loads,hcells]
          rw [if_pos (by simp; omega)]
         simp only [List.map_cons,List.map_nil,habs]
         refine .slc t e b o len cap _ hu hblt hlc ?_ hload fun i hi=>?_
         ·have:=hw ((elems.length + rest.length) * P.bytesOf e) (by simp [DataW.weights,hu])
          rwa [hel,hr1,show len + (cap - len)=cap by omega] at this
         ·obtain ⟨es,y,k1,k2,k3⟩:=every i (by omega)
          have hlen:=(vI k1).1
          have hes:((((c.toList.map (qI base.n)).drop o).take (len * P.cellsOf e)).drop (i * P.cellsOf e)).take (P.cellsOf e)=es.map (qI base.n):=by
           have hii:i * P.cellsOf e + P.cellsOf e≤len * P.cellsOf e:=by rw [← Nat.succ_mul]; exact Nat.mul_le_mul_right _ hi
           apply List.ext_getElem?
           intro j
           by_cases hj:j<P.cellsOf e
           ·have hg:=(vI k1).2 j hj
            rw [List.getElem?_take,if_pos hj,List.getElem?_drop,List.getElem?_take,if_pos (by omega),List.getElem?_drop,List.getElem?_map,List.getElem?_map,← hg]
            rw [fB,fB]
            simp only [World.cell?,hh]
            rw [Array.getElem?_toList]
            simp [Nat.add_assoc]
           ·rw [List.getElem?_eq_none (by simp; omega),List.getElem?_eq_none (by simp; omega)]
          rw [hes]
          refine ih e es y k2 fun z hz=>hw z ?_
          simp only [DataW.weights,hu,List.mem_cons,List.mem_append]
          rcases k3 with k3 | k3
          ·exact .inr (.inl (tZ (List.mem_map_of_mem k3) hz))
          ·exact .inr (.inr (tZ (List.mem_map_of_mem k3) hz))
     | struct fs =>
       obtain ⟨xs,n,hm,rfl,hl,hxl,hget⟩:=DataW.trod_struct hu h
       cases hm
       refine .struct t fs _ hu (by simpa using hl) fun i f hf=>?_
       have h1:=hget i f hf
       have hi:i<fs.size:=(Array.getElem?_eq_some_iff.1 hf).1
       rw [List.getElem?_eq_getElem (by omega)] at h1
       rw [← List.map_drop,← List.map_take]
       refine ih _ _ _ h1 fun z hz=>hw z ?_
       simp only [DataW.weights,hu]
       refine xL _ _ i f.type _ (by simp [hf]) (by rw [List.getElem?_map,List.getElem?_eq_getElem (by omega)]; rfl) hz
     | array n e =>
       obtain ⟨xs,m',hm,rfl,hl,hxl,hget⟩:=DataW.trod_array hu h
       cases hm
       refine .array t e n _ hu (by simpa using hl) fun i hi=>?_
       have h1:=hget i hi
       rw [List.getElem?_eq_getElem (by omega)] at h1
       rw [← List.map_drop,← List.map_take]
       refine ih _ _ _ h1 fun z hz=>hw z ?_
       simp only [DataW.weights,hu]
       exact tZ (List.mem_map_of_mem (List.getElem_mem _)) hz
     | _=>exact .other _ _ (by rw [hu]; rfl)
end
section
variable {P:Program} {M:RM} {t:TypeId} {cs:List AV}
theorem Fits.ED (h:Fits P M t cs) {k:IntKind} (hu:P.underlying t=some (.int k)) : ∃ n:Int,cs=[N k n]∧k.min≤n∧n≤k.max:=by
 cases h with
 | int _ k' n h1 h2 h3=>rw [hu] at h1; cases h1; exact ⟨n,rfl,h2,h3⟩
 | _=>simp_all [DD]
theorem Fits.KJ (h:Fits P M t cs) (hu:P.underlying t=some .string) : ∃ s,cs=[St s]∧s.length≤reachBytes:=by
 cases h with
 | str _ s h1 h2=>exact ⟨s,rfl,h2⟩
 | _=>simp_all [DD]
theorem Fits.IA (h:Fits P M t cs) {fs:Array Field} (hu:P.underlying t=some (.struct fs)) : cs.length=P.cellsOf t∧∀ (i:Nat) (f:Field),fs[i]?=some f→Fits P M f.type ((cs.drop f.offset).take (P.cellsOf f.type)):=by
 cases h with
 | struct _ fs' _ h1 h2 h3=>rw [hu] at h1; cases h1; exact ⟨h2,h3⟩
 | _=>simp_all [DD]
theorem Fits.DR (h:Fits P M t cs) {e:TypeId} (hu:P.underlying t=some (.slice e)) (hz:0<P.cellsOf e) :
  ∃ v n ds,cs=[v]∧aM M (P.cellsOf e) v ds n∧n * P.bytesOf e≤reachBytes∧∀ i,i<n→Fits P M e ((ds.drop (i * P.cellsOf e)).take (P.cellsOf e)):=by
 cases h with
 | nils _ e' h1=>exact ⟨_,0,[],rfl,.nil,by simp,fun i hi=>absurd hi (by omega)⟩
 | emp _ e' b h1=>exact ⟨_,0,[],rfl,.emp b,by simp,fun i hi=>absurd hi (by omega)⟩
 | slc _ e' b o n c ds h1 h2 h3 h4 h5 h6 =>
   rw [hu] at h1; cases h1
   exact ⟨_,n,ds,rfl,.slc b o n _ ds h2 h5,Nat.le_trans (Nat.mul_le_mul_right _ h3) h4,h6⟩
 | zero _ e' _ h1 h2=>rw [hu] at h1; cases h1; omega
 | _=>simp_all [DD]
theorem Ef {α:Type} {size:Nat} (enc:α→List AV) (p:α→Prop) (hs:∀ a,(enc a).length=size) : ∀ (n:Nat) (ds:List AV),ds.length=n * size→(∀ i,i<n→∃ a,p a∧(ds.drop (i * size)).take size=enc a) →
  ∃ xs:List α,xs.length=n∧ds=xs.flatMap enc∧∀ x∈xs,p x
 | 0,ds,hl,_=>⟨[],rfl,by simpa using hl,by simp⟩
 | n + 1,ds,hl,h=>by
   obtain ⟨a,pa,ha⟩:=h 0 (by omega)
   simp only [Nat.zero_mul,List.drop_zero] at ha
   have hl' : (ds.drop size).length=n * size:=by rw [List.length_drop,hl,Nat.succ_mul]; omega
   obtain ⟨xs,h1,h2,h3⟩:=Ef enc p hs n (ds.drop size) hl' fun i hi=>by
    obtain ⟨b,pb,hb⟩:=h (i + 1) (by omega)
    refine ⟨b,pb, ?_⟩
    rw [List.drop_drop,← hb,Nat.succ_mul,Nat.add_comm]
   refine ⟨a :: xs,by simp [h1], ?_,fun x hx=>?_⟩
   ·rw [List.flatMap_cons,← h2,← ha,List.take_append_drop]
   ·rcases List.mem_cons.1 hx with rfl | hx
    ·exact pa
    ·exact h3 x hx
end
def Kc (P:Program) (t:TypeId) : Bool :=
 match P.underlying t with
 | some (.struct _) | some (.array _ _)=>true
 | _=>false
def rO (P:Program) (M:RM) (t:TypeId) (v:AV) : Prop :=
 match Kc P t with
 | true=>∃ cs,v=.agg cs∧Fits P M t cs
 | false=>Fits P M t [v]
theorem rO.agg {P:Program} {M:RM} {t:TypeId} {v:AV} (h:rO P M t v) (ha:Kc P t=true) : ∃ cs,v=.agg cs∧Fits P M t cs:=by
 unfold rO at h; rw [ha] at h; exact h
theorem rO.one {P:Program} {M:RM} {t:TypeId} {v:AV} (h:rO P M t v) (ha:Kc P t=false) : Fits P M t [v]:=by
 unfold rO at h; rw [ha] at h; exact h
section
variable {H:Type} {enc:TypeId × Value→H} {P:Program} {base:Base} {w:World}
theorem NJ {r:Reach} {b:Nat} {t:TypeId} {cs:Array Value} (h:Cell.okWide P w r b t (.agg cs)) : False:=by
 unfold Cell.okWide at h
 split at h <;> first | (rename_i e _; cases e; done) | skip
 all_goals first | (rename_i e; cases e; done) | skip
 unfold Cell.ok at h
 split at h <;> first | exact h | simp_all
theorem Xv (hn:base.n=w.heap.size) {r:Reach} {b:Nat} {held:Bool} {t:TypeId} {v:Value} {d:DataW H} {ps:List MemPlace} (hv:Value.okWide P w r b t v) (h:DataW.Trod enc P w 0 (fun _=>true) held t v d ps)
  (hw:∀ y∈d.weights P t,y≤reachBytes) : rO P (RM.old base w) t (wT base.n v):=by
 obtain ⟨fuel,hf⟩:=h
 have hfit:=Ol hn fuel t _ _ hf hw
 unfold rO
 cases ha:Kc P t with
 | true =>
   have:∃ cs,v=.agg cs:=by
    unfold Value.okWide at hv
    unfold Kc at ha
    split at hv
    ·obtain ⟨cs,h,_⟩:=hv; exact ⟨cs,h⟩
    ·obtain ⟨cs,h,_⟩:=hv; exact ⟨cs,h⟩
    ·split at ha <;> simp_all
   obtain ⟨cs,rfl⟩:=this
   exact ⟨_,rfl,hfit⟩
 | false =>
   have hc:Cell.okWide P w r b t v:=by
    unfold Value.okWide at hv
    unfold Kc at ha
    split at hv
    ·simp_all
    ·simp_all
    ·exact hv
   have:v.cells.toList=[v]∧wT base.n v=qI base.n v:=by
    cases v with
    | agg cs=>exact (NJ hc).elim
    | _=>exact ⟨rfl,rfl⟩
   rw [this.1] at hfit
   rw [this.2]
   exact hfit
theorem PE (hn:base.n=w.heap.size) {r:Reach} {b:Nat} {held:Bool} : ∀ {ts:List TypeId} {vs:List Value} {ds:List (DataW H)} {ps:List MemPlace},DataW.TrodAll enc P w 0 (fun _=>true) held ts vs ds ps →
  (∀ (j:Nat) t v,ts[j]?=some t→vs[j]?=some v→Value.okWide P w r b t v)→(∀ y∈DataW.weightsEach P ts ds,y≤reachBytes) →
  ∀ (j:Nat) t v,ts[j]?=some t→vs[j]?=some v→rO P (RM.old base w) t (wT base.n v)
 | [],_,_,_,_,_,_,j,t,v,h,_=>by simp at h
 | t0 :: ts,vs,ds,ps,h,hv,hw,j,t,v,hj,hvj=>by
   cases vs with
   | nil=>simp at hvj
   | cons v0 vs =>
   cases ds with
   | nil=>exact h.elim
   | cons d ds =>
   obtain ⟨p,q,h1,h2,_⟩:=h
   cases j with
   | zero =>
     simp at hj hvj; subst hj hvj
     exact Xv hn (hv 0 _ _ rfl rfl) h1 fun y hy=>hw y (by simp [DataW.weightsEach,hy])
   | succ j =>
     exact PE hn h2 (fun j t v a b=>hv (j + 1) t v (by simpa using a) (by simpa using b)) (fun y hy=>hw y (by simp [DataW.weightsEach,hy])) j t v (by simpa using hj) (by simpa using hvj)
theorem Cb (hl:laidOutB P=true) {W W' : World} {sp:Nat→Bool} (hb:Below W.heap.size W W') : ∀ {ts:List TypeId} {vs:List Value} {ds:List (DataW H)} {ps:List MemPlace},
  (∀ t∈ts,P.readableRec t=true∧t<P.types.size)→DataW.TrodAll enc P W 0 (fun _=>true) true ts vs ds ps→(∀ p∈ps,p.block<W.heap.size)→(∀ p∈ps,sp p.block=true)→DataW.TrodAll enc P W' 0 sp true ts vs ds ps
 | [],vs,ds,ps,_,h,_,_=>by
   cases vs <;> cases ds <;> first | exact h | exact h.elim
 | t :: ts,vs,ds,ps,hr,h,hlt,hsp=>by
   cases vs with
   | nil=>cases ds <;> exact h.elim
   | cons v vs =>
   cases ds with
   | nil=>exact h.elim
   | cons d ds =>
   obtain ⟨p,q,h1,h2,rfl⟩:=h
   have hrt:=hr t (List.mem_cons_self ..)
   exact ⟨p,q,WideElems.Trod_stays hl hrt.1 hrt.2 h1 (fun x hx=>hb.same (hlt x (List.mem_append_left _ hx))) (fun x hx=>hsp x (List.mem_append_left _ hx)),
    Cb hl hb (fun t ht=>hr t (List.mem_cons_of_mem _ ht)) h2 (fun x hx=>hlt x (List.mem_append_right _ hx)) (fun x hx=>hsp x (List.mem_append_right _ hx)),rfl⟩
end
end Go.Ab
set_option linter.unusedVariables false
set_option linter.unusedSimpArgs false
namespace Go.Ab
open Go Go.RowKit
def RB.cells (lo:Nat) : RB→Option (List AV)
 | .row l _ _ _=>some l
 | .ro c=>some (c.toList.map (qI lo))
 | _=>none
@[go_sem] theorem RB.x9 (lo:Nat) (l:List AV) (p:Bool) (e f:Nat) : RB.cells lo (.row l p e f)=some l:=rfl
theorem RM.Gd (M:RM) (b:Nat) : M.cells b=(M.heap b).bind (RB.cells M.lo):=by
 unfold RM.cells RB.cells
 cases M.heap b with
 | none=>rfl
 | some x=>cases x <;> rfl
def wC (l:Option (List AV)) (o k:Nat) : Option (List AV) :=
 match l with
 | some l=>if o + k≤l.length then some ((l.drop o).take k) else none
 | none=>none
@[go_sem] theorem aaD (l:List AV) (o k:Nat) : wC (some l) o k=if o + k≤l.length then some ((l.drop o).take k) else none:=rfl
theorem RM.Hz (M:RM) (b o k:Nat) : M.loads b o k=wC (M.cells b) o k:=rfl
section
variable {M M' : RM}
@[go_sem] theorem RM.U5 (x:RB) (c:Nat) : (M.push x).heap c=if c=M.next then some x else M.heap c:=rfl
@[go_sem] theorem RM.heap_put (b:Nat) (x:RB) (c:Nat) : (M.put b x).heap c=if c=b then some x else M.heap c:=rfl
@[go_sem] theorem RM.acm (b:Nat) (c:Nat) : (M.del b).heap c=if c=b then none else M.heap c:=rfl
@[go_sem] theorem RM.aa8 (x:RB) : (M.push x).base=M.base:=rfl
@[go_sem] theorem RM.acA (b:Nat) (x:RB) : (M.put b x).base=M.base:=rfl
@[go_sem] theorem RM.ab8 (b:Nat) : (M.del b).base=M.base:=rfl
theorem RM.Ir (x:RB) (c:Nat) : (M.push x).cells c=if c=M.next then x.cells M.lo else M.cells c:=by
 simp only [RM.Gd,RM.U5]
 split <;> rfl
theorem RM.Lh (b:Nat) (x:RB) (c:Nat) : (M.put b x).cells c=if c=b then x.cells M.lo else M.cells c:=by
 simp only [RM.Gd,RM.heap_put]
 split <;> rfl
@[go_sem] theorem RM.abk (x:RB) (c o:Nat) : (M.push x).cell c o=if c=M.next then (x.cells M.lo).bind (·[o]?) else M.cell c o:=by
 simp only [RM.cell,RM.Ir]
 split <;> rfl
@[go_sem] theorem RM.acD (b:Nat) (x:RB) (c o:Nat) : (M.put b x).cell c o=if c=b then (x.cells M.lo).bind (·[o]?) else M.cell c o:=by
 simp only [RM.cell,RM.Lh]
 split <;> rfl
@[go_sem] theorem RM.aaX (x:RB) (c o k:Nat) : (M.push x).loads c o k=if c=M.next then wC (x.cells M.lo) o k else M.loads c o k:=by
 simp only [RM.Hz,RM.Ir]
 split <;> rfl
@[go_sem] theorem RM.abj (b:Nat) (x:RB) (c o k:Nat) : (M.put b x).loads c o k=if c=b then wC (x.cells M.lo) o k else M.loads c o k:=by
 simp only [RM.Hz,RM.Lh]
 split <;> rfl
def pq (l:List AV) (fz o:Nat) (vs:List AV) : Option (List AV) :=
 if o + vs.length≤l.length∧fz≤o∧vs.all oneCell=true then some (l.take o++vs++l.drop (o + vs.length)) else none
theorem oF {l vs:List AV} {fz o:Nat} (h1:o + vs.length≤l.length) (h2:fz≤o) (h3:vs.all oneCell=true) : pq l fz o vs=some (l.take o++vs++l.drop (o + vs.length)):=if_pos ⟨h1,h2,h3⟩
@[go_sem] theorem Mh {l vs:List AV} (h:vs.length=l.length) (h3:vs.all oneCell=true) : pq l 0 0 vs=some vs:=by
 rw [oF (by omega) (Nat.le_refl _) h3]
 simp [h]
theorem RM.yc {b o:Nat} {vs l:List AV} {p:Bool} {e f:Nat} (h:M.heap b=some (.row l p e f)) : M.stores b o vs=(pq l f o vs).map fun l'=>M.put b (.row l' p e f):=by
 simp only [RM.stores,h,pq]
 split <;> rfl
theorem RM.WQ {x y:RB} : (M.push x).put M.next y=M.push y:=by
 simp only [RM.put,RM.push]
 congr 1
 funext c
 split <;> rfl
theorem RM.Ny {x y:RB} {b:Nat} (hb:b≠M.next) : (M.push x).put b y=(M.put b y).push x:=by
 simp only [RM.put,RM.push]
 congr 1
 funext c
 by_cases h1:c=b
 ·subst h1; simp [hb]
 ·simp [h1]
theorem RM.IX {l vs:List AV} {p:Bool} {e f o:Nat} : (M.push (.row l p e f)).stores M.next o vs=(pq l f o vs).map fun l'=>M.push (.row l' p e f):=by
 rw [RM.yc (RM.aR _)]
 congr 1
 funext l'
 exact RM.WQ
theorem RM.Il {M:RM} {b o:Nat} {vs:List AV} : M.stores b o vs=match M.heap b with
  | some (.row l p e f)=>(pq l f o vs).map fun l'=>M.put b (.row l' p e f)
  | _=>none:=by
 cases h:M.heap b with
 | none=>simp [RM.stores,h]
 | some x =>
   cases x with
   | row l p e f=>rw [RM.yc h]
   | _=>simp [RM.stores,h]
@[go_sem] theorem RM.Ic {x:RB} {vs:List AV} {c o:Nat} (hc:c≠M.next) : (M.push x).stores c o vs=(M.stores c o vs).map (·.push x):=by
 rw [RM.Il,RM.Il,RM.Xu hc]
 split
 ·simp only [Option.map_map]
  congr 1
  funext l'
  exact RM.Ny hc
 ·rfl
@[go_sem] theorem RM.aaG {l vs:List AV} {p:Bool} {e f c o:Nat} : (M.push (.row l p e f)).stores c o vs =
  if c=M.next then (pq l f o vs).map fun l'=>M.push (.row l' p e f) else (M.stores c o vs).map (·.push (.row l p e f)):=by
 split
 ·rename_i h; subst h; exact RM.IX
 ·rename_i h; exact RM.Ic h
@[go_sem] theorem RM.Yn {b o:Nat} {l vs:List AV} {p:Bool} {e f:Nat} : (M.put b (.row l p e f)).stores b o vs=(pq l f o vs).map fun l'=>M.put b (.row l' p e f):=by
 rw [RM.yc (RM.uo _ _)]
 congr 1
 funext l'
 simp only [RM.put]
 congr 1
 funext c
 split <;> rfl
@[go_sem] theorem acJ {α:Type} (a:α) (K:α→Prop) : (∃ x,some a=some x∧K x)=K a:=by simp
@[go_sem] theorem aaH {α β:Type} (f:α→β) (x:α) : (some x).map f=some (f x):=rfl
attribute [go_sem] Int.natCast_nonneg Int.toNat_natCast Nat.mul_one true_implies false_implies Bool.false_eq_true Bool.true_eq_false Bool.not_true Bool.not_false Bool.and_self Bool.and_true Bool.true_and Nat.le_refl List.append_nil List.nil_append if_true if_false Nat.lt_irrefl Nat.add_one_ne_zero true_and and_true Nat.zero_add Nat.add_zero List.drop_zero List.getElem?_cons_zero List.getElem?_cons_succ Option.bind_some List.take_succ_cons List.take_zero List.drop_succ_cons List.drop_nil List.take_nil
attribute [go_sem] gJ List.all_cons List.all_nil List.length_cons List.length_nil
@[go_sem] theorem aa6 (cs:List AV) : (AV.agg cs).cells=cs:=rfl
@[go_sem] theorem ab0 (v:Value) : (AV.sc v).cells=[.sc v]:=rfl
@[go_sem] theorem abo (b o:Nat) : (AV.ptr b o).cells=[.ptr b o]:=rfl
@[go_sem] theorem abd (b o n:Nat) (c:Cap) : (AV.slc b o n c).cells=[.slc b o n c]:=rfl
@[go_sem] theorem abl (b:Nat) : (AV.emp b).cells=[.emp b]:=rfl
@[go_sem] theorem aba (b:Nat) : (AV.map b).cells=[.map b]:=rfl
@[go_sem] theorem acv (f:Fn) (xs ys:List AV) : (AV.fn f xs ys).cells=[.fn f xs ys]:=rfl
@[go_sem] theorem O5 (v:Value) : oneCell (.sc v)=true:=rfl
@[go_sem] theorem acI (b o:Nat) : oneCell (.ptr b o)=true:=rfl
@[go_sem] theorem acM (b o n:Nat) (c:Cap) : oneCell (.slc b o n c)=true:=rfl
@[go_sem] theorem acK (b:Nat) : oneCell (.emp b)=true:=rfl
@[go_sem] theorem acN (b:Nat) : oneCell (.map b)=true:=rfl
@[go_sem] theorem acV (f:Fn) (xs ys:List AV) : oneCell (.fn f xs ys)=true:=rfl
end
theorem RM.WO {M:RM} {b:Nat} {l:List AV} {p:Bool} {e f:Nat} (h:M.heap b=some (.row l p e f)) (o k:Nat) : M.loads b o k=wC (some l) o k:=by rw [RM.Hz,RM.x9 h]
theorem RM.cell_of {M:RM} {b:Nat} {l:List AV} {p:Bool} {e f:Nat} (h:M.heap b=some (.row l p e f)) (o:Nat) : M.cell b o=l[o]?:=RM.WM h
theorem RM.uP {M:RM} {b:Nat} {l:List AV} {p:Bool} {e f:Nat} (h:M.heap b=some (.row l p e f)) (o:Nat) (vs:List AV) : M.stores b o vs=(pq l f o vs).map fun l'=>M.put b (.row l' p e f):=RM.yc h
theorem ah.aO {bs:List Nat} {M M' : RM} (h:ah bs M M') {b:Nat} {x:RB} (hh:M.heap b=some x) (hlt:b<M.next) (hb:b ∉ bs) : M'.heap b=some x:=by rw [h.heap b hlt hb,hh]
end Go.Ab
set_option linter.unusedVariables false
set_option linter.unusedSimpArgs false
namespace Go.Ab
open Go Go.RowKit
def Tk (tab run:gq) : gq:=fun f args A=>match tab f args A with
 | some r=>some r
 | none=>run f args A
def EM (P:Program) (X:Ext) (tab:gq) (L:Nat) : Nat→gq
 | 0,_,_,_=>none
 | n + 1,f,args,A=>match has X.split f with
   | true=>OD (MC P X L (Tk tab (EM P X tab L n))) f args A
   | false=>MC P X L (Tk tab (EM P X tab L n)) f args A
inductive Ans where
 | val (v:AV)
 | rows (n:Nat) (v:AV) (bs:List (Nat × cB)) (n' : Nat)
structure aL where
 args:List AV
 fp:List (Nat × cB):=[]
 dead:List Nat:=[]
 nx:Nat:=0
 ans:Ans
def uX:Tree cB→List (Nat × cB)→Tree cB
 | t,[]=>t
 | t,(b,x) :: r=>uX (t.set b x) r
def Em:Tree cB→List Nat→Tree cB
 | t,[]=>t
 | t,b :: r=>Em (t.del b) r
def EO (A:AW) : List (Nat × cB)→Bool
 | []=>true
 | (b,x) :: r=>match A.heap.get b with
   | some y=>Bt x y && EO A r
   | none=>false
def Xc (A:AW) (e:aL) : Option (AV × AW) :=
 match EO A e.fp with
 | false=>none
 | true=>match e.ans with
   | .val v=>some (v,A)
   | .rows n v bs n'=>match Nat.beq n A.next with
     | true=>some (v,{ next:=n',heap:=uX (Em A.heap e.dead) bs })
     | false=>none
def EE:List aL→List AV→AW→Option (AV × AW)
 | [],_,_=>none
 | e :: es,args,A=>match qp e.args args with
   | true=>match Xc A e with
     | some r=>some r
     | none=>EE es args A
   | false=>EE es args A
abbrev Table:=List (Nat × List aL)
def A8:Table→gq
 | [],_,_,_=>none
 | (g,es) :: T,f,args,A=>match Nat.beq g f with
   | true=>match EE es args A with
     | some r=>some r
     | none=>A8 T f args A
   | false=>A8 T f args A
def Ij:List Nat→Nat→Bool
 | [],_=>false
 | k :: ks,b=>match Nat.beq k b with
   | true=>true
   | false=>Ij ks b
mutual
def within (ks:List Nat) : AV→Bool
 | .sc _ | .top | .atl _=>true
 | .ptr b _ | .slc b _ _ _ | .emp b | .map b=>Ij ks b
 | .fn _ xs ys=>nL ks xs && nL ks ys
 | .ifc _ x=>within ks x
 | .agg xs | .tup xs=>nL ks xs
def nL (ks:List Nat) : List AV→Bool
 | []=>true
 | x :: xs=>within ks x && nL ks xs
end
theorem oH {b:Nat} : ∀ {ks:List Nat},Ij ks b=true↔b∈ks
 | []=>by simp [Ij]
 | k :: ks=>by
   simp only [Ij]
   split
   ·rename_i h
    simp [bJ h]
   ·rename_i h
    rw [oH,List.mem_cons]
    constructor
    ·exact .inr
    ·rintro (e | e)
     ·exact absurd e.symm (yg h)
     ·exact e
mutual
theorem oQ {ρ ρ' : Ren} {ks:List Nat} (hk:∀ b∈ks,∀ i,ρ b=some i→ρ' b=some i) : ∀ (x:AV) {v:Value},within ks x=true→aB ρ x v→aB ρ' x v
 | .top,v,_,_=>.top v
 | .atl k,v,_,hr=>by cases hr; exact .atl _ _ (by assumption)
 | .sc u,v,_,hr=>by cases hr; exact .sc _ (by assumption)
 | .ptr b o,v,h,hr=>by
   simp only [within] at h
   cases hr with
   | ptr _ _ i e=>exact .ptr _ _ i (hk b (oH.1 h) i e)
 | .slc b o l c,v,h,hr=>by
   simp only [within] at h
   cases hr with
   | slcS _ _ _ c i e=>exact .slcS _ _ _ c i (hk b (oH.1 h) i e)
   | slcO _ k _ i e q=>exact .slcO _ k _ i (hk b (oH.1 h) i e) q
 | .emp b,v,h,hr=>by
   simp only [within] at h
   cases hr with
   | emp _ a c=>exact .emp _ a c
 | .map b,v,h,hr=>by
   simp only [within] at h
   cases hr with
   | map _ i e=>exact .map _ i (hk b (oH.1 h) i e)
 | .fn f xs ys,v,h,hr=>by
   simp only [within,Bool.and_eq_true] at h
   cases hr with
   | fn _ _ _ us vs p a b=>exact .fn f xs ys us vs p (nM hk xs h.1 a) (nM hk ys h.2 b)
 | .ifc t x,v,h,hr=>by
   simp only [within] at h
   cases hr with
   | ifc _ _ v a=>exact .ifc t x v (oQ hk x h a)
 | .agg xs,v,h,hr=>by
   simp only [within] at h
   cases hr with
   | agg _ vs a=>exact .agg xs vs (nM hk xs h a)
 | .tup xs,v,h,hr=>by
   simp only [within] at h
   cases hr with
   | tup _ vs a=>exact .tup xs vs (nM hk xs h a)
theorem nM {ρ ρ' : Ren} {ks:List Nat} (hk:∀ b∈ks,∀ i,ρ b=some i→ρ' b=some i) : ∀ (xs:List AV) {vs:List Value},nL ks xs=true→bz ρ xs vs→bz ρ' xs vs
 | [],vs,_,hr=>by cases hr; exact .nil
 | x :: xs,vs,h,hr=>by
   simp only [nL,Bool.and_eq_true] at h
   cases hr with
   | cons _ v _ vs a b=>exact .cons x v xs vs (oQ hk x h.1 a) (nM hk xs h.2 b)
end
def zW (p:AV→Bool) : Tree AV→Bool
 | .leaf=>true
 | .node l v r=>(match v with
   | some x=>p x
   | none=>true) && zW p l && zW p r
theorem yB {p:AV→Bool} : ∀ {t:Tree AV} {k:Nat} {x:AV},zW p t=true→t.get k=some x→p x=true
 | .leaf,k,x,_,h=>by simp [Tree.get] at h
 | .node l v r,k,x,ha,h=>by
   simp only [zW,Bool.and_eq_true] at ha
   simp only [Tree.get] at h
   split at h
   ·rw [h] at ha; exact ha.1.1
   ·split at h
    ·exact yB ha.1.2 h
    ·exact yB ha.2 h
def Ip (ks:List Nat) : List (AV × AV × Nat)→Bool
 | []=>true
 | (k,v,_) :: es=>within ks k && within ks v && Ip ks es
def Mv (ks:List Nat) : cB→Bool
 | .row _ t zs _ _ _=>zW (within ks) t && nL ks zs
 | .map es _=>Ip ks es
 | .iter m _ _ _=>match m with
   | some b=>Ij ks b
   | none=>true
 | .siter _ _=>true
theorem Fu {ks:List Nat} : ∀ {xs:List AV},nL ks xs=true→∀ x∈xs,within ks x=true
 | [],_,x,h=>by cases h
 | y :: ys,h,x,hx=>by
   simp only [nL,Bool.and_eq_true] at h
   rcases List.mem_cons.1 hx with e | hx
   ·rw [e]; exact h.1
   ·exact Fu h.2 x hx
theorem Rf {β:Type} : ∀ {l:List β} {n:Nat} {x:β},nth l n=some x→x∈l
 | [],_,_,h=>by simp [nth] at h
 | y :: ys,0,x,h=>by simp [nth] at h; simp [h]
 | y :: ys,n + 1,x,h=>by
   simp only [nth] at h
   exact List.mem_cons_of_mem _ (Rf h)
theorem Vp {tree:Tree AV} {zs:List AV} {n k:Nat} {x:AV} (h:cellAt tree zs n k=some x) : tree.get k=some x∨x∈zs:=by
 unfold cellAt at h
 split at h
 ·cases h
 ·split at h
  ·rename_i v hv
   cases h
   exact .inl hv
  ·split at h
   ·cases h
   ·cases h
    exact .inr (List.mem_cons_self ..)
   ·exact .inr (Rf h)
theorem eB.restrict {ρ ρ' : Ren} {ks:List Nat} (hk:∀ b∈ks,∀ i,ρ b=some i→ρ' b=some i) : ∀ {es:List (AV × AV × Nat)} {fs:List MapEntry},Ip ks es=true→eB ρ es fs→eB ρ' es fs
 | [],[],_,_=>trivial
 | [],_ :: _,_,h=>h.elim
 | _ :: _,[],_,h=>h.elim
 | (a,b,n) :: es,f :: fs,h,⟨h1,h2,h3,h4⟩=>by
   simp only [Ip,Bool.and_eq_true] at h
   exact ⟨oQ hk a h.1.1 h1,oQ hk b h.1.2 h2,h3,eB.restrict hk h.2 h4⟩
theorem jk.restrict {P:Program} {ρ ρ' : Ren} {ks:List Nat} (hk:∀ b∈ks,∀ i,ρ b=some i→ρ' b=some i) {i:iE} : ∀ {x:cB} {o:Obj},Mv ks x=true→jk P ρ i x o→jk P ρ' i x o
 | .row n t zs opn el fz,o,h,⟨c,fr,e,k⟩=>by
   simp only [Mv,Bool.and_eq_true] at h
   refine ⟨c,fr,e,k.size,fun j x hx=>?_,k.free,k.mark,k.opn,k.sh0⟩
   obtain ⟨v,h1,h2⟩:=k.val j x hx
   refine ⟨v,h1,oQ hk x ?_ h2⟩
   rcases Vp hx with hx | hx
   ·exact yB h.1 hx
   ·exact Fu h.2 x hx
 | .map es clock,o,h,⟨fs,e,k⟩=>⟨fs,e,eB.restrict hk h k⟩
 | .iter m since seen st,o,h,⟨m',e,k⟩=>by
   refine ⟨m',e, ?_⟩
   cases m with
   | none=>exact k
   | some b =>
     obtain ⟨j,h1,h2⟩:=k
     exact ⟨j,hk b (oH.1 h) j h1,h2⟩
 | .siter s pos,o,h,k=>k
section
variable {P:Program} {X:Ext}
theorem Je {base:Base} {tab run:gq} (ht:jY P base tab) (hr:jY P base run) : jY P base (Tk tab run):=by
 intro f args A v A' h
 unfold Tk at h
 split at h
 ·rename_i r hr'
  cases h
  exact ht f args A v A' hr'
 ·exact hr f args A v A' h
theorem yK {base:Base} (hng:Ck P X) (hm:P.follows .mixedOrders=true) {tab:gq} (ht:jY P base tab) (L:Nat) : ∀ n,jY P base (EM P X tab L n)
 | 0=>by intro f args A v A' h; simp [EM] at h
 | n + 1=>by
   intro f args A v A' h
   simp only [EM] at h
   split at h
   ·exact Py (FU hng hm L (Je ht (yK hng hm ht L n))) f args A v A' h
   ·exact FU hng hm L (Je ht (yK hng hm ht L n)) f args A v A' h
def kZ (P:Program) (I:World→Prop) (f:Nat) (e:aL) : Prop :=
 ∀ (base:Base),(∀ w,base.inv w→I w)→∀ A v A',Xc A e=some (v,A')→∀ (ρ:Ren) (w:World) (us:List Value),bz ρ e.args us→bN P base ρ A w→base≤w.heap.size →
   Calls P f ⟨us⟩ w fun r w'=>∃ ρ' v',r=.returned v'∧Step base A.next ρ w ρ' w'∧bN P base ρ' A' w'∧A.next≤A'.next∧aB ρ' v v'
def iT (P:Program) (I:World→Prop) (T:Table) : Prop:=∀ g∈T,∀ e∈g.2,kZ P I g.1 e
theorem yI {base:Base} {I:World→Prop} (hI:∀ w,base.inv w→I w) {f:Nat} : ∀ (es:List aL),(∀ e∈es,kZ P I f e)→∀ {args A v A'},EE es args A=some (v,A')→∀ (ρ:Ren) (w:World) (us:List Value),bz ρ args us→bN P base ρ A w→base≤w.heap.size →
  Calls P f ⟨us⟩ w fun r w'=>∃ ρ' v',r=.returned v'∧Step base A.next ρ w ρ' w'∧bN P base ρ' A' w'∧A.next≤A'.next∧aB ρ' v v'
 | [],_,args,A,v,A',h=>by simp [EE] at h
 | e :: es,hes,args,A,v,A',h=>by
   simp only [EE] at h
   split at h
   ·rename_i hq
    have hq:=nU _ _ hq
    subst hq
    split at h
    ·rename_i r hr
     cases h
     exact hes e (List.mem_cons_self ..) base hI A v A' hr
    ·exact yI hI es (fun e he=>hes e (List.mem_cons_of_mem _ he)) h
   ·exact yI hI es (fun e he=>hes e (List.mem_cons_of_mem _ he)) h
theorem y9 {base:Base} {I:World→Prop} (hI:∀ w,base.inv w→I w) : ∀ (T:Table),iT P I T→jY P base (A8 T)
 | [],_=>by intro f args A v A' h; simp [A8] at h
 | (g,es) :: T,hT=>by
   intro f args A v A' h
   have hrest:=y9 hI T (fun g hg=>hT g (List.mem_cons_of_mem _ hg))
   simp only [A8] at h
   split at h
   ·rename_i hq
    have hq:=bJ hq
    subst hq
    split at h
    ·rename_i r hr
     cases h
     exact yI hI es (hT (g,es) (List.mem_cons_self ..)) hr
    ·exact hrest g args A v A' h
   ·exact hrest f args A v A' h
theorem vL:∀ (bs:List (Nat × cB)) (t:Tree cB) {k:Nat} {x:cB},(uX t bs).get k=some x→(k,x)∈bs∨(t.get k=some x∧∀ y,(k,y) ∉ bs)
 | [],t,k,x,h=>.inr ⟨h,fun y hy=>by cases hy⟩
 | (b,y) :: r,t,k,x,h=>by
   simp only [uX] at h
   rcases vL r _ h with h | ⟨h,hn⟩
   ·exact .inl (List.mem_cons_of_mem _ h)
   ·rw [Tree.bI] at h
    split at h
    ·rename_i e
     cases h
     subst e
     exact .inl (List.mem_cons_self ..)
    ·rename_i hne
     refine .inr ⟨h,fun z hz=>?_⟩
     rcases List.mem_cons.1 hz with e | hz
     ·cases e; exact hne rfl
     ·exact hn z hz
theorem Ah:∀ (ds:List Nat) (t:Tree cB) {k:Nat} {x:cB},(Em t ds).get k=some x→t.get k=some x∧k ∉ ds
 | [],t,k,x,h=>⟨h,by simp⟩
 | d :: r,t,k,x,h=>by
   simp only [Em] at h
   obtain ⟨h1,h2⟩:=Ah r _ h
   rw [Tree.uj] at h1
   split at h1
   ·cases h1
   ·rename_i hne
    exact ⟨h1,by simp only [List.mem_cons,not_or]; exact ⟨hne,h2⟩⟩
theorem Ej {A:AW} : ∀ (l:List (Nat × cB)),EO A l=true→∀ b x,(b,x)∈l→A.heap.get b=some x
 | [],_,b,x,hm=>by cases hm
 | (c,y) :: r,h,b,x,hm=>by
   simp only [EO] at h
   split at h <;> first | (cases h; done) | skip
   rename_i z hz
   rw [Bool.and_eq_true] at h
   rcases List.mem_cons.1 hm with e | hm
   ·cases e
    rw [hz,wG h.1]
   ·exact Ej r h.2 b x hm
def keysOf:List (Nat × cB)→List Nat
 | []=>[]
 | (b,_) :: r=>b :: keysOf r
theorem Bv {b:Nat} : ∀ {l:List (Nat × cB)},b∈keysOf l↔∃ x,(b,x)∈l
 | []=>by simp [keysOf]
 | (c,y) :: r=>by
   simp only [keysOf,List.mem_cons,Bv (l:=r)]
   constructor
   ·rintro (e | ⟨x,h⟩)
    ·subst e; exact ⟨y,.inl rfl⟩
    ·exact ⟨x,.inr h⟩
   ·rintro ⟨x,h | h⟩
    ·cases h; exact .inl rfl
    ·exact .inr ⟨x,h⟩
def Sg (ks:List Nat) (n:Nat) : List (Nat × cB)→List Nat→Bool
 | [],_=>true
 | (b,x) :: r,seen=>Mv ks x && Nat.ble (b + 1) n && !Ij seen b && Sg ks n r (b :: seen)
theorem Ll {ks:List Nat} {n:Nat} : ∀ (l:List (Nat × cB)) (seen:List Nat),Sg ks n l seen=true→(∀ b x,(b,x)∈l→Mv ks x=true∧b<n∧b ∉ seen)∧∀ b x y,(b,x)∈l→(b,y)∈l→x=y
 | [],_,_=>⟨fun b x h=>(by cases h),fun b x y h=>(by cases h)⟩
 | (c,z) :: r,seen,h=>by
   simp only [Sg,Bool.and_eq_true,Bool.not_eq_true'] at h
   obtain ⟨⟨⟨h1,h2⟩,h3⟩,h4⟩:=h
   obtain ⟨i1,i2⟩:=Ll r (c :: seen) h4
   have hc:c ∉ seen:=fun hm=>by rw [oH.2 hm] at h3; cases h3
   refine ⟨fun b x hm=>?_,fun b x y hx hy=>?_⟩
   ·rcases List.mem_cons.1 hm with e | hm
    ·cases e; exact ⟨h1,bE h2,hc⟩
    ·obtain ⟨a1,a2,a3⟩:=i1 b x hm
     exact ⟨a1,a2,fun h=>a3 (List.mem_cons_of_mem _ h)⟩
   ·rcases List.mem_cons.1 hx with e | hx <;> rcases List.mem_cons.1 hy with f | hy
    ·cases e; cases f; rfl
    ·cases e
     exact absurd (List.mem_cons_self ..) (i1 _ _ hy).2.2
    ·cases f
     exact absurd (List.mem_cons_self ..) (i1 _ _ hx).2.2
    ·exact i2 b x y hx hy
def I5 (ks:List Nat) (n:Nat) (A:AW) : List (Nat × cB)→Bool
 | []=>true
 | (b,x) :: r=>(Nat.ble n b || Ij ks b) && (match A.heap.get b with
   | some y=>Bt x y
   | none=>false) && I5 ks n A r
def CK (A:AW) (gone:List Nat) : List (Nat × cB)→Bool
 | []=>true
 | (b,x) :: r=>(Ij gone b || (match A.heap.get b with
   | some y=>Bt x y
   | none=>false)) && CK A gone r
def zP (e:aL) : Nat:=match e.ans with
 | .val _=>e.nx
 | .rows m _ _ _=>m
def HZ (P:Program) (X:Ext) (tab:gq) (L n:Nat) (f:Nat) (e:aL) : Bool :=
 match nL (keysOf e.fp) e.args && Sg (keysOf e.fp) (zP e) e.fp [] with
 | false=>false
 | true=>match EM P X tab L n f e.args { next:=zP e,heap:=uX .leaf e.fp } with
   | none=>false
   | some (v',A')=>match e.ans with
     | .val v=>within [] v && nD v' v && CK A' [] e.fp
     | .rows _ v bs m'=>nD v' v && Nat.beq A'.next m' && I5 (keysOf e.fp) (zP e) A' bs && CK A' (keysOf bs++e.dead) e.fp
theorem Fp {ks:List Nat} {n:Nat} {A:AW} : ∀ (bs:List (Nat × cB)),I5 ks n A bs=true→∀ b x,(b,x)∈bs→(n≤b∨b∈ks)∧A.heap.get b=some x
 | [],_,b,x,hm=>by cases hm
 | (c,y) :: r,h,b,x,hm=>by
   simp only [I5,Bool.and_eq_true] at h
   obtain ⟨⟨h1,h2⟩,h3⟩:=h
   rcases List.mem_cons.1 hm with e | hm
   ·cases e
    split at h2
    ·rename_i z hz
     rw [Bool.or_eq_true] at h1
     refine ⟨?_, ?_⟩
     ·rcases h1 with h1 | h1
      ·exact .inl (bE h1)
      ·exact .inr (oH.1 h1)
     ·rw [hz,wG h2]
    ·cases h2
   ·exact Fp r h3 b x hm
theorem zf {gone:List Nat} {A:AW} : ∀ (l:List (Nat × cB)),CK A gone l=true→∀ b x,(b,x)∈l→b∈gone∨A.heap.get b=some x
 | [],_,b,x,hm=>by cases hm
 | (c,y) :: r,h,b,x,hm=>by
   simp only [CK,Bool.and_eq_true] at h
   obtain ⟨h1,h3⟩:=h
   rcases List.mem_cons.1 hm with e | hm
   ·cases e
    rw [Bool.or_eq_true] at h1
    rcases h1 with h1 | h1
    ·exact .inl (oH.1 h1)
    ·split at h1
     ·rename_i z hz
      rw [hz,wG h1]
      exact .inr rfl
     ·cases h1
   ·exact zf r h3 b x hm
theorem bN.none {P:Program} {base:Base} {n:Nat} {w:World} (hi:base.inv w) : bN P base (fun _=>none) { next:=n,heap:=.leaf } w :=
 ⟨fun _ _ h=>(by cases h),fun _ _ _ h=>(by cases h),fun _ _ _ _ _ _ h=>(by cases h),fun _ _ h=>(by simp [Tree.get] at h),fun _ _ _ h=>(by cases h),hi⟩
def only (ρ:Ren) (ks:List Nat) : Ren:=fun b=>if b∈ks then ρ b else none
theorem nH {ρ:Ren} {ks:List Nat} {b:Nat} {i:iE} (h:only ρ ks b=some i) : b∈ks∧ρ b=some i:=by
 unfold only at h
 split at h
 ·exact ⟨‹_›,h⟩
 ·cases h
theorem zQ {ρ:Ren} {ks:List Nat} {b:Nat} (h:b∈ks) : only ρ ks b=ρ b:=by simp [only,h]
theorem JN (hng:Ck P X) (hm:P.follows .mixedOrders=true) {I:World→Prop} {tab:gq} (ht:∀ base:Base,(∀ w,base.inv w→I w)→jY P base tab) {L n f:Nat} {e:aL} (h:HZ P X tab L n f e=true) : kZ P I f e:=by
 unfold HZ at h
 split at h <;> first | (cases h; done) | skip
 rename_i hfl
 rw [Bool.and_eq_true] at hfl
 obtain ⟨hwi,hfp⟩:=hfl
 obtain ⟨hf1,hf2⟩:=Ll _ _ hfp
 split at h <;> first | (cases h; done) | skip
 rename_i v1 A1 hc
 intro base hI A v A' ha ρ w us hargs hw hb
 unfold Xc at ha
 split at ha <;> first | (cases ha; done) | skip
 rename_i hhas
 have hrow:=Ej _ hhas
 -- the blocks alone
 let ks:=keysOf e.fp
 have hks:∀ {b},b∈ks↔∃ x,(b,x)∈e.fp:=Bv
 have hto:∀ b∈ks,∀ i,ρ b=some i→only ρ ks b=some i:=fun b hb i h=>by rw [zQ hb]; exact h
 have hargs0:bz (only ρ ks) e.args us:=nM hto _ hwi hargs
 have hget0:∀ b x,(uX .leaf e.fp).get b=some x→(b,x)∈e.fp:=fun b x h=>by
  rcases vL _ _ h with h | ⟨h,_⟩
  ·exact h
  ·simp [Tree.get] at h
 have hw0:bN P base (only ρ ks) { next:=zP e,heap:=uX .leaf e.fp } w:=by
  refine ⟨fun b i h=>?_,fun b i x h hx=>?_,fun b b' i i' x x' h h' hx hx' he=>?_,fun b x hx=>?_,fun b i x h hx=>?_,hw.inv⟩
  ·obtain ⟨hbk,hbi⟩:=nH h
   obtain ⟨x,hx⟩:=hks.1 hbk
   exact ⟨(hf1 b x hx).2.1,(hw.dom b i hbi).2⟩
  ·obtain ⟨hbk,hbi⟩:=nH h
   have hm:=hget0 b x hx
   obtain ⟨o,ho,hrel⟩:=hw.blk b i x hbi (hrow b x hm)
   exact ⟨o,ho,hrel.restrict hto (hf1 b x hm).1⟩
  ·exact hw.sep _ _ _ _ _ _ (nH h).2 (nH h').2 (hrow _ _ (hget0 _ _ hx)) (hrow _ _ (hget0 _ _ hx')) he
  ·exact (hf1 b x (hget0 b x hx)).2.1
  ·exact hw.lo b i x (nH h).2 (hrow _ _ (hget0 _ _ hx))
 have hgone:∀ b i,b ∉ ks→ρ b=some i→∀ x,A.heap.get b=some x→∀ b0 i0,only ρ ks b0=some i0→i0.cb≠i.cb:=by
  intro b i hbk hbi x hx b0 i0 h0 he
  obtain ⟨h0k,h0i⟩:=nH h0
  obtain ⟨x0,hx0⟩:=hks.1 h0k
  exact hbk (hw.sep _ _ _ _ _ _ h0i hbi (hrow _ _ hx0) hx he▸h0k)
 have main:=yK hng hm (ht base hI) L n f _ _ _ _ hc (only ρ ks) w us hargs0 hw0 hb
 split at ha
 ·
  rename_i v0 hans
  cases ha
  rw [hans] at h
  dsimp only at h
  simp only [Bool.and_eq_true] at h
  obtain ⟨⟨h1,h2⟩,h3⟩:=h
  have hv1:=tO _ _ h2
  subst hv1
  have hkept:=zf _ h3
  refine main.mono fun r w' hR=>?_
  obtain ⟨ρ',v',rfl,hst,hwr,hnx,hv⟩:=hR
  have hback:∀ b∈ks,∀ i,ρ' b=some i→ρ b=some i:=fun b hbk i h=>by
   obtain ⟨x,hx⟩:=hks.1 hbk
   rw [hst.ext b (hf1 b x hx).2.1,zQ hbk] at h
   exact h
  refine ⟨ρ,v',rfl,⟨hst.os,hst.tape,hst.output,hst.size,fun c hc hun=>hst.frame c hc fun b i hbi=>hun b i (nH hbi).2,fun _ _=>rfl,fun b i h=>.inl ⟨b,i,h,rfl⟩,hst.low⟩,⟨fun b i h=>?_,fun b i x hbi hx=>?_,hw.sep,hw.top,hw.lo,hwr.inv⟩,Nat.le_refl _,oQ (ks:=[]) (fun b hb=>by cases hb) _ h1 hv⟩
  ·exact ⟨(hw.dom b i h).1,Nat.lt_of_lt_of_le (hw.dom b i h).2 hst.size⟩
  ·by_cases hbk:b∈ks
   ·obtain ⟨y,hy⟩:=hks.1 hbk
    have hxy:x=y:=by have:=hrow b y hy; rw [hx] at this; exact Option.some.inj this
    subst hxy
    rcases hkept b x hy with hg | hg
    ·cases hg
    ·have hρ' : ρ' b=some i:=by rw [hst.ext b (hf1 b x hy).2.1,zQ hbk]; exact hbi
     obtain ⟨o,ho,hrel⟩:=hwr.blk b i x hρ' hg
     exact ⟨o,ho,hrel.restrict hback (hf1 b x hy).1⟩
   ·obtain ⟨o,ho,hrel⟩:=hw.blk b i x hbi hx
    exact ⟨o,by rw [hst.frame _ (hw.dom b i hbi).2 (hgone b i hbk hbi x hx)]; exact ho,hrel⟩
 ·
  rename_i m v0 bs m' hans
  have hnext:zP e=m:=by unfold zP; rw [hans]
  rw [hans] at h
  dsimp only at h
  simp only [Bool.and_eq_true] at h
  obtain ⟨⟨⟨h1,h2⟩,h3⟩,h4⟩:=h
  have hv1:=tO _ _ h1
  have h2:=bJ h2
  subst hv1
  subst h2
  split at ha <;> first | (cases ha; done) | skip
  rename_i hn
  have hn:=bJ hn
  rw [hnext,hn] at main hw0 hf1 h3
  cases ha
  have hrows:=Fp bs h3
  have hkept:=zf _ h4
  refine main.mono fun r w' hR=>?_
  obtain ⟨ρ',v',rfl,hst,hwr,hnx,hv⟩:=hR
  dsimp only at hst hnx
  let ρ2:Ren:=fun b=>if b<A.next then ρ b else ρ' b
  have hlo:∀ b,b<A.next→ρ2 b=ρ b:=fun b h=>by simp [ρ2,h]
  have hhi:∀ b,A.next≤b→ρ2 b=ρ' b:=fun b h=>by simp only [ρ2]; rw [if_neg (by omega)]
  have hold:∀ b i,b<A.next→ρ' b=some i→b∈ks∧ρ b=some i:=fun b i h hbi=>by
   rw [hst.ext b h] at hbi
   exact nH hbi
  have hle1:ρ.le ρ2:=fun b i h=>by rw [hlo b (hw.dom b i h).1]; exact h
  have hle2:ρ'.le ρ2:=fun b i h=>by
   rcases Nat.lt_or_ge b A.next with h' | h'
   ·rw [hlo b h']; exact (hold b i h' h).2
   ·rw [hhi b h']; exact h
  -- a row of the outcome: changed or new; or as it was
  have hget:∀ b i x,ρ2 b=some i→(uX (Em A.heap e.dead) bs).get b=some x→(ρ' b=some i∧A1.heap.get b=some x)∨(b ∉ ks∧b<A.next∧ρ b=some i∧A.heap.get b=some x):=by
   intro b i x hbi hx
   rcases vL bs _ hx with hx | ⟨hx,hnb⟩
   ·obtain ⟨hwh,hx⟩:=hrows b x hx
    refine .inl ⟨?_,hx⟩
    rcases Nat.lt_or_ge b A.next with h' | h'
    ·rcases hwh with hwh | hwh
     ·omega
     ·rw [hst.ext b h',zQ hwh,← hlo b h']; exact hbi
    ·rw [← hhi b h']; exact hbi
   ·obtain ⟨hx,hnd⟩:=Ah _ _ hx
    have hbn:=hw.top b x hx
    rw [hlo b hbn] at hbi
    by_cases hbk:b∈ks
    ·obtain ⟨y,hy⟩:=hks.1 hbk
     have hxy:x=y:=by have:=hrow b y hy; rw [hx] at this; exact Option.some.inj this
     subst hxy
     rcases hkept b x hy with hg | hg
     ·rcases List.mem_append.1 hg with hg | hg
      ·obtain ⟨z,hz⟩:=Bv.1 hg
       exact absurd hz (hnb z)
      ·exact absurd hg hnd
     ·exact .inl ⟨by rw [hst.ext b hbn,zQ hbk]; exact hbi,hg⟩
    ·exact .inr ⟨hbk,hbn,hbi,hx⟩
  have hsepn:∀ b i x b' i' x',b ∉ ks→ρ b=some i→A.heap.get b=some x→ρ' b'=some i'→A1.heap.get b'=some x'→i.cb≠i'.cb:=by
   intro b i x b' i' x' hbk hbi hx hb' hx' he
   rcases hst.fresh b' i' hb' with ⟨b0,i0,h0,e0⟩ | hge
   ·exact hgone b i hbk hbi x hx b0 i0 h0 (by rw [e0,he])
   ·have:=(hw.dom b i hbi).2; omega
  refine ⟨ρ2,v',rfl,⟨hst.os,hst.tape,hst.output,hst.size,fun c hc hun=>hst.frame c hc fun b i hbi=>hun b i (nH hbi).2,fun b h=>hlo b h,fun b i h=>?_,hst.low⟩,⟨fun b i h=>?_,fun b i x h1 h2=>?_,fun b b' i i' x x' hb hb' hx hx' he=>?_,fun b x h=>?_,fun b i x h1 h2=>?_,hwr.inv⟩,hnx,hv.mono hle2⟩
  ·rcases Nat.lt_or_ge b A.next with h' | h'
   ·rw [hlo b h'] at h; exact .inl ⟨b,i,h,rfl⟩
   ·rw [hhi b h'] at h
    rcases hst.fresh b i h with ⟨b0,i0,h0,e0⟩ | hge
    ·exact .inl ⟨b0,i0,(nH h0).2,e0⟩
    ·exact .inr hge
  ·rcases Nat.lt_or_ge b A.next with h' | h'
   ·rw [hlo b h'] at h
    exact ⟨Nat.lt_of_lt_of_le (hw.dom b i h).1 hnx,Nat.lt_of_lt_of_le (hw.dom b i h).2 hst.size⟩
   ·rw [hhi b h'] at h
    exact hwr.dom b i h
  ·rcases hget b i x h1 h2 with ⟨g1,g2⟩ | ⟨g1,g2,g3,g4⟩
   ·obtain ⟨o,ho,hrel⟩:=hwr.blk b i x g1 g2
    exact ⟨o,ho,hrel.mono hle2⟩
   ·obtain ⟨o,ho,hrel⟩:=hw.blk b i x g3 g4
    exact ⟨o,by rw [hst.frame _ (hw.dom b i g3).2 (hgone b i g1 g3 x g4)]; exact ho,hrel.mono hle1⟩
  ·rcases hget b i x hb hx with ⟨g1,g2⟩ | ⟨g1,g2,g3,g4⟩ <;> rcases hget b' i' x' hb' hx' with ⟨k1,k2⟩ | ⟨k1,k2,k3,k4⟩
   ·exact hwr.sep _ _ _ _ _ _ g1 k1 g2 k2 he
   ·exact absurd he.symm (hsepn b' i' x' b i x k1 k3 k4 g1 g2)
   ·exact absurd he (hsepn b i x b' i' x' g1 g3 g4 k1 k2)
   ·exact hw.sep _ _ _ _ _ _ g3 k3 g4 k4 he
  ·rcases vL bs _ h with h | ⟨h,_⟩
   ·exact hwr.top b x (hrows b x h).2
   ·exact Nat.lt_of_lt_of_le (hw.top b x (Ah _ _ h).1) hnx
  ·rcases hget b i x h1 h2 with ⟨g1,g2⟩ | ⟨g1,g2,g3,g4⟩
   ·exact hwr.lo b i x g1 g2
   ·exact hw.lo b i x g3 g4
def jq (P:Program) (X:Ext) (T:Table) (L n:Nat) (B:Table) : Bool:=B.all fun g=>g.2.all (HZ P X (A8 T) L n g.1)
theorem iT.nil {I:World→Prop} : iT P I []:=fun g hg=>by cases hg
theorem iT.add (hng:Ck P X) (hm:P.follows .mixedOrders=true) {I:World→Prop} {T B:Table} (hT:iT P I T) {L n:Nat} (h:jq P X T L n B=true) : iT P I (B++T):=by
 intro g hg e he
 rcases List.mem_append.1 hg with hg | hg
 ·exact JN hng hm (fun base hI=>y9 hI T hT) (List.all_eq_true.1 (List.all_eq_true.1 h g hg) e he)
 ·exact hT g hg e he
open Go.WideShapes Go.ChangeShapes in
open Go.WideShapes Go.ChangeShapes in
end
end Go.Ab
set_option linter.unusedVariables false
set_option linter.unusedSimpArgs false
namespace Go.Ab
open Go Go.RowKit
structure Enc (α:Type) where
 size:Nat
 cells:α→List AV
 len:∀ a,(cells a).length=size
 one:∀ a,(cells a).all oneCell=true
section
variable {α:Type} (E:Enc α)
def Enc.row (xs:List α) : List AV:=xs.flatMap E.cells
theorem Enc.iH (x:α) (xs:List α) : E.row (x :: xs)=E.cells x++E.row xs:=rfl
theorem Enc.rJ (xs ys:List α) : E.row (xs++ys)=E.row xs++E.row ys:=by simp [Enc.row]
theorem Enc.row_one (x:α) : E.row [x]=E.cells x:=by simp [Enc.row]
theorem Enc.ed:∀ (xs:List α),(E.row xs).length=xs.length * E.size
 | []=>by simp [Enc.row]
 | x :: xs=>by rw [Enc.iH,List.length_append,E.len,Enc.ed xs,List.length_cons,Nat.succ_mul,Nat.add_comm]
theorem Enc.oK:∀ (xs:List α),(E.row xs).all oneCell=true
 | []=>by simp [Enc.row]
 | x :: xs=>by rw [Enc.iH,List.all_append,E.one,Enc.oK xs]; rfl
theorem Enc.uq:∀ (xs:List α) (i:Nat),(E.row xs).drop (i * E.size)=E.row (xs.drop i)
 | [],i=>by simp [Enc.row]
 | x :: xs,0=>by simp
 | x :: xs,i + 1=>by
   rw [Enc.iH,Nat.succ_mul,Nat.add_comm,← List.drop_drop,List.drop_left' (E.len x),Enc.uq xs i]
   rfl
theorem Enc.uk:∀ (xs:List α) (i:Nat),(E.row xs).take (i * E.size)=E.row (xs.take i)
 | [],i=>by simp [Enc.row]
 | x :: xs,0=>by simp [Enc.row]
 | x :: xs,i + 1=>by
   rw [Enc.iH,Nat.succ_mul,Nat.add_comm,List.take_append,List.take_of_length_le (by rw [E.len]; omega),E.len,Nat.add_sub_cancel_left,Enc.uk xs i]
   rfl
theorem Enc.Rs {xs:List α} {i:Nat} (hi:i<xs.length) : ((E.row xs).drop (i * E.size)).take E.size=E.cells xs[i]:=by
 rw [Enc.uq,List.drop_eq_getElem_cons hi,Enc.iH]
 rw [List.take_append_of_le_length (by rw [E.len]; exact Nat.le_refl _),List.take_of_length_le (by rw [E.len]; exact Nat.le_refl _)]
abbrev Sl (M:RM) (v:AV) (xs:List α) : Prop:=aM M E.size v (E.row xs) xs.length
abbrev Ow (M:RM) (base el:Nat) (v:AV) (xs:List α) : Prop:=Own M base el E.size v (E.row xs) xs.length
variable {E} {M M' : RM} {v:AV} {xs:List α}
theorem Sl.elem (h:Sl E M v xs) {i:Nat} (hi:i<xs.length) : ∃ b o,b<M.next∧b∈aF v∧(∀ (kd:IntKind) (K:AV→Prop),ax v (N kd (i:Int)) E.size K=K (.ptr b o))∧M.loads b o E.size=some (E.cells xs[i]):=by
 obtain ⟨b,o,cap,rfl,hb,hl⟩:=h.pos (by omega)
 have hsum:i * E.size + E.size≤xs.length * E.size:=by rw [← Nat.succ_mul]; exact Nat.mul_le_mul_right _ hi
 refine ⟨b,o + i * E.size,hb,by simp [aF],fun kd K=>?_, ?_⟩
 ·rw [lQ]
  simp only [Int.toNat_natCast]
  exact propext ⟨fun h=>h.2.2,fun h=>⟨by omega,by omega,h⟩⟩
 ·rw [uO hl (i * E.size) E.size hsum,E.Rs hi]
theorem Sl.at (h:Sl E M v xs) {i:Nat} (sz:Nat) (j:Int) (hi:i<xs.length) (hsz:E.size=sz:=by rfl) (hj:j=(i:Int):=by rfl) : ∃ b o,b<M.next∧b∈aF v∧(∀ (kd:IntKind) (K:AV→Prop),ax v (N kd j) sz K=K (.ptr b o))∧M.loads b o sz=some (E.cells xs[i]):=by
 subst hsz hj; exact h.elem hi
theorem ja {b o k:Nat} {cs:List AV} (h:M.loads b o k=some cs) {j:Nat} {x:AV} (hj:cs[j]?=some x) : M.cell b (o + j)=some x:=by
 have hlt:j<k:=by rw [← Dx h]; exact (List.getElem?_eq_some_iff.1 hj).1
 rw [VM h j hlt,hj]
theorem JI {b o k:Nat} {cs:List AV} (h:M.loads b o k=some cs) {x:AV} (hj:cs[0]?=some x) : M.cell b o=some x:=ja h hj
theorem oN {base T bytes:Nat} {zs:List AV} {u:AV} {ys:List α} {K:ai} (ho:Ow E M base T v xs) (hb:base≤M.next) (hs:1≤E.size) (hu:Sl E M u ys)
  (hn:(xs.length + ys.length) * bytes≤140737488355328) (hn2:xs.length + ys.length≤140737488355328)
  (hK:∀ v' M',Ow E M' base T v' (xs++ys)→ah (aF v) M M'→M.next≤M'.next→(v'=v∨∀ b∈aF v',M.next≤b)→K v' M') :
  appW T E.size bytes zs false v u M K:=by
 refine nI ho hb hs (aM.kN hu _) (E.ed ys) (E.oK ys) hn hn2 ?_
 intro v' M' h1 h2 h3 h4
 refine hK v' M' ?_ h2 h3 h4
 rw [← E.rJ] at h1
 simpa [Ow] using h1
theorem pE {b o k:Nat} {cs:List AV} (h:M.loads b o k=some cs) (m:Nat) (hm:m≤k) : M.loads b o m=some (cs.take m):=uO h 0 m (by omega)
theorem Sl.new {T c:Nat} {p:Bool} (ys:List α) : Sl E (M.push (.row (E.row ys) p T 0)) (.slc M.next 0 ys.length (.ex c)) ys :=
 .slc _ _ _ _ _ (by simp [RM.push]) (by rw [RM.dh (RM.aR _) (by rw [E.ed]; omega),List.drop_zero,← E.ed,List.take_length])
theorem tF {base T bytes:Nat} {zs:List AV} {a:α} {K:ai} (ho:Ow E M base T v xs) (hb:base≤M.next) (hs:1≤E.size)
  (hn:(xs.length + 1) * bytes≤140737488355328) (hn2:xs.length + 1≤140737488355328)
  (hK:∀ v' M',Ow E M' base T v' (xs++[a])→ah (aF v) M M'→M.next≤M'.next→(v'=v∨∀ b∈aF v',M.next≤b)→K v' M') :
  appW T E.size bytes zs false v (.slc M.next 0 1 (.ex 1)) (M.push (.row (E.cells a) false T 0)) K:=by
 have hk:ah [] M (M.push (.row (E.cells a) false T 0)):=(ah.refl _ _).push _
 refine oN (ys:=[a]) (Own.keep ho hk (by simp)) (Nat.le_trans hb hk.next) hs (by rw [← E.row_one]; exact Sl.new [a]) hn hn2 ?_
 intro v' M' h1 h2 h3 h4
 exact hK v' M' h1 ((hk.mono (by simp)).trans h2) (Nat.le_trans hk.next h3) (h4.imp id fun h b hb=>Nat.le_trans hk.next (h b hb))
@[go_sem] theorem Tn {T:Nat} {zs:List AV} {K:RB→(Nat→AV)→Prop} : df T 0 zs [] K=K (.row [] false T 0) (fun b=>.slc b 0 0 (.ex 0)):=by
 apply propext; unfold df
 constructor
 ·rintro ⟨l,h,hk⟩; cases h; exact hk
 ·intro hk; exact ⟨_,rfl,hk⟩
theorem je {T size:Nat} {zs:List AV} {x:AV} {K:RB→(Nat→AV)→Prop} (h:x.cells.length=size) (h1:x.cells.all oneCell=true) (hz:zs.length=size) :
  df T 1 zs [(0,size,x)] K=K (.row x.cells false T 0) (fun b=>.slc b 0 1 (.ex 1)):=by
 have:vN (bM zs 1) [(0,size,x)]=some x.cells:=by
  simp only [vN,bM,List.append_nil,h1,h,Nat.zero_add,hz,Nat.le_refl,and_self,if_true,List.take_zero,List.nil_append]
  rw [List.drop_of_length_le (by omega),List.append_nil]
 apply propext; unfold df
 constructor
 ·rintro ⟨l,h,hk⟩; rw [this] at h; cases h; exact hk
 ·intro hk; exact ⟨_,this,hk⟩
theorem Ow.lit (E:Enc α) {T:Nat} (M:RM) : Ow E (M.push (.row [] false T 0)) M.next T (.slc M.next 0 0 (.ex 0)) []:=Own.lit M (Nat.le_refl _)
theorem dQ {i:Nat} (h:i<9223372036854775807) : IntKind.wrap .i64 ((i:Int) + 1)=((i + 1:Nat) : Int):=by
 rw [bD (by omega) (by omega)]; rfl
end
@[go_sem] theorem Jb:ek [] [] []=some true:=rfl
@[go_sem] theorem IQ (ks:List Nat) (k:IntKind) (a b:Int) (xs ys:List AV) : ek (1 :: ks) (N k a :: xs) (N k b :: ys)=if a=b then ek ks xs ys else some false:=by
 simp only [ek,uV,if_true]
 by_cases h:a=b
 ·simp [h]
 ·have:(a == b)=false:=by simp [h]
  simp [this,h]
@[go_sem] theorem Sy (ks:List Nat) (a b:List UInt8) (xs ys:List AV) : ek (2 :: ks) (St a :: xs) (St b :: ys)=if a=b then ek ks xs ys else some false:=by
 simp only [ek,uV]
 by_cases h:a=b
 ·simp [h]
 ·have:(a == b)=false:=by simp [h]
  simp [this,h]
@[go_sem] theorem aaF (ks:List Nat) (a b:Bool) (xs ys:List AV) : ek (3 :: ks) (Bo a :: xs) (Bo b :: ys)=if a=b then ek ks xs ys else some false:=by
 simp only [ek,uV]
 by_cases h:a=b
 ·simp [h]
 ·have:(a == b)=false:=by simp [h]
  simp [this,h]
theorem mR {neg:Bool} {ks:List Nat} {cs ds:List AV} {r:Bool} {K:AV→Prop} (h1:cs.length=ks.length) (h2:ds.length=ks.length) (h:ek ks cs ds=some r) : kV neg ks (.agg cs) (.agg ds) K=K (Bo (r != neg)):=by
 rw [Uc]
 apply propext
 constructor
 ·rintro ⟨_,_,r',h',hk⟩; rw [h] at h'; cases h'; exact hk
 ·intro hk; exact ⟨h1,h2,r,h,hk⟩
theorem gM (x:AV) (w:Bool) (f g:ai→Prop) (F G:AV→RM→ai→Prop) (k:ai) :
  au x w f g (fun v M=>au x w (F v M) (G v M) k)=au x w (fun k'=>f fun v M=>F v M k') (fun k'=>g fun v M=>G v M k') k:=by
 unfold au lH
 split
 ·split <;> simp_all
 ·rfl
 ·rfl
theorem fF (x:AV) (w:Bool) (f g:KR→Prop) (F G:AV→RM→Option Nat→KR→Prop) (k:KR) :
  ae x w f g (fun v M b=>ae x w (F v M b) (G v M b) k)=ae x w (fun k'=>f fun v M b=>F v M b k') (fun k'=>g fun v M b=>G v M b k') k:=by
 unfold ae lH
 split
 ·split <;> simp_all
 ·rfl
 ·rfl
theorem dY (x:AV) (w:Bool) (f g:KR→Prop) (F G:AV→RM→Option Nat→ai→Prop) (k:ai) :
  ae x w f g (fun v M b=>au x w (F v M b) (G v M b) k)=au x w (fun k'=>f fun v M b=>F v M b k') (fun k'=>g fun v M b=>G v M b k') k:=by
 unfold ae au lH
 split
 ·split <;> simp_all
 ·rfl
 ·rfl
theorem fH (x:AV) (w:Bool) (f g:ai→Prop) (F G:AV→RM→KR→Prop) (k:KR) :
  au x w f g (fun v M=>ae x w (F v M) (G v M) k)=ae x w (fun k'=>f fun v M=>F v M k') (fun k'=>g fun v M=>G v M k') k:=by
 unfold ae au lH
 split
 ·split <;> simp_all
 ·rfl
 ·rfl
theorem aJ {body:(List AV→RM→Prop)→List AV→RM→Prop} {xs:List AV} {M:RM} (I:Nat→List AV→RM→Prop) (n:Nat) (h0:I n xs M)
  (hb:∀ (next:List AV→RM→Prop) m ys M',(∀ m' zs M'',m'<m→I m' zs M''→next zs M'')→I m ys M'→body next ys M') : aU body xs M :=
 ⟨I,n,h0,fun m ys M' hI=>hb _ m ys M' (fun m' zs M'' hlt h=>⟨m',hlt,h⟩) hI⟩
theorem Tj {P:Program} {I:World→Prop} {T:Table} (hT:iT P I T) {f:FuncId} {args:List AV} {v:AV} {M:RM} {Q:ai} (hP:EC P f) (hl:∀ A,A8 T f args A=some (v,A))
  (hI:∀ w,M.base.inv w→I w) (hQ:Q v M) : ig P f args M Q:=by
 refine ⟨hP,fun ρ w us hargs hw=>?_⟩
 obtain ⟨A,hA⟩:=hw
 refine (y9 (base:=M.base) hI T hT f args A v A (hl A) ρ w us hargs hA.rel hA.size).mono fun e w' hR=>?_
 obtain ⟨ρ',v',rfl,hst,hw',_,hv⟩:=hR
 refine ⟨v',v,M,ρ',rfl,nA hA hst hw' rfl hA.next (Nat.le_refl _) (fun b x hx=>?_),hv,hQ⟩
 rcases hA.blk b x hx with h | ⟨c,rfl,_⟩
 ·exact .inl h
 ·exact .inr ⟨c,rfl,hx⟩
end Go.Ab
set_option linter.unusedVariables false
set_option linter.unusedSimpArgs false
namespace Go.Ab
open Go Go.RowKit
abbrev By (b:UInt8) : AV:=N .u8 (b.toNat:Int)
def BY:Enc UInt8:=⟨1,fun b=>[By b],fun _=>rfl,fun _=>rfl⟩
theorem zt (s:List UInt8) : BY.row s=s.map By:=by
 induction s with
 | nil=>rfl
 | cons b s ih=>rw [Enc.iH,ih]; rfl
def sQ:Enc (List UInt8):=⟨1,fun s=>[St s],fun _=>rfl,fun _=>rfl⟩
def INT:Enc Int:=⟨1,fun n=>[N .i64 n],fun _=>rfl,fun _=>rfl⟩
def aS:Enc Nat:=⟨1,fun n=>[N .u64 (n:Int)],fun _=>rfl,fun _=>rfl⟩
theorem zA (s:List Nat) : aS.row s=s.map (fun (s:Nat)=>N .u64 (s:Int)):=by
 induction s with
 | nil=>rfl
 | cons b s ih=>rw [Enc.iH,ih]; rfl
theorem IR:∀ (s:List UInt8),dS byteOf (s.map By)=some s
 | []=>rfl
 | b :: s=>by
   simp only [List.map_cons,dS,byteOf,IR s]
   simp
section
variable {α:Type} {E:Enc α} {M M' : RM} {v:AV} {xs:List α}
theorem Sl.str {s:List UInt8} (h:Sl BY M v s) {K:AV→Prop} : iJ M v K=K (St s) :=
 Qt (aM.Ay h (by rw [zt]; exact IR s))
theorem Sl.qX (h:Sl E M v xs) {i:Nat} (j:Int) (hi:i<xs.length) (hsz:E.size=1:=by rfl) (hj:j=(i:Int):=by rfl) :
  ∃ b o,b<M.next∧b∈aF v∧(∀ (kd:IntKind) (K:AV→Prop),ax v (N kd j) 1 K=K (.ptr b o))∧∀ x,E.cells xs[i]=[x]→M.cell b o=some x:=by
 obtain ⟨b,o,h1,h2,h3,h4⟩:=Sl.at h 1 j hi hsz hj
 exact ⟨b,o,h1,h2,h3,fun x hx=>JI h4 (by rw [hx]; rfl)⟩
structure Rw (E:Enc α) (M:RM) (b:Nat) (opn:Bool) (el:Nat) (xs:List α) : Prop where
 heap:M.heap b=some (.row (E.row xs) opn el 0)
 lt:b<M.next
theorem Rw.sl {b el:Nat} {p:Bool} {cap:Cap} (h:Rw E M b p el xs) : Sl E M (.slc b 0 xs.length cap) xs:=by
 refine .slc _ _ _ _ _ h.lt ?_
 rw [RM.dh h.heap (by rw [E.ed]; omega),List.drop_zero,← E.ed,List.take_length]
theorem Rw.keep {b el:Nat} {p:Bool} {bs:List Nat} (h:Rw E M b p el xs) (hk:ah bs M M') (hb:b ∉ bs) : Rw E M' b p el xs :=
 ⟨hk.aO h.heap h.lt hb,Nat.lt_of_lt_of_le h.lt hk.next⟩
theorem Rw.new {el:Nat} {p:Bool} (M:RM) (xs:List α) : Rw E (M.push (.row (E.row xs) p el 0)) M.next p el xs :=
 ⟨RM.aR _,by simp [RM.push]⟩
end
@[go_sem] theorem abe (el:Nat) (s:List UInt8) (K:RB→(Nat→AV)→Prop) : Np el (St s) K=K (.row (BY.row s) true el 0) (fun b=>.slc b 0 s.length (.op 1)):=by
 rw [zt]
 apply propext; unfold Np
 constructor
 ·rintro ⟨s',h,hk⟩; cases h; exact hk
 ·intro hk; exact ⟨s,rfl,hk⟩
def abK (b:UInt8) : UInt8:=if 65≤b.toNat∧b.toNat≤90 then b + 32 else b
def low (s:List UInt8) : List UInt8:=s.map abK
end Go.Ab
set_option linter.unusedVariables false
set_option linter.unusedSimpArgs false
namespace Go.Ab
open Go Go.RowKit
structure rY (n:Nat) (bs:List Nat) (M M' : RM) : Prop where
 base:M'.base=M.base
 next:M.next≤M'.next
 heap:∀ c,c<n→c ∉ bs→M'.heap c=M.heap c
theorem rY.refl (n:Nat) (bs:List Nat) (M:RM) : rY n bs M M:=⟨rfl,Nat.le_refl _,fun _ _ _=>rfl⟩
theorem rY.trans {n:Nat} {bs:List Nat} {M M1 M2:RM} (h:rY n bs M M1) (k:rY n bs M1 M2) : rY n bs M M2 :=
 ⟨k.base.trans h.base,Nat.le_trans h.next k.next,fun c h1 h2=>(k.heap c h1 h2).trans (h.heap c h1 h2)⟩
theorem ah.to {bs cs:List Nat} {n:Nat} {M M' : RM} (h:ah bs M M') (hn:n≤M.next) (hb:∀ b∈bs,n≤b∨b∈cs) : rY n cs M M' :=
 ⟨h.base,h.next,fun c h1 h2=>h.heap c (Nat.lt_of_lt_of_le h1 hn) (fun hm=>by rcases hb c hm with h3 | h3; omega; exact h2 h3)⟩
theorem rY.aO {n:Nat} {bs:List Nat} {M M' : RM} (h:rY n bs M M') {b:Nat} {x:RB} (hh:M.heap b=some x) (hlt:b<n) (hb:b ∉ bs) : M'.heap b=some x:=by rw [h.heap b hlt hb,hh]
theorem Own.same {M M' : RM} {n el size n0:Nat} {v:AV} {cs:List AV} (h:Own M n0 el size v cs n) (hn:M'.next=M.next) (hb:∀ c∈aF v,M'.heap c=M.heap c) (hbase:M'.base=M.base) : Own M' n0 el size v cs n:=by
 cases h with
 | nil=>exact .nil
 | ex0 b o h1 h2 h3=>exact .ex0 b o h1 (by omega) (by simpa [RM.Gd,hb b (by simp [aF]),RM.lo,hbase] using h3)
 | op b n cs h1 h2 h3 h4=>exact .op b n cs h1 (by omega) (by rw [hb b (by simp [aF]),h3]) h4
theorem Own.one {M:RM} {n el size n0:Nat} {v:AV} {cs:List AV} (h:Own M n0 el size v cs n) : oneCell v=true:=by
 cases h <;> rfl
def Pn (B:Base) (c:av) : Prop:=∀ {M:RM} {Q:ai},M.base=B→Q (Bo true) M→c [] M Q
theorem Own.cells {M:RM} {n el size n0:Nat} {v:AV} {cs:List AV} (h:Own M n0 el size v cs n) : v.cells=[v]:=by
 cases h <;> rfl
end Go.Ab
set_option linter.unusedVariables false
set_option linter.unusedSimpArgs false
namespace Go.Ab
open Go Go.RowKit
section
variable {P:Program} {ρ:Ren} {M:RM} {w w' : World}
theorem bN.below {base:Base} {A:AW} (h:bN P base ρ A w) (hb:Below w.heap.size w w') (hn:base.n≤w.heap.size) : bN P base ρ A w' where
 dom b i hbi:=⟨(h.dom b i hbi).1,Nat.lt_of_lt_of_le (h.dom b i hbi).2 hb.size⟩
 blk b i x hbi hx:=let ⟨o,ho,hr⟩:=h.blk b i x hbi hx; ⟨o,by rw [hb.block _ (h.dom b i hbi).2]; exact ho,hr⟩
 sep:=h.sep
 top:=h.top
 lo:=h.lo
 inv:=base.low w w' (fun c hc=>hb.block c (Nat.lt_of_lt_of_le hc hn)) h.inv
theorem Step.of_below {base n:Nat} (hb:Below w.heap.size w w') (hn:base≤w.heap.size) : Step base n ρ w ρ w' where
 os:=hb.os
 tape:=hb.tape
 output:=hb.output
 size:=hb.size
 frame c hc _:=hb.block c hc
 ext _ _:=rfl
 fresh b i h:=.inl ⟨b,i,h,rfl⟩
 low c hc:=hb.block c (Nat.lt_of_lt_of_le hc hn)
theorem After.below (h:dW P ρ M w) (hb:Below w.heap.size w w') : After P M ρ w M ρ w':=by
 obtain ⟨A,hA⟩:=h
 refine nA hA (Step.of_below hb hA.size) (hA.rel.below hb hA.size) rfl hA.next (Nat.le_refl _) fun b x hx=>?_
 rcases hA.blk b x hx with h | ⟨c,rfl,_⟩
 ·exact .inl h
 ·exact .inr ⟨c,rfl,hx⟩
end
end Go.Ab
set_option linter.unusedVariables false
set_option linter.unusedSimpArgs false
namespace Go.Ab
open Go Go.RowKit
structure nZ (α:Type) where
 size:Nat
 rel:RM→List AV→α→(Nat→Prop)→Prop
 len:∀ {M cs a S},rel M cs a S→cs.length=size
 one:∀ {M cs a S},rel M cs a S→cs.all oneCell=true
 mono:∀ {M cs a S S'},rel M cs a S→(∀ b,S b→S' b)→rel M cs a S'
 lt:∀ {M cs a S},rel M cs a S→rel M cs a (fun b=>S b∧b<M.next)
 keep:∀ {M M' cs a S bs},rel M cs a S→ah bs M M'→(∀ b∈bs,¬ S b)→rel M' cs a S
def Enc.xD {α:Type} (E:Enc α) : nZ α where
 size:=E.size
 rel _ cs a _:=cs=E.cells a
 len h:=by subst h; exact E.len _
 one h:=by subst h; exact E.one _
 mono h _:=h
 lt h:=h
 keep h _ _:=h
inductive eT {α:Type} (R:nZ α) (M:RM) (S:Nat→Prop) : List AV→List α→Prop
 | nil:eT R M S [] []
 | cons {cs ds:List AV} {a:α} {xs:List α} : R.rel M cs a S→eT R M S ds xs→eT R M S (cs++ds) (a :: xs)
section
variable {α:Type} {R:nZ α} {M M' : RM} {S S' : Nat→Prop} {cs ds:List AV} {xs ys:List α} {a:α}
theorem eT.len (h:eT R M S cs xs) : cs.length=xs.length * R.size:=by
 induction h with
 | nil=>simp
 | cons h1 _ ih=>rw [List.length_append,R.len h1,ih,List.length_cons,Nat.succ_mul,Nat.add_comm]
theorem eT.one (h:eT R M S cs xs) : cs.all oneCell=true:=by
 induction h with
 | nil=>rfl
 | cons h1 _ ih=>rw [List.all_append,R.one h1,ih]; rfl
theorem eT.mono (h:eT R M S cs xs) (hs:∀ b,S b→S' b) : eT R M S' cs xs:=by
 induction h with
 | nil=>exact .nil
 | cons h1 _ ih=>exact .cons (R.mono h1 hs) ih
theorem eT.lt (h:eT R M S cs xs) : eT R M (fun b=>S b∧b<M.next) cs xs:=by
 induction h with
 | nil=>exact .nil
 | cons h1 _ ih=>exact .cons (R.lt h1) ih
theorem eT.keep {bs:List Nat} (h:eT R M S cs xs) (hk:ah bs M M') (hb:∀ b∈bs,¬ S b) : eT R M' S cs xs:=by
 induction h with
 | nil=>exact .nil
 | cons h1 _ ih=>exact .cons (R.keep h1 hk hb) ih
theorem eT.append (h:eT R M S cs xs) (k:eT R M S ds ys) : eT R M S (cs++ds) (xs++ys):=by
 induction h with
 | nil=>exact k
 | cons h1 _ ih=>rw [List.append_assoc]; exact .cons h1 ih
theorem eT.single (h:R.rel M cs a S) : eT R M S cs [a]:=by
 have:=eT.cons h .nil
 simpa using this
theorem eT.get (h:eT R M S cs xs) : ∀ {i:Nat} (hi:i<xs.length),R.rel M ((cs.drop (i * R.size)).take R.size) xs[i] S:=by
 induction h with
 | nil=>intro i hi; simp at hi
 | cons h1 h2 ih =>
   rename_i c1 d1 a1 x1
   intro i hi
   cases i with
   | zero =>
     rw [Nat.zero_mul,List.drop_zero,List.take_append_of_le_length (by rw [R.len h1]; exact Nat.le_refl _),List.take_of_length_le (by rw [R.len h1]; exact Nat.le_refl _)]
     exact h1
   | succ i =>
     rw [Nat.succ_mul,Nat.add_comm,← List.drop_drop,List.drop_left' (R.len h1)]
     exact ih (by simpa using hi)
theorem eT.take (h:eT R M S cs xs) : ∀ (k:Nat),eT R M S (cs.take (k * R.size)) (xs.take k):=by
 induction h with
 | nil=>intro k; simp; exact .nil
 | cons h1 h2 ih =>
   intro k
   cases k with
   | zero=>simp; exact .nil
   | succ k =>
     rw [Nat.succ_mul,Nat.add_comm,List.take_append,List.take_of_length_le (by rw [R.len h1]; omega),R.len h1,Nat.add_sub_cancel_left]
     exact .cons h1 (ih k)
theorem eT.drop (h:eT R M S cs xs) : ∀ (k:Nat),eT R M S (cs.drop (k * R.size)) (xs.drop k):=by
 induction h with
 | nil=>intro k; simp; exact .nil
 | cons h1 h2 ih =>
   intro k
   cases k with
   | zero=>simp; exact .cons h1 h2
   | succ k =>
     rw [Nat.succ_mul,Nat.add_comm,← List.drop_drop,List.drop_left' (R.len h1)]
     exact ih k
theorem eT.cells {E:Enc α} : ∀ {cs:List AV} {xs:List α},eT E.xD M S cs xs→cs=E.row xs
 | _,_,.nil=>rfl
 | _,_,.cons h1 h2=>by rw [Enc.iH,eT.cells h2]; rw [show _=_ from h1]
theorem eT.of_cells {E:Enc α} : ∀ (xs:List α),eT E.xD M S (E.row xs) xs
 | []=>.nil
 | x :: xs=>by rw [Enc.iH]; exact .cons rfl (eT.of_cells xs)
def fT (R:nZ α) (M:RM) (v:AV) (xs:List α) (S:Nat→Prop) : Prop :=
 ∃ cs,aM M R.size v cs xs.length∧(∀ b∈aF v,S b)∧eT R M S cs xs
theorem aM.lt {size n:Nat} {v:AV} (h:aM M size v cs n) : ∀ b∈aF v,b<M.next:=by
 cases h with
 | nil=>intro b hb; simp [aF] at hb
 | emp=>intro b hb; simp [aF] at hb
 | slc b o n cap cs hb _=>intro c hc; simp [aF] at hc; omega
theorem aM.one {size n:Nat} {v:AV} (h:aM M size v cs n) : oneCell v=true:=by
 cases h <;> rfl
theorem aM.cells {size n:Nat} {v:AV} (h:aM M size v cs n) : v.cells=[v]:=by
 cases h <;> rfl
variable {v:AV}
theorem fT.mono (h:fT R M v xs S) (hs:∀ b,S b→S' b) : fT R M v xs S':=let ⟨cs,h1,h2,h3⟩:=h; ⟨cs,h1,fun b hb=>hs b (h2 b hb),h3.mono hs⟩
theorem fT.lt (h:fT R M v xs S) : fT R M v xs (fun b=>S b∧b<M.next):=let ⟨cs,h1,h2,h3⟩:=h; ⟨cs,h1,fun b hb=>⟨h2 b hb,h1.lt b hb⟩,h3.lt⟩
theorem fT.keep {bs:List Nat} (h:fT R M v xs S) (hk:ah bs M M') (hb:∀ b∈bs,¬ S b) : fT R M' v xs S :=
 let ⟨cs,h1,h2,h3⟩:=h; ⟨cs,h1.keep hk (fun b hv hbs=>hb b hbs (h2 b hv)),h2,h3.keep hk hb⟩
theorem fT.len (h:fT R M v xs S) {K:AV→Prop} : bu v K=K (N .i64 xs.length):=let ⟨cs,h1,_,_⟩:=h; h1.len
theorem fT.one (h:fT R M v xs S) : oneCell v=true:=let ⟨cs,h1,_,_⟩:=h; h1.one
theorem fT.cells (h:fT R M v xs S) : v.cells=[v]:=let ⟨cs,h1,_,_⟩:=h; h1.cells
theorem fT.nil:fT R M eG [] S:=⟨[],.nil,by simp [aF],.nil⟩
theorem fT.sl {E:Enc α} (h:fT E.xD M v xs S) : Sl E M v xs:=by
 obtain ⟨cs,h1,h2,h3⟩:=h
 rw [h3.cells] at h1
 exact h1
theorem fT.X9 {E:Enc α} (h:Sl E M v xs) (hs:∀ b∈aF v,S b) : fT E.xD M v xs S:=⟨_,h,hs,eT.of_cells xs⟩
theorem fT.at (h:fT R M v xs S) {i:Nat} (sz:Nat) (j:Int) (hi:i<xs.length) (hsz:R.size=sz:=by rfl) (hj:j=(i:Int):=by rfl) :
  ∃ b o cs,b<M.next∧b∈aF v∧(∀ (kd:IntKind) (K:AV→Prop),ax v (N kd j) sz K=K (.ptr b o))∧M.loads b o sz=some cs∧R.rel M cs xs[i] S:=by
 subst hsz hj
 obtain ⟨cs,h1,h2,h3⟩:=h
 obtain ⟨b,o,cap,rfl,hb,hl⟩:=h1.pos (by omega)
 have hsum:i * R.size + R.size≤xs.length * R.size:=by rw [← Nat.succ_mul]; exact Nat.mul_le_mul_right _ hi
 refine ⟨b,o + i * R.size,(cs.drop (i * R.size)).take R.size,hb,by simp [aF],fun kd K=>?_, ?_,h3.get hi⟩
 ·rw [lQ]
  simp only [Int.toNat_natCast]
  exact propext ⟨fun h=>h.2.2,fun h=>⟨by omega,by omega,h⟩⟩
 ·rw [uO hl (i * R.size) R.size hsum]
def nZ.slice (R:nZ α) : nZ (List α) where
 size:=1
 rel M cs xs S:=∃ v,cs=[v]∧fT R M v xs S
 len h:=by obtain ⟨v,rfl,_⟩:=h; rfl
 one h:=by obtain ⟨v,rfl,h⟩:=h; simp [h.one]
 mono h hs:=by obtain ⟨v,rfl,h⟩:=h; exact ⟨v,rfl,h.mono hs⟩
 lt h:=by obtain ⟨v,rfl,h⟩:=h; exact ⟨v,rfl,h.lt⟩
 keep h hk hb:=by obtain ⟨v,rfl,h⟩:=h; exact ⟨v,rfl,h.keep hk hb⟩
def iB (R:nZ α) (M:RM) (base el:Nat) (v:AV) (xs:List α) (S:Nat→Prop) : Prop :=
 ∃ cs,Own M base el R.size v cs xs.length∧eT R M S cs xs
theorem iB.nil {base el:Nat} : iB R M base el eG [] S:=⟨[],.nil,.nil⟩
theorem iB.mono {base el:Nat} (h:iB R M base el v xs S) (hs:∀ b,S b→S' b) : iB R M base el v xs S':=let ⟨cs,h1,h2⟩:=h; ⟨cs,h1,h2.mono hs⟩
theorem iB.lt {base el:Nat} (h:iB R M base el v xs S) : iB R M base el v xs (fun b=>S b∧b<M.next):=let ⟨cs,h1,h2⟩:=h; ⟨cs,h1,h2.lt⟩
theorem iB.keep {base el:Nat} {bs:List Nat} (h:iB R M base el v xs S) (hk:ah bs M M') (hb:∀ b∈bs,¬ S b) (hv:∀ b∈aF v,b ∉ bs) : iB R M' base el v xs S :=
 let ⟨cs,h1,h2⟩:=h; ⟨cs,h1.keep hk hv,h2.keep hk hb⟩
theorem iB.len {base el:Nat} (h:iB R M base el v xs S) {K:AV→Prop} : bu v K=K (N .i64 xs.length):=let ⟨cs,h1,_⟩:=h; h1.eu.len
theorem iB.blk {base el:Nat} (h:iB R M base el v xs S) : ∀ b∈aF v,base≤b∧b<M.next:=let ⟨cs,h1,_⟩:=h; h1.blk
theorem iB.UW {base el:Nat} (h:iB R M base el v xs S) (hs:∀ b,base≤b→b<M.next→S b) : fT R M v xs S :=
 let ⟨cs,h1,h2⟩:=h; ⟨cs,h1.eu,fun b hb=>hs b (h1.blk b hb).1 (h1.blk b hb).2,h2⟩
theorem iB.cells {base el:Nat} (h:iB R M base el v xs S) : v.cells=[v]:=let ⟨cs,h1,_⟩:=h; h1.cells
theorem iB.one {base el:Nat} (h:iB R M base el v xs S) : oneCell v=true:=let ⟨cs,h1,_⟩:=h; h1.one
theorem iB.app {base T bytes:Nat} {zs:List AV} {K:ai} (ho:iB R M base T v xs S) (ha:R.rel M cs a S) (hb:base≤M.next) (hs:1≤R.size)
  (hd:∀ b∈aF v,¬ S b) (hS:∀ b,S b→b<M.next)
  (hn:(xs.length + 1) * bytes≤140737488355328) (hn2:xs.length + 1≤140737488355328)
  (hK:∀ v' M',iB R M' base T v' (xs++[a]) S→ah (aF v) M M'→M.next≤M'.next→(v'=v∨∀ b∈aF v',M.next≤b)→(∀ b∈aF v',¬ S b)→K v' M') :
  appW T R.size bytes zs false v (.slc M.next 0 1 (.ex 1)) (M.push (.row cs false T 0)) K:=by
 obtain ⟨ds,h1,h2⟩:=ho
 have hk:ah [] M (M.push (.row cs false T 0)):=(ah.refl _ _).push _
 have hl:=R.len ha
 have hnl:kN (M.push (.row cs false T 0)) R.size zs false (.slc M.next 0 1 (.ex 1))=some (1,cs):=by
  simp only [kN,Nat.one_mul]
  rw [RM.dh (RM.aR _) (by omega),List.drop_zero,← hl,List.take_length]
 refine nI (h1.keep hk (by simp)) (Nat.le_trans hb hk.next) hs hnl (by rw [hl,Nat.one_mul]) (R.one ha) hn hn2 ?_
 intro v' M' q1 q2 q3 q4
 have kk:ah (aF v) M M':=(hk.mono (by simp)).trans q2
 refine hK v' M' ⟨_,by simpa using q1, ?_⟩ kk (Nat.le_trans hk.next q3) (q4.imp id fun h b hb=>Nat.le_trans hk.next (h b hb)) ?_
 ·exact (h2.keep kk hd).append (eT.single (R.keep ha kk hd))
 ·rcases q4 with rfl | q4
  ·exact hd
  ·intro b hb hSb
   have:=q4 b hb
   have:=hS b hSb
   simp only [RM.push] at *
   omega
end
end Go.Ab
set_option linter.unusedVariables false
set_option linter.unusedSimpArgs false
namespace Go.Ab
open Go Go.RowKit
section
variable {M M' : RM} {b i n e f:Nat} {l:List AV} {p:Bool} {x:AV}
theorem ak {K:AV→Prop} (h:M.heap b=some (.row l p e f)) (hx:l[i]?=some x) : aj M (.ptr b i) K=K x:=by
 rw [fu,RM.cell_of h,hx]; simp
theorem dG {K:AV→Prop} (h:M.heap b=some (.row l p e f)) (hn:l.length=n) : aH M (.ptr b 0) n K=K (.agg l):=by
 rw [eQ,RM.WO h]
 have:wC (some l) 0 n=some l:=by simp [wC,← hn]
 rw [this]; simp
theorem fq {K:RM→Prop} (h:M.heap b=some (.row l p e 0)) (hi:i<l.length) (hc:x.cells=[x]) (h1:oneCell x=true) : aN M (.ptr b i) x 1 K=K (M.put b (.row (l.set i x) p e 0)):=by
 rw [vR,hc,RM.uP h,oF (by simp only [List.length_cons,List.length_nil]; omega) (Nat.zero_le _) (by simp [h1])]
 have:l.take i++[x]++l.drop (i + 1)=l.set i x:=by
  rw [List.set_eq_take_append_cons_drop,if_pos hi]; simp
 simp [this]
theorem Es {K:RM→Prop} (l' : List AV) (h:M.heap b=some (.row l p e 0)) (hi:i<l.length) (hc:x.cells=[x]) (h1:oneCell x=true) (hl:l.set i x=l') : aN M (.ptr b i) x 1 K=K (M.put b (.row l' p e 0)):=by
 rw [fq h hi hc h1,hl]
theorem aW {K:AV→Prop} : aD (.ptr b 0) n K=K (.ptr b n):=by rw [aG,Nat.zero_add]
theorem gI {K:RM→Prop} (h:M.heap b=some (.row l p e 0)) (hn:x.cells.length=n) (hl:l.length=n) (h1:x.cells.all oneCell=true) : aN M (.ptr b 0) x n K=K (M.put b (.row x.cells p e 0)):=by
 rw [vR,RM.uP h,Mh (by rw [hn,hl]) h1]
 simp [hn]
theorem uG {c:Nat} {y z:RB} (h:M.heap b=some y) (hb:b≠c) : (M.put c z).heap b=some y:=by
 simp only [RM.put]; rw [if_neg hb]; exact h
theorem aZ (y:RB) : (M.put b y).heap b=some y:=RM.uo _ _
theorem kU {y z:RB} (h:M.heap b=some y) (hb:b<M.next) : (M.push z).heap b=some y:=by
 simp only [RM.push]; rw [if_neg (by omega)]; exact h
theorem Eo (y:RB) : (M.push y).next=M.next + 1:=rfl
theorem lY (c:Nat) (y:RB) : (M.put c y).next=M.next:=rfl
theorem ah.new {bs:List Nat} (h:ah bs M M') {b:Nat} (y:RB) (hb:M.next≤b) : ah bs M (M'.put b y):=h.put y (.inl hb)
end
variable {M:RM}
theorem oZ {a:AV} {l:List AV} {K:AV→Prop} : gU (.tup (a :: l)) 0 K=K a:=by rw [OM]; simp
theorem pF {a b:AV} {l:List AV} {K:AV→Prop} : gU (.tup (a :: b :: l)) 1 K=K b:=by rw [OM]; simp
theorem dP {p q:Prop} : aA (Bo true) p q=p:=by simp [MV]
theorem bK {p q:Prop} : aA (Bo false) p q=q:=by simp [MV]
theorem aI {b:Bool} {p q:Prop} (h1:b=true→p) (h2:b=false→q) : aA (Bo b) p q:=⟨h1,h2⟩
theorem bS {f g:ai→Prop} {k:ai} : au (Bo true) true f g k=f k:=rfl
theorem dC {f g:ai→Prop} {k:ai} : au (Bo false) false f g k=f k:=rfl
theorem iY {f g:ai→Prop} {k:ai} : au (Bo true) false f g k=g k:=rfl
theorem bV {f g:ai→Prop} {k:ai} : au (Bo false) true f g k=g k:=rfl
theorem fe {f g:KR→Prop} {k:KR} : ae (Bo true) true f g k=f k:=rfl
theorem dO {f g:KR→Prop} {k:KR} : ae (Bo false) false f g k=f k:=rfl
theorem xJ {f g:KR→Prop} {k:KR} : ae (Bo true) false f g k=g k:=rfl
theorem jL {f g:KR→Prop} {k:KR} : ae (Bo false) true f g k=g k:=rfl
theorem ui {w:Bool} {f g:ai→Prop} {k:ai} : au .undef w f g k=g k:=rfl
theorem O6 {w:Bool} {f g:KR→Prop} {k:KR} : ae .undef w f g k=g k:=rfl
theorem dF {a b:AV} {K:AV→Prop} : aP (Bo true) a b K=K a:=by rw [PH]; rfl
theorem bU {a b:AV} {K:AV→Prop} : aP (Bo false) a b K=K b:=by rw [PH]; rfl
theorem aM.known {size:Nat} {v:AV} {cs:List AV} {n:Nat} (h:aM M size v cs n) : known v=true:=by
 cases h <;> rfl
theorem dH {t:TypeId} {cs:List AV} {K:RB→(Nat→AV)→Prop} (h1:cs.all oneCell=true) (h2:1≤cs.length) : gJ t (.agg cs) K=K (.row cs false t 0) (fun b=>.ptr b 0):=by
 unfold gJ
 exact propext ⟨fun h=>h.2.2,fun h=>⟨h1,h2,h⟩⟩
theorem UX {x y a b:AV} (h1:known x=true) (h2:x.cells=[x]) (h3:known y=true) (h4:y.cells=[y]) : qh [a,b] [(0,1,x),(1,1,y)]=some [x,y]:=by
 simp [qh,h1,h2,h3,h4]
def nZ.pre {α β:Type} (E:Enc α) (R:nZ β) : nZ (α × β) where
 size:=E.size + R.size
 rel M cs a S:=∃ ds,cs=E.cells a.1++ds∧R.rel M ds a.2 S
 len h:=by obtain ⟨ds,rfl,h⟩:=h; rw [List.length_append,E.len,R.len h]
 one h:=by obtain ⟨ds,rfl,h⟩:=h; rw [List.all_append,E.one,R.one h]; rfl
 mono h hs:=by obtain ⟨ds,rfl,h⟩:=h; exact ⟨ds,rfl,R.mono h hs⟩
 lt h:=by obtain ⟨ds,rfl,h⟩:=h; exact ⟨ds,rfl,R.lt h⟩
 keep h hk hb:=by obtain ⟨ds,rfl,h⟩:=h; exact ⟨ds,rfl,R.keep h hk hb⟩
def nZ.post {α β:Type} (R:nZ α) (E:Enc β) : nZ (α × β) where
 size:=R.size + E.size
 rel M cs a S:=∃ ds,cs=ds++E.cells a.2∧R.rel M ds a.1 S
 len h:=by obtain ⟨ds,rfl,h⟩:=h; rw [List.length_append,E.len,R.len h]
 one h:=by obtain ⟨ds,rfl,h⟩:=h; rw [List.all_append,E.one,R.one h]; rfl
 mono h hs:=by obtain ⟨ds,rfl,h⟩:=h; exact ⟨ds,rfl,R.mono h hs⟩
 lt h:=by obtain ⟨ds,rfl,h⟩:=h; exact ⟨ds,rfl,R.lt h⟩
 keep h hk hb:=by obtain ⟨ds,rfl,h⟩:=h; exact ⟨ds,rfl,R.keep h hk hb⟩
def nZ.map {α β:Type} (R:nZ α) (g:β→α) : nZ β where
 size:=R.size
 rel M cs a S:=R.rel M cs (g a) S
 len h:=R.len h
 one h:=R.one h
 mono h hs:=R.mono h hs
 lt h:=R.lt h
 keep h hk hb:=R.keep h hk hb
end Go.Ab
set_option maxRecDepth 10000
set_option linter.unusedVariables false
set_option linter.unusedSimpArgs false
namespace Go.Ab.aC
open Go Go.Ab
def uz (c:av) : Prop:=∀ {M:RM} {x y:Nat} {Q:ai},Q (Bo (decide (x<y))) M→c [N .u64 (x:Int),N .u64 (y:Int)] M Q
theorem Jq {M:RM} {x:Nat} {Q:ai} (h:Q (Bo false) M) : pg (N .u64 (x:Int)) M Q:=by
 unfold pg
 rw [gD,bne_self_eq_false]; exact h
theorem Qd {M:RM} {x:Nat} {Q:ai} (h:Q (Bo false) M) : qH (N .u64 (x:Int)) M Q:=by
 unfold qH
 rw [gD,bne_self_eq_false]; exact h
def TW (c:av) : Prop:=∀ {M:RM} {x:Nat} {Q:ai},Q (Bo false) M→c [N .u64 (x:Int)] M Q
theorem UU {cn:av} (hn:TW cn) : uz fun args M Q=>∃ a0 a1,args=[a0,a1]∧vz cn a0 a1 M Q:=by
 intro M x y Q hQ
 refine ⟨_,_,rfl, ?_⟩
 unfold vz
 simp only [gM]
 refine hn ?_
 rw [bV]
 dsimp only
 rw [bU,dC,bL]
 dsimp only
 rw [bU,show decide ((x:Int)<(y:Int))=decide (x<y) by simp]
 exact hQ
def Asc (xs:List Nat) : Prop:=xs.Pairwise (· < ·)
def below (n:Nat) (xs:List Nat) : Nat:=(xs.takeWhile (fun x=>decide (x<n))).length
theorem below_le (n:Nat) (xs:List Nat) : below n xs≤xs.length:=by
 unfold below
 induction xs with
 | nil=>simp
 | cons x xs ih =>
   rw [List.takeWhile_cons]
   split <;> simp <;> omega
theorem Asc.lt {xs:List Nat} (h:Asc xs) {i j:Nat} (hij:i<j) (hj:j<xs.length) : xs[i]'(by omega)<xs[j]:=List.pairwise_iff_getElem.1 h i j (by omega) hj hij
theorem Au {n:Nat} : ∀ {xs:List Nat} {i:Nat},i≤xs.length→(∀ k (hk:k<xs.length),k<i→xs[k]<n)→(∀ (hi:i<xs.length),n≤xs[i])→below n xs=i
 | [],i,h,_,_=>by simp at h; subst h; rfl
 | x :: xs,0,_,_,h2=>by
   have:=h2 (by simp)
   simp at this
   unfold below
   rw [List.takeWhile_cons,if_neg (by simp; omega)]; rfl
 | x :: xs,i + 1,h,h1,h2=>by
   have hx:=h1 0 (by simp) (by omega)
   have:=Au (n:=n) (xs:=xs) (i:=i) (by simpa using h) (fun k hk hki=>by have:=h1 (k + 1) (by simp; omega) (by omega); simpa using this) (fun hi=>by have:=h2 (by simp; omega); simpa using this)
   unfold below at *
   rw [List.takeWhile_cons,if_pos (by simpa using hx),List.length_cons,this]
theorem Lm {n:Nat} {xs:List Nat} (ha:Asc xs) : (n∈xs↔∃ h:below n xs<xs.length,xs[below n xs]=n):=by
 constructor
 ·intro hm
  obtain ⟨i,hi,he⟩:=List.getElem_of_mem hm
  have hb:below n xs=i:=Au (by omega) (fun k hk hki=>by have:=ha.lt hki hi; omega) (fun _=>by omega)
  exact ⟨by omega,by simp only [hb]; exact he⟩
 ·rintro ⟨h,he⟩
  rw [← he]; exact List.getElem_mem h
theorem Nl {n:Nat} : ∀ {xs:List Nat} {k:Nat} (hk:k<xs.length),k<below n xs→xs[k]<n
 | x :: xs,k,hk,h=>by
   unfold below at h
   rw [List.takeWhile_cons] at h
   split at h
   ·rename_i hx
    cases k with
    | zero=>simpa using hx
    | succ k=>exact Nl (xs:=xs) (k:=k) (by simpa using hk) (by unfold below; simpa using h)
   ·simp at h
theorem Oi {n:Nat} : ∀ {xs:List Nat} (h:below n xs<xs.length),n≤xs[below n xs]
 | x :: xs,h=>by
   unfold below at *
   rw [List.takeWhile_cons] at h
   simp only [List.takeWhile_cons]
   by_cases hx:x<n
   ·simp only [hx,decide_true,if_true,List.length_cons] at h ⊢
    exact Oi (xs:=xs) (by unfold below; omega)
   ·simp only [hx,decide_false,Bool.false_eq_true,if_false,List.length_nil,List.getElem_cons_zero]
    omega
def EH (c:av) : Prop:=∀ {M:RM} {v:AV} {xs:List Nat} {n:Nat} {Q:ai},Sl aS M v xs→xs.length≤1000000→Asc xs→Q (.tup [N .i64 ((below n xs:Nat) : Int),Bo (decide (n∈xs))]) M→c [v,N .u64 (n:Int)] M Q
theorem half (i j:Nat) (h:i + j<9223372036854775808) : N .i64 (IntKind.i64.wrap (Jt .u64 (IntKind.u64.wrap (IntKind.i64.wrap ((i:Int) + (j:Int)))) 1))=N .i64 (((i + j) / 2:Nat) : Int):=by
 rw [show IntKind.i64.wrap ((i:Int) + (j:Int))=((i + j:Nat) : Int) by rw [bD (by omega) (by omega)]; rfl]
 rw [show IntKind.u64.wrap (((i + j:Nat) : Int))=((i + j:Nat) : Int) by unfold IntKind.wrap; simp [IntKind.bits,IntKind.signed]; omega]
 rw [show (1:Int)=((1:Nat) : Int) from rfl,BB _ _ _ (by decide)]
 rw [show ((i + j:Nat) / 2 ^ 1)=(i + j) / 2 by simp]
 rw [bD (by omega) (by omega)]
theorem PV {cl cn:av} (hl:uz cl) (hn:TW cn) : EH fun args M Q=>∃ a0 a1,args=[a0,a1]∧mo cl cn a0 a1 M Q:=by
 intro M v xs n Q hv hxl ha hQ
 refine ⟨_,_,rfl, ?_⟩
 unfold mo
 simp only [gM]
 rw [aM.len hv]
 refine aJ (fun m ys M3=>M3=M∧∃ i j:Nat,m=j - i∧ys=[N .i64 (i:Int),N .i64 (j:Int)]∧i≤j∧j≤xs.length∧(∀ k (hk:k<xs.length),k<i→xs[k]<n)∧(∀ k (hk:k<xs.length),j≤k→n≤xs[k])) _
  ⟨rfl,0,xs.length,rfl,rfl,Nat.zero_le _,Nat.le_refl _,by omega,by omega⟩ ?_
 rintro next m ys M3 hnext ⟨rfl,i,j,rfl,rfl,hij,hj,h1,h2⟩
 dsimp only [aa]
 rw [bL]
 refine aI (fun hlt=>?_) (fun hge=>?_)
 ·have hlt:i<j:=by simpa using hlt
  have hh:(i + j) / 2<j:=by omega
  have hh2:i≤(i + j) / 2:=by omega
  rw [bH,eX,wm]
  refine ⟨by omega, ?_⟩
  rw [eX,half i j (by omega)]
  have hm:(i + j) / 2<xs.length:=by omega
  obtain ⟨b,o,_,_,hidx,hc⟩:=Sl.qX (E:=aS) hv (((i + j) / 2:Nat) : Int) hm
  have hc:=hc _ rfl
  rw [hidx,fu]
  refine ⟨_,hc, ?_⟩
  refine hl ?_
  refine aI (fun h=>?_) (fun h=>?_)
  ·have h:xs[(i + j) / 2]<n:=by simpa using h
   rw [bH,dQ (by omega)]
   refine hnext _ _ _ (by omega) ⟨rfl,(i + j) / 2 + 1,j,rfl,rfl,by omega,hj,fun k hk hki=>?_,h2⟩
   rcases Nat.lt_or_ge k ((i + j) / 2) with h3 | h3
   ·have:=ha.lt h3 hm; omega
   ·have:k=(i + j) / 2:=by omega
    subst this; exact h
  ·have h:n≤xs[(i + j) / 2]:=by simp at h; omega
   refine hnext _ _ _ (by omega) ⟨rfl,i,(i + j) / 2,rfl,rfl,by omega,by omega,h1,fun k hk hki=>?_⟩
   rcases Nat.lt_or_ge ((i + j) / 2) k with h3 | h3
   ·have:=ha.lt h3 hk; omega
   ·have:k=(i + j) / 2:=by omega
    subst this; exact h
 ·have hij:i=j:=by simp at hge; omega
  subst hij
  have hb:below n xs=i:=Au hj h1 (fun hi=>h2 i hi (Nat.le_refl _))
  rw [hb] at hQ
  rw [bL]
  by_cases hi:i<xs.length
  ·obtain ⟨b,o,_,_,hidx,hc⟩:=Sl.qX (E:=aS) hv (i:Int) hi
   have hc:=hc _ rfl
   have hm:decide (n∈xs)=(xs[i] == n):=by
    have:=Lm (n:=n) ha
    simp only [hb] at this
    by_cases h:xs[i]=n
    ·rw [decide_eq_true (this.2 ⟨hi,h⟩)]; simp [h]
    ·rw [decide_eq_false (fun hm=>h (this.1 hm).2)]; simp [h]
   rw [hm] at hQ
   rw [show decide ((i:Int)<(xs.length:Int))=true by simpa using hi,bS,hidx,fu]
   refine ⟨_,hc, ?_⟩
   rw [di,show (((xs[i] : Nat) : Int) == (n:Int))=(xs[i] == n) by
    by_cases h:xs[i]=n
    ·simp [h]
    ·have:((xs[i] : Int) == (n:Int))=false:=by simp; omega
     rw [this]; simp [h]]
   dsimp only
   cases he:xs[i] == n with
   | true =>
     rw [he] at hQ
     simp only [ui,bS,iY,bV,dC,dF,bU]
     exact hQ
   | false =>
     rw [he] at hQ
     rw [dC,hidx,fu]
     refine ⟨_,hc, ?_⟩
     refine hn ?_
     simp only [ui,bS,iY,bV,dC,dF,bU]
     exact hQ
  ·have hm:decide (n∈xs)=false:=by
    refine decide_eq_false fun h=>?_
    have:=(Lm (n:=n) ha).1 h
    simp only [hb] at this
    exact hi this.1
   rw [hm] at hQ
   rw [show decide ((i:Int)<(xs.length:Int))=false by simp; omega]
   simp only [ui,bS,iY,bV,dC,dF,bU]
   exact hQ
end Go.Ab.aC
set_option maxRecDepth 10000
set_option linter.unusedVariables false
set_option linter.unusedSimpArgs false
namespace Go.Ab.aC
open Go Go.Ab
theorem vY {M:RM} {b bx o ox dn sn k e:Nat} {l vs:List AV} {p:Bool} {cap capx:Cap} {K:ai} (hd:M.heap b=some (.row l p e 0)) (hk:Nat.min sn dn=k) (hk0:k≠0) (hl:M.loads bx ox k=some vs) (ho:o + k≤l.length) (hall:vs.all oneCell=true) :
  xI 1 (.slc b o dn cap) (.slc bx ox sn capx) M K=K (N .i64 (k:Int)) (M.put b (.row (l.take o++vs++l.drop (o + k)) p e 0)):=by
 have hvs:=Dx hl
 have hst:M.stores b o vs=some (M.put b (.row (l.take o++vs++l.drop (o + k)) p e 0)):=by
  rw [RM.uP hd,oF (by omega) (Nat.zero_le _) hall,hvs]; rfl
 have:IP 1 (.slc b o dn cap) (.slc bx ox sn capx) M=some (N .i64 (k:Int),M.put b (.row (l.take o++vs++l.drop (o + k)) p e 0)):=by
  unfold IP
  simp only [yY,hk,if_neg hk0,firstM,Nat.mul_one,hl,hst]
 unfold xI
 rw [this]
 apply propext
 constructor
 ·rintro ⟨v,M',h,hK⟩; cases h; exact hK
 ·intro hK; exact ⟨_,_,rfl,hK⟩
theorem rR {size b o n c at' : Nat} (h:at'≤n) (hc:n≤c) (hne:at'≠c) : bR size (.slc b o n (.ex c)) (some (N .i64 (at' : Int))) none none=some (.slc b (o + at' * size) (n - at') (.ex (c - at'))):=by
 simp only [bR,bnd]
 simp [h,hc,Ne.symm hne]
theorem Jl {size b o n c at' : Nat} (h:at'≤c) (hc:c≠0) : bR size (.slc b o n (.ex c)) none (some (N .i64 (at' : Int))) none=some (.slc b o at' (.ex c)):=by
 simp only [bR,bnd]
 simp [h,hc]
theorem nS {size b o n at' : Nat} (h:at'<n) : bR size (.slc b o n (.op size)) (some (N .i64 (at' : Int))) none none=some (.slc b (o + at' * size) (n - at') (.op size)):=by
 simp only [bR,bnd]
 simp [Nat.le_of_lt h]
 omega
theorem aaN {A B D:List AV} {X:AV} {k m:Nat} (hA:A.length=k) (hB:B.length=m) : (A++X :: B).take (k + 1)++D++(A++X :: B).drop (k + 1 + m)=A++X :: D:=by
 subst hA; subst hB
 have e:A++X :: B=(A++[X])++B:=by simp
 rw [e,List.take_left' (by simp),List.drop_of_length_le (by simp; omega)]
 simp
def kY:AV→Prop
 | .slc _ _ n (.ex c)=>n≤c
 | .slc _ _ _ (.op e)=>e=1
 | _=>True
def fV (k x:Nat) (xs:List Nat) : List Nat:=xs.take k++x :: xs.drop k
theorem AB {k x:Nat} {xs:List Nat} (h:k≤xs.length) : (fV k x xs).length=xs.length + 1:=by
 simp [fV]; omega
def X7 (c:av) : Prop:=∀ {M:RM} {ba oa na bb ob nb ea eb:Nat} {ca cb:Cap} {la lb:List AV} {opb:Bool} {Q:ai},ba≠bb→M.heap ba=some (.row la false ea 0)→M.heap bb=some (.row lb opb eb 0)→oa + 1≤la.length→1≤lb.length→Q (Bo false) M→c [.slc ba oa na ca,.slc bb ob nb cb] M Q
theorem ru {i:Nat} (h:i<9223372036854775807) : IntKind.wrap .i64 ((i:Int) + ((1:Nat) : Int))=((i + 1:Nat) : Int):=dQ h
theorem om (k:Nat) : (bM [N .u64 0] k).length=k∧(bM [N .u64 0] k).all oneCell=true:=by
 induction k with
 | zero=>exact ⟨rfl,rfl⟩
 | succ k ih=>exact ⟨by simp [bM,ih.1],by simp [bM,ih.2,O5]⟩
theorem V4 {M:RM} {b bx T n c k x ex:Nat} {xs:List Nat} {co cr:av} {Q:ai} (hov:X7 co) (hn:n=xs.length) (hnl:n≤1000000) (hc:n≤c) (hk:k<n)
  (hb:M.heap b=some (.row (aS.row xs++List.replicate (c - n) .top) true T 0)) (hbl:b<M.next) (hx:M.heap bx=some (.row [N .u64 (x:Int)] false ex 0)) (hxl:bx<M.next) (hne:bx≠b)
  (hQ:∀ v' M',Sl aS M' v' (fV k x xs)→kY v'→(∀ c∈aF v',c=b∨M.next≤c)→ah [b] M M'→Q v' M') : lD T co cr (.slc b 0 n (.ex c)) (N .i64 (k:Int)) (.slc bx 0 1 (.ex 1)) M Q:=by
 have hrow:(aS.row xs).length=n:=by rw [Enc.ed,hn]; simp [aS]
 have hlenb:(aS.row xs++List.replicate (c - n) AV.top).length=c:=by simp [hrow]; omega
 unfold lD
 rw [rR (by omega) hc (by omega),dD,lV,di,show ((((1:Nat) : Int)) == 0)=false from rfl,bK,lV,di,
  show (((k:Int)) == (n:Int))=false by simp; omega,bK,bH,ru (by omega),Zd,iC]
 have hxo:M.loads bx 0 1=some [N .u64 (x:Int)]:=by rw [RM.dh hx (by simp)]; rfl
 have hold:M.loads b k (n - k)=some ((aS.row xs).drop k):=by
  rw [RM.dh hb (by omega),List.drop_append_of_le_length (by omega),List.take_append_of_le_length (by simp [hrow]),List.take_of_length_le (by simp [hrow])]
 have hall:=aS.oK xs
 have hins:aS.row (fV k x xs)=(aS.row xs).take k++N .u64 (x:Int) :: (aS.row xs).drop k:=by
  have h1:=aS.uk xs k
  have h2:=aS.uq xs k
  simp only [show aS.size=1 from rfl,Nat.mul_one] at h1 h2
  rw [h1,h2,fV,Enc.rJ,Enc.iH]; rfl
 have hinl:(fV k x xs).length=n + 1:=by rw [AB (by omega),hn]
 have htl:((aS.row xs).take k).length=k:=by simp [hrow]; omega
 have hdl:((aS.row xs).drop k).length=n - k:=by simp [hrow]
 refine aI (fun hg=>?_) (fun hg=>?_)
 ·have hcn:c=n:=by simp at hg; omega
  subst hcn
  rw [Nat.sub_self,List.replicate_zero,List.append_nil] at hb
  rw [Jl (by omega) (by omega),dD,bH,ru (by omega),gT,
   show IntKind.wrap .i64 (((c + 1:Nat) : Int) - (k:Int))=((c + 1 - k:Nat) : Int) by rw [bD (by omega) (by omega)]; omega]
  have hr0:=om (c + 1 - k)
  refine ⟨c + 1 - k,bM [N .u64 0] (c + 1 - k),by simp [kN],by omega,by omega,.slc M.next 0 (c + 1) (.op 1),M.push (.row ((aS.row xs).take k++bM [N .u64 0] (c + 1 - k)) true T 0), ?_, ?_⟩
  ·have hl0:M.loads b 0 (k * 1)=some ((aS.row xs).take k):=by rw [RM.dh hb (by omega)]; simp
   simp only [mZ,if_neg (show ¬ c + 1 - k=0 by omega),if_neg (show ¬ k + (c + 1 - k)≤c by omega),hl0]
   have h1:(((aS.row xs).take k)++bM [N .u64 0] (c + 1 - k)).all oneCell=true:=by
    rw [List.all_append,hr0.2,Bool.and_true,List.all_eq_true]
    exact fun y hy=>List.all_eq_true.1 hall y (List.mem_of_mem_take hy)
   rw [if_pos ⟨by omega,by omega,h1⟩,show k + (c + 1 - k)=c + 1 by omega]
  ·have hnew:(M.push (.row ((aS.row xs).take k++bM [N .u64 0] (c + 1 - k)) true T 0)).heap M.next=some (.row ((aS.row xs).take k++bM [N .u64 0] (c + 1 - k)) true T 0):=RM.aR _
   have kp:ah [] M (M.push (.row ((aS.row xs).take k++bM [N .u64 0] (c + 1 - k)) true T 0)):=(ah.refl _ _).push _
   have hb1:=kp.aO hb hbl (by simp)
   have hx1:=kp.loads hxl (by simp) (o:=0) (k:=1)
   rw [hxo] at hx1
   have hn1:(M.push (.row ((aS.row xs).take k++bM [N .u64 0] (c + 1 - k)) true T 0)).next=M.next + 1:=rfl
   generalize M.push (.row ((aS.row xs).take k++bM [N .u64 0] (c + 1 - k)) true T 0)=M1 at *
   have hnl1:((aS.row xs).take k++bM [N .u64 0] (c + 1 - k)).length=c + 1:=by rw [List.length_append,htl,hr0.1]; omega
   dsimp only
   rw [nS (by omega),dD,vY (k:=1) hnew (by simp [Nat.min_def]; omega) (by omega) hx1 (by rw [hnl1]; omega) rfl,bH,ru (by omega),
    nS (by omega),dD,dD]
   simp only [Nat.mul_one,Nat.zero_add]
   have hrowx:((aS.row xs).take k++bM [N .u64 0] (c + 1 - k)).take k++[N .u64 (x:Int)]++((aS.row xs).take k++bM [N .u64 0] (c + 1 - k)).drop (k + 1)=(aS.row xs).take k++N .u64 (x:Int) :: bM [N .u64 0] (c - k):=by
    rw [List.take_append_of_le_length (by omega),List.take_of_length_le (by omega),← List.drop_drop,List.drop_left' htl,show c + 1 - k=(c - k) + 1 by omega,bM]
    simp
   rw [hrowx]
   have hnew2:(M1.put M.next (.row ((aS.row xs).take k++N .u64 (x:Int) :: bM [N .u64 0] (c - k)) true T 0)).heap M.next=some (.row ((aS.row xs).take k++N .u64 (x:Int) :: bM [N .u64 0] (c - k)) true T 0):=aZ _
   have hb2:=uG (z:=.row ((aS.row xs).take k++N .u64 (x:Int) :: bM [N .u64 0] (c - k)) true T 0) hb1 (show b≠M.next by omega)
   have kp2:ah [] M (M1.put M.next (.row ((aS.row xs).take k++N .u64 (x:Int) :: bM [N .u64 0] (c - k)) true T 0)):=kp.new _ (Nat.le_refl _)
   have hn2:(M1.put M.next (.row ((aS.row xs).take k++N .u64 (x:Int) :: bM [N .u64 0] (c - k)) true T 0)).next=M.next + 1:=hn1
   generalize M1.put M.next (.row ((aS.row xs).take k++N .u64 (x:Int) :: bM [N .u64 0] (c - k)) true T 0)=M2 at *
   have hr1:=om (c - k)
   have hold2:M2.loads b k (c - k)=some ((aS.row xs).drop k):=by
    rw [RM.dh hb2 (by omega),List.take_of_length_le (by simp [hrow])]
   have hnl2:((aS.row xs).take k++N .u64 (x:Int) :: bM [N .u64 0] (c - k)).length=c + 1:=by rw [List.length_append,htl,List.length_cons,hr1.1]; omega
   have hdall:((aS.row xs).drop k).all oneCell=true:=by
    rw [List.all_eq_true]; exact fun y hy=>List.all_eq_true.1 hall y (List.mem_of_mem_drop hy)
   rw [vY (k:=c - k) hnew2 (by simp [Nat.min_def]) (by omega) hold2 (by rw [hnl2]; omega) hdall]
   have hrow3:((aS.row xs).take k++N .u64 (x:Int) :: bM [N .u64 0] (c - k)).take (k + 1)++(aS.row xs).drop k++((aS.row xs).take k++N .u64 (x:Int) :: bM [N .u64 0] (c - k)).drop (k + 1 + (c - k))=aS.row (fV k x xs):=by
    rw [aaN htl hr1.1,hins]
   rw [hrow3]
   refine hQ _ _ ?_ rfl (fun d hd=>.inr (by simp [aF] at hd; omega)) ((kp2.new _ (Nat.le_refl _)).mono (by simp))
   have:Rw aS (M2.put M.next (.row (aS.row (fV k x xs)) true T 0)) M.next true T (fV k x xs):=⟨aZ _,by rw [lY]; omega⟩
   have h4:=this.sl (cap:=.op 1)
   rw [hinl] at h4
   exact h4
 ·have hcn:n + 1≤c:=by simp at hg; omega
  rw [bH,ru (by omega),Jl (by omega) (by omega),dD,bH,ru (by omega),rR (by omega) (by omega) (by omega),dD]
  simp only [Nat.zero_add,Nat.mul_one]
  refine hov hne hx hb (by simp) (by rw [hlenb]; omega) ?_
  rw [bO,Bool.not_false,dP,bH,ru (by omega),rR (by omega) (by omega) (by omega),dD,rR (by omega) (by omega) (by omega),dD]
  simp only [Nat.zero_add,Nat.mul_one]
  have hdall:((aS.row xs).drop k).all oneCell=true:=by
   rw [List.all_eq_true]; exact fun y hy=>List.all_eq_true.1 hall y (List.mem_of_mem_drop hy)
  rw [vY (k:=n - k) hb (by simp [Nat.min_def]; omega) (by omega) hold (by rw [hlenb]; omega) hdall]
  have hsplit:aS.row xs=(aS.row xs).take k++(aS.row xs).drop k:=(List.take_append_drop _ _).symm
  obtain ⟨y,D,hD⟩ : ∃ y D,(aS.row xs).drop k=y :: D:=by
   cases h:(aS.row xs).drop k with
   | nil=>rw [h] at hdl; simp at hdl; omega
   | cons y D=>exact ⟨y,D,rfl⟩
  obtain ⟨R,hR⟩ : ∃ R,List.replicate (c - n) AV.top=.top :: R∧R.length=c - n - 1:=⟨List.replicate (c - n - 1) AV.top,by rw [show c - n=(c - n - 1) + 1 by omega,List.replicate_succ]; simp,by simp⟩
  generalize hA:(aS.row xs).take k=A at *
  have hDl:D.length + 1=n - k:=by rw [hD] at hdl; simpa using hdl
  have hrow1:(aS.row xs++List.replicate (c - n) AV.top).take (k + 1)++(aS.row xs).drop k++(aS.row xs++List.replicate (c - n) AV.top).drop (k + 1 + (n - k))=A++y :: (y :: D++R):=by
   have hX:aS.row xs=A++y :: D:=by rw [hsplit,hD]
   rw [hD,hX,hR.1]
   have e1:A++y :: D++AV.top :: R=(A++[y])++(D++AV.top :: R):=by simp
   have e2:A++y :: D++AV.top :: R=(A++y :: D++[AV.top])++R:=by simp
   have d1:(A++y :: D++AV.top :: R).drop (k + 1 + (n - k))=R:=by rw [e2,List.drop_left' (by simp; omega)]
   have d2:(A++y :: D++AV.top :: R).take (k + 1)=A++[y]:=by rw [e1,List.take_left' (by simp [htl])]
   rw [d1,d2]
   simp
  rw [hrow1]
  have hb2:(M.put b (.row (A++y :: (y :: D++R)) true T 0)).heap b=some (.row (A++y :: (y :: D++R)) true T 0):=aZ _
  have kp:ah [b] M (M.put b (.row (A++y :: (y :: D++R)) true T 0)):=(ah.refl _ _).put _ (.inr (by simp))
  have hx2:=kp.loads hxl (by simp [hne]) (o:=0) (k:=1)
  rw [hxo] at hx2
  have hn2:(M.put b (.row (A++y :: (y :: D++R)) true T 0)).next=M.next:=rfl
  generalize M.put b (.row (A++y :: (y :: D++R)) true T 0)=M2 at *
  have hl2:(A++y :: (y :: D++R)).length=c:=by simp [htl,hR.2]; omega
  rw [dD,vY (k:=1) hb2 (by simp [Nat.min_def]; omega) (by omega) hx2 (by rw [hl2]; omega) rfl]
  have hrow2:(A++y :: (y :: D++R)).take k++[N .u64 (x:Int)]++(A++y :: (y :: D++R)).drop (k + 1)=aS.row (fV k x xs)++R:=by
   rw [hins,hD,List.take_left' htl,show (A++y :: (y :: D++R)).drop (k + 1)=y :: D++R by
    rw [show A++y :: (y :: D++R)=(A++[y])++(y :: D++R) by simp,List.drop_left' (by simp [htl])]]
   simp
  rw [hrow2]
  refine hQ _ _ ?_ (show n + 1≤c from hcn) (fun d hd=>.inl (by simpa [aF] using hd)) (kp.put _ (.inr (by simp)))
  rw [← hinl]
  refine .slc _ _ _ _ _ (by rw [lY,hn2]; exact hbl) ?_
  have hil:(aS.row (fV k x xs)).length=n + 1:=by rw [Enc.ed,hinl]; simp [aS]
  show RM.loads _ b 0 ((fV k x xs).length * 1)=_
  rw [Nat.mul_one,hinl,RM.dh (aZ _) (by rw [List.length_append,hil]; omega),List.drop_zero,List.take_append_of_le_length (by omega),List.take_of_length_le (by omega)]
end Go.Ab.aC
set_option maxRecDepth 10000
set_option linter.unusedVariables false
set_option linter.unusedSimpArgs false
namespace Go.Ab.aC
open Go Go.Ab
theorem Own.kY {M:RM} {n el n0:Nat} {v:AV} {cs:List AV} (h:Own M n0 el 1 v cs n) : kY v:=by
 cases h with
 | nil=>trivial
 | ex0=>exact Nat.le_refl _
 | op=>rfl
theorem Xg {M:RM} {v:AV} {xs:List Nat} {k:Nat} (h:Sl aS M v xs) (hc:kY v) (hk:k≤xs.length) :
  ∃ v',bR 1 v (some (N .i64 (k:Int))) none none=some v'∧Sl aS M v' (xs.drop k)∧kY v'∧∀ b∈aF v',b∈aF v:=by
 generalize hcs:aS.row xs=cs at *
 have h' : aM M 1 v cs xs.length:=by rw [← hcs]; exact h
 have hl:cs.length=xs.length:=by rw [← hcs,Enc.ed]; simp [aS]
 have hd:aS.row (xs.drop k)=cs.drop k:=by rw [← hcs,← aS.uq]; simp [aS]
 generalize hn:xs.length=n at *
 cases h' with
 | nil =>
   have:k=0:=by omega
   subst this
   exact ⟨eG,by simp [bR,bnd],by simp only [Sl]; rw [hd]; simp [hn]; exact .nil,trivial,by simp⟩
 | emp b =>
   have:k=0:=by omega
   subst this
   exact ⟨.emp b,by simp [bR,bnd],by simp only [Sl]; rw [hd]; simp [hn]; exact .emp b,trivial,by simp⟩
 | slc b o n cap cs hb hload =>
   rw [Nat.mul_one] at hload
   have hpart:M.loads b (o + k) (n - k)=some (cs.drop k):=by
    have:=uO hload k (n - k) (by omega)
    rw [List.take_of_length_le (by simp; omega)] at this
    exact this
   cases cap with
   | ex c =>
     have hcn:n≤c:=hc
     by_cases hck:c=k
     ·have hkn:k=n:=by omega
      refine ⟨.slc b o 0 (.ex 0),by simp only [bR,bnd]; simp [hk,hcn,hck]; omega, ?_,Nat.le_refl _,by simp [aF]⟩
      simp only [Sl]
      rw [hd,List.length_drop,hn,hkn,Nat.sub_self,List.drop_of_length_le (by omega)]
      refine .slc b o 0 _ _ hb ?_
      have:=uO hload 0 0 (by omega)
      simpa using this
     ·refine ⟨.slc b (o + k * 1) (n - k) (.ex (c - k)),by simp only [bR,bnd]; simp [hk,hcn,hck], ?_,by simp only [kY]; omega,by simp [aF]⟩
      simp only [Sl]
      rw [hd,List.length_drop,hn]
      refine .slc _ _ _ _ _ hb ?_
      show M.loads b (o + k * 1) ((n - k) * 1)=_
      rw [Nat.mul_one,Nat.mul_one]; exact hpart
   | op e =>
     have he:e=1:=hc
     subst he
     by_cases hkn:n≤k
     ·refine ⟨.emp b,by simp only [bR,bnd]; simp [hk,hkn], ?_,trivial,by simp [aF]⟩
      simp only [Sl]
      rw [hd,List.length_drop,hn,show n - k=0 by omega,List.drop_of_length_le (by omega)]
      exact .emp b
     ·refine ⟨.slc b (o + k * 1) (n - k) (.op 1),by simp only [bR,bnd]; simp [hk,hkn], ?_,rfl,by simp [aF]⟩
      simp only [Sl]
      rw [hd,List.length_drop,hn]
      refine .slc _ _ _ _ _ hb ?_
      show M.loads b (o + k * 1) ((n - k) * 1)=_
      rw [Nat.mul_one,Nat.mul_one]; exact hpart
def dV:Nat→List Nat→Nat × Nat
 | u,[]=>(u,0)
 | u,x :: xs=>if x≤u + 1 then ((dV (max u x) xs).1,(dV (max u x) xs).2 + 1) else (u,0)
def settle (u:Nat) (xs:List Nat) : Nat × List Nat:=((dV u xs).1,xs.drop (dV u xs).2)
theorem OX {u:Nat} {xs:List Nat} {i u' : Nat} (hi:i<xs.length) (h:dV u xs=((dV u' (xs.drop i)).1,(dV u' (xs.drop i)).2 + i)) (hle:xs[i]≤u' + 1) :
  dV u xs=((dV (max u' xs[i]) (xs.drop (i + 1))).1,(dV (max u' xs[i]) (xs.drop (i + 1))).2 + (i + 1)):=by
 rw [h,List.drop_eq_getElem_cons hi,dV,if_pos hle]
 ext <;> simp; omega
theorem NI {u:Nat} {xs:List Nat} {i u' : Nat} (h:dV u xs=((dV u' (xs.drop i)).1,(dV u' (xs.drop i)).2 + i)) (hs:i=xs.length∨∃ hi:i<xs.length,¬ xs[i]≤u' + 1) : dV u xs=(u',i):=by
 rw [h]
 rcases hs with hs | ⟨hi,hs⟩
 ·rw [List.drop_of_length_le (by omega)]; simp [dV]
 ·rw [List.drop_eq_getElem_cons hi,dV,if_neg hs]; simp
theorem NH (a b:Nat) : (if (b:Int) > (a:Int) then (b:Int) else (a:Int))=((max a b:Nat) : Int):=by
 split <;> omega
theorem Gh {l:List AV} {o:Nat} {x:AV} (h:l[o]?=some x) : l.set o x=l:=by
 apply List.ext_getElem?
 intro j
 rw [List.getElem?_set]
 split
 ·rename_i e; subst e
  obtain ⟨h1,h2⟩:=List.getElem?_eq_some_iff.1 h
  simp [h1,h2]
 ·rfl
def Aq (c:av) : Prop:=∀ {M:RM} {b o T u:Nat} {l:List AV} {v:AV} {xs:List Nat} {Q:ai},M.heap b=some (.row l false T 0)→l[o]?=some (N .u64 (u:Int))→l[o + 1]?=some v→Sl aS M v xs→b ∉ aF v→kY v →
 xs.length≤1000000→u≤4398046511104→(∀ x∈xs,x≤4398046511104) →
 (∀ v' M',M'.heap b=some (.row ((l.set o (N .u64 (((settle u xs).1:Nat) : Int))).set (o + 1) v') false T 0)→Sl aS M' v' (settle u xs).2→kY v'→(∀ d∈aF v',d∈aF v)→ah [b] M M'→M'.next=M.next→Q (.tup []) M')→c [.ptr b o] M Q
theorem OA:Aq fun args M Q=>∃ a0,args=[a0]∧tK a0 M Q:=by
 intro M b o T u l v xs Q hb ho hv hs hbv hcap hxl hu hx hQ
 refine ⟨_,rfl, ?_⟩
 unfold tK
 simp only [fF]
 have hol:o<l.length:=(List.getElem?_eq_some_iff.1 ho).1
 have hol1:o + 1<l.length:=(List.getElem?_eq_some_iff.1 hv).1
 refine aJ (fun m ys M3=>∃ (i u' : Nat),m=xs.length - i∧ys=[N .i64 (i:Int)]∧i≤xs.length∧u'≤4398046511104∧M3.heap b=some (.row (l.set o (N .u64 (u' : Int))) false T 0)∧ah [b] M M3∧M3.next=M.next ∧
   dV u xs=((dV u' (xs.drop i)).1,(dV u' (xs.drop i)).2 + i)) _
  ⟨0,u,rfl,rfl,Nat.zero_le _,hu, ?_,ah.refl _ _,rfl,by simp⟩ ?_
 ·rw [hb]
  rw [Gh ho]
 rintro next m ys M3 hnext ⟨i,u',rfl,rfl,hi,hu',h3,hK,hn3,hset⟩
 dsimp only [aa]
 have g0:(l.set o (N .u64 (u' : Int)))[o]?=some (N .u64 (u' : Int)):=by rw [List.getElem?_set_self hol]
 have g1:(l.set o (N .u64 (u' : Int)))[o + 1]?=some v:=by rw [List.getElem?_set_ne (by omega)]; exact hv
 have hs3:Sl aS M3 v xs:=aM.keep hs hK (fun d hd h=>by simp at h; subst h; exact hbv hd)
 rw [aK,aG,ak h3 g1,aM.len hs3,bL]
 have stop:(i=xs.length∨∃ hi:i<xs.length,¬ xs[i]≤u' + 1)→bG (.ptr b o) fun t44=>aD t44 1 fun t45=>aj M3 t45 fun t46=>eZ (bR 1 t46 (some (N .i64 (i:Int))) none none) fun t48=>bG (.ptr b o) fun t49=>aD t49 1 fun t50=>aN M3 t50 t48 1 fun M_48=>Q (.tup []) M_48:=fun h=>by
  have he:=NI hset h
  rw [aK,aG,ak h3 g1]
  obtain ⟨v',e1,e2,e3,e4⟩:=Xg hs3 hcap hi
  rw [e1,dD,aK,aG,fq h3 (by simpa using hol1) (aM.cells e2) (aM.one e2)]
  have kk:ah [b] M3 (M3.put b (.row ((l.set o (N .u64 (u' : Int))).set (o + 1) v') false T 0)):=(ah.refl _ _).put _ (.inr (by simp))
  refine hQ v' _ ?_ ?_ e3 e4 (hK.trans kk) hn3
  ·rw [aZ,settle,he]
  ·rw [settle,he]
   exact aM.keep e2 kk (fun d hd h=>by simp at h; subst h; exact hbv (e4 _ hd))
 by_cases hlt:i<xs.length
 ·have hxi:=hx _ (List.getElem_mem hlt)
  obtain ⟨b1,o1,_,_,hidx,hc⟩:=Sl.qX (E:=aS) hs3 (i:Int) hlt
  have hc:=hc _ rfl
  rw [show decide ((i:Int)<(xs.length:Int))=true by simpa using hlt,fe,aK,aG,ak h3 g1,hidx,fu]
  refine ⟨_,hc, ?_⟩
  rw [aK,aG,Nat.add_zero,ak h3 g0,bH,lW]
  rw [show IntKind.u64.wrap ((u' : Int) + 1)=((u' + 1:Nat) : Int) by unfold IntKind.wrap; simp [IntKind.bits,IntKind.signed]; omega]
  dsimp only
  rw [dF]
  refine aI (fun h=>?_) (fun h=>?_)
  ·have hle:xs[i]≤u' + 1:=by
    have h2:((xs[i] : Nat) : Int)≤((u' + 1:Nat) : Int):=of_decide_eq_true h
    omega
   rw [aK,aG,Nat.add_zero,ak h3 g0,aK,aG,ak h3 g1,hidx,fu]
   refine ⟨_,hc, ?_⟩
   rw [Vs,if_pos rfl,NH,aK,aG,Nat.add_zero,Es (l.set o (N .u64 ((max u' xs[i] : Nat) : Int))) h3 (by simpa using hol) rfl rfl (by rw [List.set_set]),bH,dQ (by omega)]
   exact hnext _ _ _ (by omega) ⟨i + 1,max u' xs[i],rfl,rfl,by omega,by omega,aZ _,hK.put _ (.inr (by simp)),hn3,OX hlt hset hle⟩
  ·have hle:¬ xs[i]≤u' + 1:=by
    have h2:¬ ((xs[i] : Nat) : Int)≤((u' + 1:Nat) : Int):=of_decide_eq_false h
    omega
   exact stop (.inr ⟨hlt,hle⟩)
 ·rw [show decide ((i:Int)<(xs.length:Int))=false by simp; omega,jL]
  dsimp only
  rw [bU,bK]
  exact stop (.inl (by omega))
abbrev Pt:=Nat × List Nat
def fU (p:Pt) (n:Nat) : Bool × Pt :=
 if n∈p.2∨n≤p.1 then (true,p)
 else if (settle p.1 (fV (below n p.2) n p.2)).2.length≤4096 then (true,settle p.1 (fV (below n p.2) n p.2)) else (false,p)
def Rp (T:Nat) (c:av) : Prop:=∀ {M:RM} {v:AV} {bx n0 k x ex:Nat} {xs:List Nat} {Q:ai},Ow aS M n0 T v xs→n0≤M.next→xs.length≤100000→k≤xs.length→M.heap bx=some (.row [N .u64 (x:Int)] false ex 0)→bx<M.next→bx ∉ aF v →
 (∀ v' M',Sl aS M' v' (fV k x xs)→kY v'→(∀ c∈aF v',n0≤c)→ah (aF v) M M'→Q v' M')→c [v,N .i64 (k:Int),.slc bx 0 1 (.ex 1)] M Q
theorem vK (u:Nat) (xs:List Nat) : (settle u xs).2.length≤xs.length:=by simp [settle]
theorem BG {k x:Nat} {xs:List Nat} {y:Nat} (h:y∈fV k x xs) : y=x∨y∈xs:=by
 unfold fV at h
 rcases List.mem_append.1 h with h | h
 ·exact .inr (List.mem_of_mem_take h)
 ·rcases List.mem_cons.1 h with h | h
  ·exact .inl h
  ·exact .inr (List.mem_of_mem_drop h)
def RH (c:av) : Prop:=∀ {M:RM} {b o T u n:Nat} {l:List AV} {v:AV} {xs:List Nat} {Q:ai},M.heap b=some (.row l false T 0)→b<M.next→l[o]?=some (N .u64 (u:Int))→l[o + 1]?=some v→Sl aS M v xs→b ∉ aF v→kY v →
 Asc xs→xs.length≤10000→u≤4398046511104→(∀ x∈xs,x≤4398046511104)→n≤4398046511104 →
 (∀ M',fU (u,xs) n=((fU (u,xs) n).1,(u,xs))→ah [] M M'→Q (Bo (fU (u,xs) n).1) M') →
 (∀ v' M',M'.heap b=some (.row (l.take o++[N .u64 (((fU (u,xs) n).2.1:Nat) : Int),v']++l.drop (o + 2)) false T 0)→Sl aS M' v' (fU (u,xs) n).2.2→kY v'→(∀ d∈aF v',M.next≤d)→ah [b] M M'→Q (Bo (fU (u,xs) n).1) M') →
 c [.ptr b o,N .u64 (n:Int)] M Q
theorem VV {TU TP:Nat} {cb cc ci cs:av} (hsr:EH cb) (hcl:DK TU 1 8 cc) (hin:Rp TU ci) (hst:Aq cs) : RH fun args M Q=>∃ a0 a1,args=[a0,a1]∧Bf cb TU TP cc ci cs a0 a1 M Q:=by
 intro M b o T u n l v xs Q hb hbl ho hv hs hbv hcap hasc hxl hu hx hn hsame hnew
 refine ⟨_,_,rfl, ?_⟩
 unfold Bf
 simp only [gM]
 have hol:o + 1<l.length:=(List.getElem?_eq_some_iff.1 hv).1
 rw [aK,aG,ak hb hv]
 refine hsr hs (by omega) hasc ?_
 rw [oZ,pF]
 have yes:n∈xs∨n≤u→Q (Bo true) M:=fun h=>by
  have e:fU (u,xs) n=(true,(u,xs)):=by unfold fU; rw [if_pos h]
  have:=hsame M (by rw [e]) (ah.refl _ _)
  rw [e] at this; exact this
 by_cases hm:n∈xs
 ·rw [decide_eq_true hm,iY]
  dsimp only
  rw [dF,dP]
  exact yes (.inl hm)
 rw [decide_eq_false hm,dC,aK,aG,Nat.add_zero,ak hb ho,lW]
 dsimp only
 rw [bU]
 by_cases hnu:n≤u
 ·rw [show decide ((n:Int)≤(u:Int))=true by simpa using hnu,dP]
  exact yes (.inr hnu)
 rw [show decide ((n:Int)≤(u:Int))=false by simp; omega,bK]
 have e0:fU (u,xs) n=if (settle u (fV (below n xs) n xs)).2.length≤4096 then (true,settle u (fV (below n xs) n xs)) else (false,(u,xs)):=by
  unfold fU; rw [if_neg (by simp [hm]; omega)]
 rw [aK,aG,Nat.add_zero,ak hb ho,aK,aG,ak hb hv,je (x:=N .u64 (n:Int)) (size:=1) rfl rfl rfl,iV,iV]
 have hx1:((M.push (.row [N .u64 (n:Int)] false TU 0)).push (.row [N .u64 0,eG] false TP 0)).heap M.next=some (.row [N .u64 (n:Int)] false TU 0):=kU (RM.aR _) (by simp [RM.push])
 have h7:((M.push (.row [N .u64 (n:Int)] false TU 0)).push (.row [N .u64 0,eG] false TP 0)).heap (M.next + 1)=some (.row [N .u64 0,eG] false TP 0):=RM.aR _
 have kk:ah [] M ((M.push (.row [N .u64 (n:Int)] false TU 0)).push (.row [N .u64 0,eG] false TP 0)):=((ah.refl _ _).push _).push _
 have nn:((M.push (.row [N .u64 (n:Int)] false TU 0)).push (.row [N .u64 0,eG] false TP 0)).next=M.next + 2:=rfl
 rw [Eo]
 change cc _ ((M.push (.row [N .u64 (n:Int)] false TU 0)).push (.row [N .u64 0,eG] false TP 0)) _
 generalize (M.push (.row [N .u64 (n:Int)] false TU 0)).push (.row [N .u64 0,eG] false TP 0)=M1 at *
 refine hcl (aM.keep hs kk (by simp)) (aS.oK xs) (by omega) (by omega) fun v1 M2 ow k2=>?_
 have n2:=k2.next
 have hb2:=(kk.trans k2).aO hb hbl (by simp)
 have hx2:=k2.aO hx1 (by omega) (by simp)
 have h72:=k2.aO h7 (by omega) (by simp)
 have hbi:=below_le n xs
 have hwb:∀ d∈aF v1,M1.next≤d:=fun d hd=>(ow.blk d hd).1
 rw [ak hb2 ho]
 refine ⟨rfl, ?_⟩
 rw [je (x:=N .u64 (n:Int)) (size:=1) rfl rfl rfl]
 refine ⟨⟨hx2,rfl⟩,⟨h72,rfl⟩, ?_⟩
 refine hin (n0:=M1.next) ow n2 (by omega) hbi hx2 (by omega) (fun h=>by have:=hwb _ h; omega) fun v2 M3 s3 c3 b3 k3=>?_
 have n3:=k3.next
 have ke:ah [] M M3:=(kk.trans k2).bi k3 fun d hd=>.inl (by have:=hwb d hd; omega)
 have hb3:=ke.aO hb hbl (by simp)
 have h73:=k3.aO h72 (by omega) (fun h=>by have:=hwb _ h; omega)
 rw [ak hb3 ho]
 refine ⟨rfl,⟨h73,rfl⟩, ?_⟩
 rw [mW]
 refine ⟨[N .u64 (u:Int),v2],UX rfl rfl (aM.known s3) (aM.cells s3), ?_⟩
 rw [gI (n:=2) (x:=.agg [N .u64 (u:Int),v2]) (l:=[N .u64 0,eG]) h73 rfl rfl (by simp [AV.cells,O5,aM.one s3])]
 change cs _ (M3.put (M.next + 1) (.row [N .u64 (u:Int),v2] false TP 0)) _
 have h74:(M3.put (M.next + 1) (.row [N .u64 (u:Int),v2] false TP 0)).heap (M.next + 1)=_:=aZ _
 have ke4:ah [] M (M3.put (M.next + 1) (.row [N .u64 (u:Int),v2] false TP 0)):=ke.new _ (by omega)
 have n4:(M3.put (M.next + 1) (.row [N .u64 (u:Int),v2] false TP 0)).next=M3.next:=rfl
 have s4:Sl aS (M3.put (M.next + 1) (.row [N .u64 (u:Int),v2] false TP 0)) v2 (fV (below n xs) n xs):=aM.keep (bs:=[M.next + 1]) s3 ((ah.refl _ _).put _ (.inr (by simp))) (fun d hd h=>by have:=b3 d hd; simp at h; omega)
 have hb4:=uG (z:=.row [N .u64 (u:Int),v2] false TP 0) hb3 (show b≠M.next + 1 by omega)
 generalize M3.put (M.next + 1) (.row [N .u64 (u:Int),v2] false TP 0)=M4 at *
 have hil:=AB (x:=n) hbi
 refine hst h74 rfl rfl s4 (fun h=>by have:=b3 _ h; omega) c3 (by omega) hu (fun y hy=>by rcases BG hy with rfl | hy; exact hn; exact hx y hy) ?_
 intro v5 M5 h75 s5 c5 b5 k5 n5
 have hb5:=k5.aO hb4 (by omega) (by simp; omega)
 have ke5:ah [] M M5:=ke4.bi k5 fun d hd=>.inl (by simp at hd; omega)
 simp only [List.set_cons_zero,List.set_cons_succ,Nat.zero_add] at h75
 rw [aW,ak h75 rfl,aM.len s5,iC]
 refine aI (fun hg=>?_) (fun hg=>?_)
 ·have hg:¬ (settle u (fV (below n xs) n xs)).2.length≤4096:=by simp at hg; omega
  rw [if_neg hg] at e0
  have:=hsame M5 (by rw [e0]) ke5
  rw [e0] at this; exact this
 ·have hg:(settle u (fV (below n xs) n xs)).2.length≤4096:=by simp at hg; omega
  rw [if_pos hg] at e0
  rw [dG (n:=2) h75 rfl,aK,vR]
  have hst:M5.stores b o [N .u64 (((settle u (fV (below n xs) n xs)).1:Nat) : Int),v5]=some (M5.put b (.row (l.take o++[N .u64 (((settle u (fV (below n xs) n xs)).1:Nat) : Int),v5]++l.drop (o + 2)) false T 0)):=by
   rw [RM.uP hb5,oF (by simp only [List.length_cons,List.length_nil]; omega) (Nat.zero_le _) (by simp [O5,aM.one s5])]; rfl
  refine ⟨rfl,_,hst, ?_⟩
  have kf:ah [b] M5 (M5.put b (.row (l.take o++[N .u64 (((settle u (fV (below n xs) n xs)).1:Nat) : Int),v5]++l.drop (o + 2)) false T 0)):=(ah.refl _ _).put _ (.inr (by simp))
  have:=hnew v5 _ (by rw [aZ,e0]) (by rw [e0]; exact aM.keep s5 kf (fun d hd h=>by have:=b3 d (b5 d hd); simp at h; omega)) c5 (fun d hd=>by have:=b3 d (b5 d hd); omega) ((ke5.mono (by simp)).trans kf)
  rw [e0] at this; exact this
end Go.Ab.aC
set_option maxRecDepth 10000
set_option linter.unusedVariables false
set_option linter.unusedSimpArgs false
namespace Go.Ab.aC
open Go Go.Ab
def il (p:Pt) (n:Nat) : Bool:=(decide (1≤n) && decide (n≤p.1)) || decide (n∈p.2)
def MH (c:av) : Prop:=∀ {M:RM} {b o T u n:Nat} {l:List AV} {v:AV} {xs:List Nat} {Q:ai},M.heap b=some (.row l false T 0)→l[o]?=some (N .u64 (u:Int))→l[o + 1]?=some v→Sl aS M v xs→Asc xs→xs.length≤1000000 →
 Q (Bo (il (u,xs) n)) M→c [.ptr b o,N .u64 (n:Int)] M Q
theorem VD {cb:av} (hsr:EH cb) : MH fun args M Q=>∃ a0 a1,args=[a0,a1]∧AX cb a0 a1 M Q:=by
 intro M b o T u n l v xs Q hb ho hv hs hasc hxl hQ
 refine ⟨_,_,rfl, ?_⟩
 unfold AX
 simp only [gM]
 unfold il at hQ
 rw [aK,aG,ak hb hv]
 refine hsr hs hxl hasc ?_
 rw [oZ,pF,jw]
 by_cases h1:1≤n
 ·rw [show decide ((n:Int) ≥ 1)=true by simp; omega,bS,aK,aG,Nat.add_zero,ak hb ho,lW]
  dsimp only
  rw [dF]
  by_cases h2:n≤u
  ·rw [show decide ((n:Int)≤(u:Int))=true by simpa using h2,iY]
   dsimp only
   rw [dF]
   simpa [h1,h2] using hQ
  ·rw [show decide ((n:Int)≤(u:Int))=false by simp; omega,dC]
   dsimp only
   rw [bU]
   simpa [h1,h2] using hQ
 ·rw [show decide ((n:Int) ≥ 1)=false by simp; omega,bV]
  dsimp only
  rw [bU,dC]
  dsimp only
  rw [bU]
  simpa [h1] using hQ
abbrev aC:=Int × Nat
abbrev aQ (d:aC) : List AV:=[N .i64 d.1,N .u64 (d.2:Int)]
def dz:Enc aC:=⟨2,aQ,fun _=>rfl,fun _=>rfl⟩
def good (d:aC) : Bool:=decide (0≤d.1) && decide (d.1<16) && decide (1≤d.2) && decide (d.2≤1099511627776)
def xH (c:av) : Prop:=∀ {M:RM} {d:aC} {Q:ai},(∀ M',ah [] M M'→Q (Bo (good d)) M')→c [.agg (aQ d)] M Q
theorem LU {M1:RM} {K:ai} {d:aC} {T:Nat} {b:Nat} (h:M1.heap b=some (.row (aQ d) false T 0)) (hQ:K (Bo (good d)) M1) :
  aD (.ptr b 0) 0 fun t3=>aj M1 t3 fun t4=>af .geq t4 (N .i64 0) fun t5 =>
   au t5 true (fun k'=>aD (.ptr b 0) 0 fun t7=>aj M1 t7 fun t8=>af .lss t8 (N .i64 16) fun t9=>k' t9 M1) (fun k=>k .undef M1) fun t9 M2=>aP t5 t9 (Bo false) fun bQ =>
   au bQ true (fun k'=>aD (.ptr b 0) 1 fun t12=>aj M2 t12 fun bf=>af .geq bf (N .u64 1) fun t14=>k' t14 M2) (fun k=>k .undef M2) fun t14 M3=>aP bQ t14 (Bo false) fun t15 =>
   au t15 true (fun k'=>aD (.ptr b 0) 1 fun t17=>aj M3 t17 fun t18=>af .leq t18 (N .u64 1099511627776) fun t19=>k' t19 M3) (fun k=>k .undef M3) fun t19 M4=>aP t15 t19 (Bo false) fun t20=>K t20 M4:=by
 unfold good at hQ
 obtain ⟨dv,n⟩:=d
 simp only at hQ
 rw [aW,ak h rfl,jw]
 by_cases h1:0≤dv
 ·rw [show decide (dv ≥ 0)=true by simpa using h1,bS,aW,ak h rfl,bL]
  dsimp only
  rw [dF]
  by_cases h2:dv<16
  ·rw [show decide (dv<16)=true by simpa using h2,bS,aW,ak h rfl,jw]
   dsimp only
   rw [dF]
   by_cases h3:1≤n
   ·rw [show decide ((n:Int) ≥ 1)=true by simp; omega,bS,aW,ak h rfl,lW]
    dsimp only
    rw [dF,show decide ((n:Int)≤1099511627776)=decide (n≤1099511627776) by simp; omega]
    simpa [h1,h2,h3] using hQ
   ·rw [show decide ((n:Int) ≥ 1)=false by simp; omega,bV]
    dsimp only
    rw [bU]
    simpa [h1,h2,h3] using hQ
  ·rw [show decide (dv<16)=false by simpa using h2,bV]
   dsimp only
   rw [bU,bV]
   dsimp only
   rw [bU]
   simpa [h1,h2] using hQ
 ·rw [show decide (dv ≥ 0)=false by simpa using h1,bV]
  dsimp only
  rw [bU,bV]
  dsimp only
  rw [bU,bV]
  dsimp only
  rw [bU]
  simpa [h1] using hQ
theorem U9 {T:Nat} : xH fun args M Q=>∃ a0,args=[a0]∧G9 T a0 M Q:=by
 intro M d Q hQ
 refine ⟨_,rfl, ?_⟩
 unfold G9
 simp only [gM]
 rw [dH rfl (by simp),aX]
 exact LU (RM.aR _) (hQ _ ((ah.refl _ _).push _))
theorem NV {T:Nat} : xH fun args M Q=>∃ a0,args=[a0]∧Hw T a0 M Q:=by
 intro M d Q hQ
 refine ⟨_,rfl, ?_⟩
 unfold Hw
 simp only [gM]
 rw [dH rfl (by simp),aX]
 exact LU (RM.aR _) (hQ _ ((ah.refl _ _).push _))
def iZ (p:Pt) : Prop:=Asc p.2∧(∀ x∈p.2,p.1 + 1<x)∧p.1≤1099511627776∧(∀ x∈p.2,x≤1099511627776)∧p.2.length≤4096
theorem WB {n:Nat} {xs:List Nat} (h:Asc xs) (hn:n ∉ xs) : Asc (fV (below n xs) n xs):=by
 unfold fV Asc
 rw [List.pairwise_append]
 have ht:=List.Pairwise.sublist (List.take_sublist (below n xs) xs) h
 have hd:=List.Pairwise.sublist (List.drop_sublist (below n xs) xs) h
 have lt1:∀ a∈xs.take (below n xs),a<n:=fun a ha=>by
  obtain ⟨i,hi,rfl⟩:=List.getElem_of_mem ha
  rw [List.getElem_take]
  exact Nl (by simp at hi; omega) (by simp at hi; omega)
 have gt1:∀ a∈xs.drop (below n xs),n<a:=fun a ha=>by
  obtain ⟨i,hi,rfl⟩:=List.getElem_of_mem ha
  rw [List.getElem_drop]
  simp only [List.length_drop] at hi
  have h0:below n xs<xs.length:=by omega
  have h1:=Oi (n:=n) h0
  have h2:xs[below n xs]≠n:=fun e=>hn (by rw [← e]; exact List.getElem_mem h0)
  rcases Nat.eq_zero_or_pos i with rfl | hi0
  ·simp only [Nat.add_zero]; omega
  ·have:=h.lt (i:=below n xs) (j:=below n xs + i) (by omega) (by omega); omega
 refine ⟨ht,List.pairwise_cons.2 ⟨gt1,hd⟩,fun a ha b hb=>?_⟩
 rcases List.mem_cons.1 hb with rfl | hb
 ·exact lt1 a ha
 ·have:=lt1 a ha; have:=gt1 b hb; omega
theorem rU:∀ (xs:List Nat) (u N:Nat),Asc xs→u≤N→(∀ x∈xs,x≤N)→Asc (settle u xs).2∧(∀ x∈(settle u xs).2,(settle u xs).1 + 1<x)∧(settle u xs).1≤N∧u≤(settle u xs).1
 | [],u,N,_,hu,_=>⟨by simp [settle,dV,Asc],by simp [settle,dV],hu,Nat.le_refl _⟩
 | x :: xs,u,N,ha,hu,hx=>by
   have ha2:=(List.pairwise_cons.1 ha).2
   by_cases h:x≤u + 1
   ·have e:settle u (x :: xs)=settle (max u x) xs:=by
     unfold settle
     rw [dV,if_pos h]; rfl
    rw [e]
    have:=rU xs (max u x) N ha2 (by have:=hx x (by simp); omega) (fun y hy=>hx y (by simp [hy]))
    exact ⟨this.1,this.2.1,this.2.2.1,by have:=this.2.2.2; omega⟩
   ·have e:settle u (x :: xs)=(u,x :: xs):=by
     unfold settle
     rw [dV,if_neg h]; rfl
    rw [e]
    refine ⟨ha,fun y hy=>?_,hu,Nat.le_refl _⟩
    simp only at hy ⊢
    rcases List.mem_cons.1 hy with rfl | hy
    ·omega
    ·have:=(List.pairwise_cons.1 ha).1 y hy; omega
theorem BM {u:Nat} {xs:List Nat} {y:Nat} (h:y∈(settle u xs).2) : y∈xs:=List.mem_of_mem_drop h
theorem YF {p:Pt} {n:Nat} (hp:iZ p) (hn:n≤1099511627776) : iZ (fU p n).2:=by
 unfold fU
 split
 ·exact hp
 ·rename_i h
  split
  ·rename_i h2
   have hm:n ∉ p.2:=fun hm=>h (.inl hm)
   have:=rU (fV (below n p.2) n p.2) p.1 1099511627776 (WB hp.1 hm) hp.2.2.1 (fun x hx=>by rcases BG hx with rfl | hx; exact hn; exact hp.2.2.2.1 x hx)
   exact ⟨this.1,this.2.1,this.2.2.1,fun x hx=>by rcases BG (BM hx) with rfl | hx; exact hn; exact hp.2.2.2.1 x hx,h2⟩
  ·exact hp
structure fZ (T:Nat) (S:Nat→Prop) (M:RM) (b:Nat) (ps:List Pt) : Prop where
 lt:b<M.next
 len:ps.length=16
 row:∃ l,M.heap b=some (.row l false T 0)∧l.length=32∧∀ (i:Nat) (hi:i<ps.length),∃ v,l[2 * i]?=some (N .u64 (ps[i].1:Int))∧l[2 * i + 1]?=some v∧Sl aS M v ps[i].2∧kY v∧∀ d∈aF v,S d
 nb:¬ S b
theorem fZ.mono {T:Nat} {S S' : Nat→Prop} {M:RM} {b:Nat} {ps:List Pt} (h:fZ T S M b ps) (hs:∀ d,S d→S' d) (hb:¬ S' b) : fZ T S' M b ps:=by
 obtain ⟨l,h1,h2,h3⟩:=h.row
 exact ⟨h.lt,h.len,⟨l,h1,h2,fun i hi=>let ⟨v,a1,a2,a3,a4,a5⟩:=h3 i hi; ⟨v,a1,a2,a3,a4,fun d hd=>hs d (a5 d hd)⟩⟩,hb⟩
theorem fZ.keep {T:Nat} {S:Nat→Prop} {M M' : RM} {b:Nat} {ps:List Pt} {bs:List Nat} (h:fZ T S M b ps) (hk:ah bs M M') (hb:b ∉ bs) (hs:∀ d∈bs,¬ S d) : fZ T S M' b ps:=by
 obtain ⟨l,h1,h2,h3⟩:=h.row
 exact ⟨Nat.lt_of_lt_of_le h.lt hk.next,h.len,⟨l,hk.aO h1 h.lt hb,h2,fun i hi=>let ⟨v,a1,a2,a3,a4,a5⟩:=h3 i hi; ⟨v,a1,a2,aM.keep a3 hk (fun d hd hm=>hs d hm (a5 d hd)),a4,a5⟩⟩,h.nb⟩
theorem fZ.below {T:Nat} {S:Nat→Prop} {M:RM} {b:Nat} {ps:List Pt} (h:fZ T S M b ps) : fZ T (fun d=>S d∧d<M.next) M b ps:=by
 obtain ⟨l,h1,h2,h3⟩:=h.row
 exact ⟨h.lt,h.len,⟨l,h1,h2,fun i hi=>let ⟨v,a1,a2,a3,a4,a5⟩:=h3 i hi; ⟨v,a1,a2,a3,a4,fun d hd=>⟨a5 d hd,aM.lt a3 d hd⟩⟩⟩,fun hb=>h.nb hb.1⟩
def lg (ps:List Pt) (d:aC) : Int × List Pt :=
 if good d then (if (fU (ps.getD d.1.toNat (0,[])) d.2).1 then (0,ps.set d.1.toNat (fU (ps.getD d.1.toNat (0,[])) d.2).2) else (2,ps)) else (1,ps)
def Si (T:Nat) (c:av) : Prop:=∀ {M:RM} {b:Nat} {ps:List Pt} {d:aC} {S:Nat→Prop} {Q:ai},fZ T S M b ps→(∀ p∈ps,iZ p) →
 (∀ M',fZ T (fun e=>S e∨M.next≤e) M' b (lg ps d).2→ah [b] M M'→Q (N .i64 (lg ps d).1) M')→c [.ptr b 0,.agg (aQ d)] M Q
theorem Su {p:Pt} {n:Nat} (h:(fU p n).1=false) : (fU p n).2=p:=by
 unfold fU at h ⊢
 split
 ·rfl
 ·split
  ·rename_i h1 h2
   rw [if_neg h1,if_pos h2] at h; cases h
  ·rfl
theorem VG {T TD:Nat} {cg ca:av} (hg:xH cg) (ha:RH ca) : Si T fun args M Q=>∃ a0 a1,args=[a0,a1]∧Eh TD cg ca a0 a1 M Q:=by
 intro M b ps d S Q hset hwf hQ
 refine ⟨_,_,rfl, ?_⟩
 unfold Eh
 rw [dH rfl (by simp),aX,dG (n:=2) (RM.aR _) rfl]
 have k1:ah [] M (M.push (.row (aQ d) false TD 0)):=(ah.refl _ _).push _
 have h3:(M.push (.row (aQ d) false TD 0)).heap M.next=some (.row (aQ d) false TD 0):=RM.aR _
 have n1:(M.push (.row (aQ d) false TD 0)).next=M.next + 1:=rfl
 generalize M.push (.row (aQ d) false TD 0)=M1 at *
 refine hg fun M2 k2=>?_
 have kk:=k1.trans k2
 have h3:=k2.aO h3 (by omega) (by simp)
 have s2:=hset.keep kk (by simp) (by simp)
 have hbl:=hset.lt
 rw [bO]
 unfold lg at hQ
 have n2:=k2.next
 cases hgd:good d with
 | false =>
   simp only [hgd,Bool.false_eq_true,if_false] at hQ
   rw [Bool.not_false,dP]
   exact hQ M2 (s2.mono (fun e h=>.inl h) (fun h=>by rcases h with h | h; exact hset.nb h; omega)) (kk.mono (by simp))
 | true =>
   simp only [hgd,if_true] at hQ
   have hgd':=hgd
   simp [good] at hgd'
   obtain ⟨i,hi⟩ : ∃ i:Nat,d.1=(i:Int):=⟨d.1.toNat,by omega⟩
   have hi16:i<16:=by omega
   have hil:i<ps.length:=by rw [hset.len]; exact hi16
   have hgetD:ps.getD d.1.toNat (0,[])=ps[i]:=by rw [hi,Int.toNat_natCast,List.getD_eq_getElem?_getD,List.getElem?_eq_getElem hil]; rfl
   rw [hgetD] at hQ
   rw [hi,Int.toNat_natCast] at hQ
   rw [Bool.not_true,bK,aW,ak h3 rfl,aK,aW,hi,gW]
   refine ⟨by omega,by omega, ?_⟩
   rw [aW,ak h3 rfl,Int.toNat_natCast,Nat.zero_add,Nat.mul_comm i 2]
   obtain ⟨l,hb,hl32,hrow⟩:=s2.row
   obtain ⟨v,a1,a2,a3,a4,a5⟩:=hrow i hil
   have hwp:=hwf _ (List.getElem_mem hil)
   have hk0:∀ b'∈([b] : List Nat),b'=b:=by simp
   refine ha hb s2.lt a1 a2 a3 (fun h=>hset.nb (a5 b h)) a4 hwp.1 (by have:=hwp.2.2.2.2; omega) (by have:=hwp.2.2.1; omega) (fun x hx=>by have:=hwp.2.2.2.1 x hx; omega) (by omega) ?_ ?_
   ·intro M3 he k3
    have s3:=s2.keep k3 (by simp) (by simp)
    rw [bO]
    cases hr:(fU (ps[i].1,ps[i].2) d.2).1 with
    | false =>
      have hr' : (fU ps[i] d.2).1=false:=hr
      simp only [hr',Bool.false_eq_true,if_false] at hQ
      rw [Bool.not_false,dP]
      exact hQ M3 (s3.mono (fun e h=>.inl h) (fun h=>by rcases h with h | h; exact hset.nb h; omega)) ((kk.trans k3).mono (by simp))
    | true =>
      have hr' : (fU ps[i] d.2).1=true:=hr
      have he2:(fU ps[i] d.2).2=ps[i]:=by
       have:=congrArg Prod.snd he
       exact this
      simp only [hr',if_true,he2,List.set_getElem_self] at hQ
      rw [Bool.not_true,bK]
      exact hQ M3 (s3.mono (fun e h=>.inl h) (fun h=>by rcases h with h | h; exact hset.nb h; omega)) ((kk.trans k3).mono (by simp))
   ·intro v' M3 hb3 hs3 hc3 hbk k3
    rw [bO]
    have hb2n:∀ b'∈aF v',b'≠b:=fun b' hb' e=>by have:=hbk b' hb'; omega
    have set3:fZ T (fun e=>S e∨M.next≤e) M3 b (ps.set i (fU ps[i] d.2).2):=by
     refine ⟨Nat.lt_of_lt_of_le s2.lt k3.next,by rw [List.length_set]; exact hset.len,⟨_,hb3,by simp [hl32]; omega,fun j hj=>?_⟩,fun h=>by rcases h with h | h; exact hset.nb h; omega⟩
     rw [List.length_set] at hj
     have htl:(l.take (2 * i)).length=2 * i:=by simp; omega
     by_cases hji:j=i
     ·subst hji
      refine ⟨v', ?_, ?_, ?_,hc3,fun e he=>.inr (by have:=hbk e he; omega)⟩
      ·rw [List.append_assoc,List.getElem?_append_right (by omega),htl,Nat.sub_self]; simp
      ·rw [List.append_assoc,List.getElem?_append_right (by omega),htl,show 2 * j + 1 - 2 * j=1 by omega]; simp
      ·simp only [List.getElem_set_self]; exact hs3
     ·obtain ⟨w,e1,e2,e3,e4,e5⟩:=hrow j hj
      have same:∀ k,(k=2 * j∨k=2 * j + 1)→(l.take (2 * i)++[N .u64 (((fU (ps[i].1,ps[i].2) d.2).2.1:Nat) : Int),v']++l.drop (2 * i + 2))[k]?=l[k]?:=fun k hk=>by
       rcases Nat.lt_or_ge k (2 * i) with h | h
       ·rw [List.append_assoc,List.getElem?_append_left (by omega),List.getElem?_take_of_lt h]
       ·rw [List.getElem?_append_right (by simp; omega),List.getElem?_drop]
        congr 1
        simp; omega
      refine ⟨w, ?_, ?_, ?_,e4,fun e he=>.inl (e5 e he)⟩
      ·rw [same _ (.inl rfl),e1,List.getElem_set_ne (Ne.symm hji)]
      ·rw [same _ (.inr rfl),e2]
      ·rw [List.getElem_set_ne (Ne.symm hji)]
       exact aM.keep e3 k3 (fun e he hm=>by simp at hm; subst hm; exact hset.nb (e5 _ he))
    cases hr:(fU (ps[i].1,ps[i].2) d.2).1 with
    | false =>
      have hr' : (fU ps[i] d.2).1=false:=hr
      simp only [hr',Bool.false_eq_true,if_false] at hQ
      rw [Bool.not_false,dP]
      have e:=Su hr'
      rw [e,List.set_getElem_self] at set3
      exact hQ M3 set3 ((kk.mono (by simp)).trans k3)
    | true =>
      have hr' : (fU ps[i] d.2).1=true:=hr
      simp only [hr',if_true] at hQ
      rw [Bool.not_true,bK]
      exact hQ M3 set3 ((kk.mono (by simp)).trans k3)
def jE:List Pt:=List.replicate 16 (0,[])
def Sc (T:Nat) (c:av) : Prop:=∀ {M:RM} {Q:ai},(∀ M',fZ T (fun _=>False) M' M.next jE→ah [] M M'→M'.next=M.next + 1→Q (.ptr M.next 0) M')→c [] M Q
theorem Xh {T:Nat} : Sc T fun args M Q=>args=[]∧KL T M Q:=by
 intro M Q hQ
 refine ⟨rfl, ?_⟩
 unfold KL
 rw [mW]
 refine ⟨_,rfl, ?_⟩
 rw [dH rfl (by simp),aX]
 refine hQ _ ⟨by simp [RM.push],rfl,⟨_,RM.aR _,rfl,fun i hi=>?_⟩,id⟩ ((ah.refl _ _).push _) rfl
 have hi:i<16:=hi
 refine ⟨eG, ?_, ?_, ?_,trivial,by simp [aF]⟩
 ·obtain rfl | rfl | rfl | rfl | rfl | rfl | rfl | rfl | rfl | rfl | rfl | rfl | rfl | rfl | rfl | rfl:i=0∨i=1∨i=2∨i=3∨i=4∨i=5∨i=6∨i=7∨i=8∨i=9∨i=10∨i=11∨i=12∨i=13∨i=14∨i=15:=by omega
  all_goals rfl
 ·obtain rfl | rfl | rfl | rfl | rfl | rfl | rfl | rfl | rfl | rfl | rfl | rfl | rfl | rfl | rfl | rfl:i=0∨i=1∨i=2∨i=3∨i=4∨i=5∨i=6∨i=7∨i=8∨i=9∨i=10∨i=11∨i=12∨i=13∨i=14∨i=15:=by omega
  all_goals rfl
 ·simp only [jE,List.getElem_replicate]; exact .nil
end Go.Ab.aC
set_option maxRecDepth 10000
set_option linter.unusedVariables false
set_option linter.unusedSimpArgs false
namespace Go.Ab.aC
open Go Go.Ab
section
variable {α:Type} {E:Enc α}
end
def aax:Nat→Nat→List UInt8→Option (Nat × Nat)
 | _,_,[]=>none
 | i,v,x :: xs =>
   if x.toNat ≥ 128 then aax (i + 1) ((v ||| (x.toNat % 128 * 2 ^ (7 * i) % 2 ^ 64)) % 2 ^ 64) xs
   else if x.toNat=0∧i > 0∨i=9∧x.toNat > 1 then none else some ((v ||| (x.toNat % 128 * 2 ^ (7 * i) % 2 ^ 64)) % 2 ^ 64,i + 1)
def aci (bs:List UInt8) : Option (Nat × Nat):=aax 0 0 (bs.take 10)
structure RdH (T:Nat) (S:Nat→Prop) (M:RM) (r:Nat) (bs:List UInt8) (f:Bool) : Prop where
 lt:r<M.next
 row:∃ v,M.heap r=some (.row [v,Bo f] false T 0)∧Sl BY M v bs∧kY v∧∀ d∈aF v,S d
 nb:¬ S r
theorem RdH.keep {T:Nat} {S:Nat→Prop} {M M' : RM} {r:Nat} {bs:List UInt8} {f:Bool} {ks:List Nat} (h:RdH T S M r bs f) (hk:ah ks M M') (hr:r ∉ ks) (hs:∀ d∈ks,¬ S d) : RdH T S M' r bs f:=by
 obtain ⟨v,h1,h2,h3,h4⟩:=h.row
 exact ⟨Nat.lt_of_lt_of_le h.lt hk.next,⟨v,hk.aO h1 h.lt hr,aM.keep h2 hk (fun d hd hm=>hs d hm (h4 d hd)),h3,h4⟩,h.nb⟩
def Yx (most:Nat) (bs:List UInt8) (f:Bool) : Nat × List UInt8 × Bool :=
 match aci bs with
 | none=>(0,bs,true)
 | some (v,n)=>if f || decide (most<v) then (0,bs,true) else (v,bs.drop n,false)
end Go.Ab.aC
set_option maxRecDepth 10000
set_option linter.unusedVariables false
set_option linter.unusedSimpArgs false
namespace Go.Ab.aC
open Go Go.Ab
def Yo (f:(List AV→RM→Prop)→Prop) (g:List AV→RM→Prop) : Prop:=f g
theorem cZ (f:(List AV→RM→Prop)→Prop) (g:List AV→RM→Prop) : dE f g=Yo f g:=rfl
theorem bn {H:(List AV→RM→Prop)→Prop} {G:List AV→RM→Prop} (P:List AV→RM→Prop) (hT:∀ xs M,P xs M→G xs M)
  (hH:∀ J:List AV→RM→Prop,(∀ xs M,P xs M→J xs M)→H J) : Yo H G:=hH G hT
def PRE:Enc (Nat × Nat):=⟨2,fun p=>[N .i64 (p.1:Int),N .u64 (p.2:Int)],fun _=>rfl,fun _=>rfl⟩
abbrev eF:=(Nat × Nat) × List Nat
def Ad:nZ eF:=nZ.pre PRE (aS.xD.slice)
theorem V5 {M:RM} {i u:Nat} {v:AV} {xs:List Nat} {S:Nat→Prop} (h:fT aS.xD M v xs S) : Ad.rel M [N .i64 (i:Int),N .u64 (u:Int),v] ((i,u),xs) S:=⟨[v],rfl,⟨v,rfl,h⟩⟩
theorem Zp {x y z a b c:AV} (h1:known x=true) (h2:x.cells=[x]) (h3:known y=true) (h4:y.cells=[y]) (h5:known z=true) (h6:z.cells=[z]) : qh [a,b,c] [(0,1,x),(1,1,y),(2,1,z)]=some [x,y,z]:=by
 simp [qh,h1,h2,h3,h4,h5,h6]
def jh (ps:List Pt) : Nat→List eF
 | 0=>[]
 | i + 1=>jh ps i++(if 0<(ps.getD i (0,[])).1∨0<(ps.getD i (0,[])).2.length then [((i,(ps.getD i (0,[])).1),(ps.getD i (0,[])).2)] else [])
def parts (ps:List Pt) : List eF:=jh ps 16
theorem vT (ps:List Pt) : ∀ i,(jh ps i).length≤i
 | 0=>Nat.le_refl _
 | i + 1=>by
   have:=vT ps i
   rw [jh,List.length_append]
   split <;> simp <;> omega
def Oq (T TP:Nat) (c:av) : Prop:=∀ {M:RM} {b:Nat} {ps:List Pt} {S:Nat→Prop} {Q:ai},fZ T S M b ps→(∀ p∈ps,p.2.length≤1000000) →
 (∀ v M',iB Ad M' M.next TP v (parts ps) (fun d=>M.next≤d∧d<M'.next∧d ∉ aF v)→ah [] M M'→Q v M')→c [.ptr b 0] M Q
theorem TT {TS T TP TU:Nat} {cc:av} (hcl:DK TU 1 8 cc) : Oq TS TP fun args M Q=>∃ a0,args=[a0]∧y5 T cc TP a0 M Q:=by
 intro M b ps S Q h hlen hQ
 refine ⟨_,rfl, ?_⟩
 unfold y5
 simp only [gM,cZ]
 obtain ⟨l,hb,hl32,hrow⟩:=h.row
 rw [aK,aW,dG (n:=32) hb hl32]
 refine aJ (fun m ys M3=>∃ (i:Nat) (v:AV),m=16 - i∧ys=[v,N .i64 (i:Int)]∧i≤16∧ah [] M M3∧iB Ad M3 M.next TP v (jh ps i) (fun d=>M.next≤d∧d<M3.next∧d ∉ aF v)) _
  ⟨0,eG,rfl,rfl,Nat.zero_le _,ah.refl _ _,.nil⟩ ?_
 rintro next m ys M3 hnext ⟨i,v,rfl,rfl,hi,hK,ho⟩
 dsimp only [aa]
 rw [bL]
 refine aI (fun hlt=>?_) (fun hge=>?_)
 ·have hlt:i<16:=by
   have:(i:Int)<16:=of_decide_eq_true hlt
   omega
  refine bn (fun zs M'=>∃ w,zs=[w]∧ah [] M M'∧iB Ad M' M.next TP w (jh ps (i + 1)) (fun d=>M.next≤d∧d<M'.next∧d ∉ aF w)) ?_ ?_
  ·rintro zs M' ⟨w,rfl,hk',ho'⟩
   dsimp only [aa]
   rw [bH,dQ (by omega)]
   exact hnext _ _ _ (by omega) ⟨i + 1,w,rfl,rfl,by omega,hk',ho'⟩
  intro J hJ
  have hil:i<ps.length:=by rw [h.len]; exact hlt
  obtain ⟨w,a1,a2,a3,a4,a5⟩:=hrow i hil
  have hpD:ps.getD i (0,[])=ps[i]:=by rw [List.getD_eq_getElem?_getD,List.getElem?_eq_getElem hil]; rfl
  have hcut:(l.drop (2 * i)).take 2=[N .u64 (ps[i].1:Int),w]:=by
   have h1:=(List.getElem?_eq_some_iff.1 a1)
   have h2:=(List.getElem?_eq_some_iff.1 a2)
   obtain ⟨q1,q2⟩:=h1
   obtain ⟨r1,r2⟩:=h2
   rw [List.drop_eq_getElem_cons q1,List.drop_eq_getElem_cons r1,q2,r2]; rfl
  rw [LY]
  refine ⟨by omega,by omega,by simp only [Int.toNat_natCast]; omega, ?_⟩
  rw [Int.toNat_natCast,Nat.mul_comm i 2,hcut,aX]
  have hw1:=aM.one a3
  have hwc:=aM.cells a3
  rw [gI (n:=2) (x:=.agg [N .u64 (ps[i].1:Int),w]) (l:=[N .u64 0,.sc (.slice none 0 0)]) (RM.aR _) rfl rfl (by simp [AV.cells,hw1]; rfl)]
  have kk:ah [] M3 ((M3.push (.row [N .u64 0,.sc (.slice none 0 0)] false T 0)).put M3.next (.row (AV.agg [N .u64 (ps[i].1:Int),w]).cells false T 0)):=((ah.refl _ _).push _).new _ (Nat.le_refl _)
  have hh:((M3.push (.row [N .u64 0,.sc (.slice none 0 0)] false T 0)).put M3.next (.row (AV.agg [N .u64 (ps[i].1:Int),w]).cells false T 0)).heap M3.next=some (.row [N .u64 (ps[i].1:Int),w] false T 0):=aZ _
  have hnx:((M3.push (.row [N .u64 0,.sc (.slice none 0 0)] false T 0)).put M3.next (.row (AV.agg [N .u64 (ps[i].1:Int),w]).cells false T 0)).next=M3.next + 1:=rfl
  generalize (M3.push (.row [N .u64 0,.sc (.slice none 0 0)] false T 0)).put M3.next (.row (AV.agg [N .u64 (ps[i].1:Int),w]).cells false T 0)=M4 at *
  have hvl:=ho.blk
  have n3:=hK.next
  have ho4:=(ho.keep kk (by simp) (by simp)).mono (S':=fun d=>M.next≤d∧d<M4.next∧d ∉ aF v) fun d hd=>⟨hd.1,by omega,hd.2.2⟩
  have s4:Sl aS M4 w ps[i].2:=aM.keep (aM.keep a3 hK (by simp)) kk (by simp)
  rw [aW,ak hh rfl,iC]
  have skip:¬ (0<ps[i].1∨0<ps[i].2.length)→J [v] M4:=fun hn=>hJ _ _ ⟨v,rfl,hK.trans kk,by
   rw [jh,hpD,if_neg hn,List.append_nil]; exact ho4⟩
  have take:(0<ps[i].1∨0<ps[i].2.length)→aD (.ptr M3.next 0) 0 fun t25=>aj M4 t25 fun t26=>aD (.ptr M3.next 0) 1 fun t27=>aj M4 t27 fun t28=>cc [t28] M4 fun t29 M_13=>aj M_13 t25 fun t26_16 =>
    (t26_16=t26∧mG [(N .i64 0),(N .u64 0),(.sc (.slice none 0 0))] [(0,1,N .i64 (i:Int)),(1,1,t26),(2,1,t29)] fun t30 =>
    df TP 1 [(N .i64 0),(N .u64 0),(.sc (.slice none 0 0))] [(0,3,t30)] fun r f=>jZ r f M_13 fun t31 M_14 b=>appW TP 3 40 [(N .i64 0),(N .u64 0),(.sc (.slice none 0 0))] false v t31 M_14 fun t32 M_15=>J [t32] M_15):=fun hy=>by
   rw [aW,ak hh rfl,aW,ak hh rfl]
   have hm:=hlen _ (List.getElem_mem hil)
   refine hcl s4 (Enc.oK _ _) (by omega) (by omega) fun y M5 hy5 k5=>?_
   have n5:=k5.next
   rw [ak (k5.aO hh (by omega) (by simp)) rfl]
   refine ⟨rfl, ?_⟩
   rw [mW]
   refine ⟨_,Zp rfl rfl rfl rfl hy5.eu.known hy5.cells, ?_⟩
   have hall:([N .i64 (i:Int),N .u64 (ps[i].1:Int),y] : List AV).all oneCell=true:=by simp [hy5.one]; exact ⟨rfl,rfl⟩
   rw [je (x:=.agg [N .i64 (i:Int),N .u64 (ps[i].1:Int),y]) (size:=3) rfl hall rfl,iV]
   have hvl4:=ho4.blk
   let S' : Nat→Prop:=fun d=>M.next≤d∧d<M5.next∧d ∉ aF v
   have ho5:=(ho4.keep k5 (by simp) (by simp)).mono (S':=S') fun d hd=>⟨hd.1,by omega,hd.2.2⟩
   have hel:Ad.rel M5 [N .i64 (i:Int),N .u64 (ps[i].1:Int),y] ((i,ps[i].1),ps[i].2) S' :=
    V5 (fT.X9 hy5.eu fun d hd=>⟨by have:=(hy5.blk d hd).1; omega,(hy5.blk d hd).2,fun hb=>by have:=(hvl4 d hb).2; have:=(hy5.blk d hd).1; omega⟩)
   refine iB.app (R:=Ad) ho5 hel (by omega) (by decide) (fun b hb h=>h.2.2 hb) (fun b h=>h.2.1) (by have:=vT ps i; omega) (by have:=vT ps i; omega) ?_
   intro w' M6 o6 k6 n6 _ hd6
   refine hJ _ _ ⟨w',rfl, ?_, ?_⟩
   ·exact ((hK.trans kk).trans k5).bi k6 fun c hc=>.inl (hvl c hc).1
   ·rw [jh,hpD,if_pos hy]
    exact o6.mono fun d hd=>⟨hd.1,by have:=hd.2.1; omega,fun hb=>hd6 d hb hd⟩
  by_cases hu:0<ps[i].1
  ·rw [show decide ((ps[i].1:Int) > 0)=true by simpa using hu,iY]
   dsimp only
   rw [dF,dP]
   exact take (.inl hu)
  ·rw [show decide ((ps[i].1:Int) > 0)=false by simp; omega,dC]
   dsimp only
   rw [aW,ak hh rfl,aM.len s4,iC,bU]
   refine aI (fun hg=>take (.inr ?_)) (fun hg=>?_)
   ·have:((ps[i].2.length:Nat) : Int) > 0:=of_decide_eq_true hg
    omega
   ·refine skip ?_
    have:¬ ((ps[i].2.length:Nat) : Int) > 0:=of_decide_eq_false hg
    omega
 ·have he:i=16:=by
   have:¬ (i:Int)<16:=of_decide_eq_false hge
   omega
  subst he
  exact hQ v M3 ho hK
@[irreducible] def vJ (x a:Nat) : Nat:=(x + 18446744073709551616 - a) % 18446744073709551616
theorem QG {x a:Nat} (h:a<18446744073709551616) : IntKind.wrap .u64 ((x:Int) - (a:Int))=((vJ x a:Nat) : Int):=by
 simp only [IntKind.wrap,IntKind.bits,IntKind.signed,vJ]
 simp
 omega
theorem Gc (x a:Nat) : vJ x a<2 ^ 64:=by unfold vJ; exact Nat.mod_lt _ (by decide)
def jg:Nat→List Nat→List UInt8
 | _,[]=>[]
 | a,x :: xs=>bC (vJ x a)++jg x xs
def gm (p:eF) : List UInt8:=bC p.1.1++bC p.1.2++bC p.2.length++jg p.1.2 p.2
def pM (l:List eF) : List UInt8:=bC l.length++l.flatMap gm
def encS (ps:List Pt) : List UInt8:=pM (parts ps)
theorem dK {v:Nat} (h:v<2 ^ 64) : (bC v).length≤10:=CB 10 v (by omega) (by omega)
theorem uR:∀ (xs:List Nat) (a:Nat),(jg a xs).length≤10 * xs.length
 | [],_=>Nat.le_refl _
 | x :: xs,a=>by
   rw [jg,List.length_append,List.length_cons]
   have:=uR xs x
   have:=dK (Gc x a)
   omega
theorem AJ {ps:List Pt} : ∀ {i:Nat} {x:eF},x∈jh ps i→∃ j,j<i∧x=((j,(ps.getD j (0,[])).1),(ps.getD j (0,[])).2)
 | 0,x,h=>by simp [jh] at h
 | i + 1,x,h=>by
   rw [jh,List.mem_append] at h
   rcases h with h | h
   ·obtain ⟨j,h1,h2⟩:=AJ h
    exact ⟨j,by omega,h2⟩
   ·split at h
    ·simp only [List.mem_singleton] at h
     exact ⟨i,by omega,h⟩
    ·simp at h
def Bd (p:Pt) : Prop:=p.1<2 ^ 64∧p.2.length≤1000000∧∀ x∈p.2,x<2 ^ 64
theorem GM {ps:List Pt} (h:∀ p∈ps,Bd p) {x:eF} (hx:x∈parts ps) : x.1.1<16∧Bd (x.1.2,x.2):=by
 obtain ⟨j,h1,rfl⟩:=AJ hx
 refine ⟨h1, ?_⟩
 rw [List.getD_eq_getElem?_getD]
 by_cases hj:j<ps.length
 ·rw [List.getElem?_eq_getElem hj]
  exact h _ (List.getElem_mem hj)
 ·rw [List.getElem?_eq_none (by omega)]
  exact ⟨(by decide:0<2 ^ 64),Nat.zero_le _,fun x hx=>by simp at hx⟩
theorem iZ.bd {p:Pt} (h:iZ p) : Bd p:=⟨by have:=h.2.2.1; omega,by have:=h.2.2.2.2; omega,fun x hx=>by have:=h.2.2.2.1 x hx; omega⟩
theorem We {p:eF} (h1:p.1.1<16) (h:Bd (p.1.2,p.2)) : (gm p).length≤10000030:=by
 unfold gm
 simp only [List.length_append]
 have:=dK (v:=p.1.1) (by omega)
 have:=dK (v:=p.1.2) h.1
 have h2:p.2.length≤1000000:=h.2.1
 have:=dK (v:=p.2.length) (by omega)
 have:=uR p.2 p.1.2
 omega
def zq (TS T:Nat) (c:av) : Prop:=∀ {M:RM} {b:Nat} {ps:List Pt} {S:Nat→Prop} {Q:ai},fZ TS S M b ps→(∀ p∈ps,Bd p) →
 (∀ v M',Own M' M.next T 1 v (dL (encS ps)) (encS ps).length→(encS ps).length≤200000000→ah [] M M'→Q v M')→c [.ptr b 0] M Q
theorem jU (a b:List UInt8) : dL (a++b)=dL a++dL b:=List.map_append
theorem Dq:∀ {xs:List Nat} {i a q:Nat} (hi:i<xs.length) (hq:(a :: xs)[i]?=some q),jg a (xs.take (i + 1))=jg a (xs.take i)++bC (vJ xs[i] q)
 | x :: xs,0,a,q,hi,hq=>by
   simp only [List.getElem?_cons_zero,Option.some.injEq] at hq
   subst hq
   rw [List.take_succ_cons,List.take_zero,List.take_zero,jg,jg,jg,List.append_nil,List.nil_append]
   rfl
 | x :: xs,i + 1,a,q,hi,hq=>by
   rw [List.getElem?_cons_succ] at hq
   have:=Dq (a:=x) (xs:=xs) (i:=i) (by simpa using hi) hq
   rw [List.take_succ_cons,List.take_succ_cons,jg,jg,this,List.append_assoc]
   rfl
end Go.Ab.aC
set_option maxRecDepth 10000
set_option linter.unusedVariables false
set_option linter.unusedSimpArgs false
namespace Go.Ab.aC
open Go Go.Ab
theorem Br.app {T:Nat} {c:av} (hc:Br T c) {M:RM} {base v:Nat} {b:AV} {L:List UInt8} {Q:ai} (ho:Own M base T 1 b (dL L) L.length) (hb:base≤M.next) (hL:L.length + 10≤140737488355328) (hv:v<2 ^ 64)
  (hQ:∀ r M',Own M' base T 1 r (dL (L++bC v)) (L++bC v).length→ah [] M M'→Q r M') : c [b,N .u64 (v:Int)] M Q:=by
 refine hc ho.eu (kg _) hL hv fun r M' h1 h2=>hQ r M' ?_ h2
 rw [jU,List.length_append]
 exact h1.mono hb
theorem Qg {TS TP T:Nat} {cp cu:av} (hp:Oq TS TP cp) (hu:Br T cu) : zq TS T fun args M Q=>∃ a0,args=[a0]∧wX cp cu TP a0 M Q:=by
 intro M b ps S Q h hbd hQ
 refine ⟨_,rfl, ?_⟩
 unfold wX
 refine hp h (fun p hp=>(hbd p hp).2.1) fun v M1 ho k1=>?_
 have hls:fT Ad M1 v (parts ps) (fun d=>M.next≤d):=(ho.mono (fun d h=>h.1)).UW fun d h1 h2=>h1
 have hpl:(parts ps).length≤16:=vT ps 16
 have hpb:∀ x∈parts ps,x.1.1<16∧Bd (x.1.2,x.2):=fun x hx=>GM hbd hx
 unfold encS pM at hQ
 generalize parts ps=ls at *
 have u10:=dK (v:=ls.length) (by omega)
 have n1:=k1.next
 rw [hls.len,eX,wrap_u64,Nat.mod_eq_of_lt (by omega)]
 refine hu.app (L:=[]) .nil n1 (by simp) (by omega) fun r0 M2 ho2 k2=>?_
 rw [List.nil_append] at ho2
 rw [hls.len]
 refine aJ (fun m ys M3=>∃ (i:Nat) (v:AV),m=ls.length - i∧ys=[v,N .i64 (i:Int)]∧i≤ls.length∧ah [] M1 M3∧Own M3 M.next T 1 v (dL (bC ls.length++(ls.take i).flatMap gm)) (bC ls.length++(ls.take i).flatMap gm).length∧(bC ls.length++(ls.take i).flatMap gm).length≤10 + 10000030 * i) _
  ⟨0,r0,rfl,rfl,Nat.zero_le _,k2,by simpa using ho2,by simpa using u10⟩ ?_
 rintro next m ys M3 hnext ⟨i,w,rfl,rfl,hi,hK,ho3,hle3⟩
 dsimp only [aa]
 rw [bL]
 refine aI (fun hlt=>?_) (fun hge=>?_)
 ·have hlt:i<ls.length:=by simpa using hlt
  have hpb:=hpb _ (List.getElem_mem hlt)
  have hL:(bC ls.length++(ls.take (i + 1)).flatMap gm)=(bC ls.length++(ls.take i).flatMap gm)++gm ls[i]:=by
   rw [List.take_succ_eq_append_getElem hlt,List.flatMap_append,List.append_assoc]; simp
  have hLl:(bC ls.length++(ls.take (i + 1)).flatMap gm).length≤10 + 10000030 * (i + 1):=by
   rw [hL,List.length_append]
   have:=We hpb.1 hpb.2
   omega
  rw [hL] at hLl
  have hls3:=hls.keep hK (by simp)
  obtain ⟨b1,o1,cs,_,_,hidx,hld,hrel⟩:=hls3.at (i:=i) 3 (i:Int) hlt rfl rfl
  have hstep:∀ w M',ah [] M1 M'→Own M' M.next T 1 w (dL ((bC ls.length++(ls.take i).flatMap gm)++gm ls[i])) ((bC ls.length++(ls.take i).flatMap gm)++gm ls[i]).length→next [w,N .i64 ((i + 1:Nat) : Int)] M':=fun w M' k o=>by
   refine hnext _ _ _ (by omega) ⟨i + 1,w,rfl,rfl,by omega,k, ?_, ?_⟩
   ·rw [hL]; exact o
   ·rw [hL]; exact hLl
  generalize bC ls.length++(ls.take i).flatMap gm=L at *
  have hLb:L.length≤10 + 10000030 * 16:=by omega
  generalize ls[i]=pt at *
  obtain ⟨⟨dv,u⟩,xs⟩:=pt
  obtain ⟨ds,rfl,w',rfl,hxs⟩:=hrel
  simp only [PRE] at *
  have hxl:xs.length≤1000000:=hpb.2.2.1
  have hub:u<2 ^ 64:=hpb.2.1
  have hxb:∀ x∈xs,x<2 ^ 64:=hpb.2.2.2
  have hdv:dv<16:=hpb.1
  have n3:=hK.next
  rw [hidx,eQ]
  refine ⟨_,hld, ?_⟩
  have hw1:=hxs.one
  rw [aX,gI (n:=3) (x:=.agg ([N .i64 (dv:Int),N .u64 (u:Int)]++[w'])) (l:=[(N .i64 0),(N .u64 0),(.sc (.slice none 0 0))]) (RM.aR _) rfl rfl (by simp [AV.cells,hw1]; exact ⟨rfl,rfl⟩)]
  have kk:ah [] M3 ((M3.push (.row [(N .i64 0),(N .u64 0),(.sc (.slice none 0 0))] false TP 0)).put M3.next (.row (AV.agg ([N .i64 (dv:Int),N .u64 (u:Int)]++[w'])).cells false TP 0)):=((ah.refl _ _).push _).new _ (Nat.le_refl _)
  have hh:((M3.push (.row [(N .i64 0),(N .u64 0),(.sc (.slice none 0 0))] false TP 0)).put M3.next (.row (AV.agg ([N .i64 (dv:Int),N .u64 (u:Int)]++[w'])).cells false TP 0)).heap M3.next=some (.row [N .i64 (dv:Int),N .u64 (u:Int),w'] false TP 0):=aZ _
  have hnx:((M3.push (.row [(N .i64 0),(N .u64 0),(.sc (.slice none 0 0))] false TP 0)).put M3.next (.row (AV.agg ([N .i64 (dv:Int),N .u64 (u:Int)]++[w'])).cells false TP 0)).next=M3.next + 1:=rfl
  generalize (M3.push (.row [(N .i64 0),(N .u64 0),(.sc (.slice none 0 0))] false TP 0)).put M3.next (.row (AV.agg ([N .i64 (dv:Int),N .u64 (u:Int)]++[w'])).cells false TP 0)=M4 at *
  have hx4:=(hxs.keep kk (by simp)).sl
  have ho4:=ho3.keep kk (by simp)
  rw [aW,ak hh rfl,eX,dx (by omega) (by omega),aW,ak hh rfl,aW,ak hh rfl,aM.len hx4,eX,dx (by omega) (by omega)]
  refine hu.app ho4 (by omega) (by omega) (by omega) fun r5 M5 ho5 k5=>?_
  have e5:=dK (v:=dv) (by omega)
  rw [ak (k5.aO hh (by omega) (by simp)) rfl]
  refine ⟨rfl, ?_⟩
  rw [ak (k5.aO hh (by omega) (by simp)) rfl]
  refine ⟨rfl, ?_⟩
  have n5:=k5.next
  refine hu.app ho5 (by omega) (by rw [List.length_append]; omega) hub fun r6 M6 ho6 k6=>?_
  have e6:=dK hub
  have n6:=k6.next
  have k46:=k5.trans k6
  rw [ak (k46.aO hh (by omega) (by simp)) rfl]
  refine ⟨rfl, ?_⟩
  refine hu.app ho6 (by omega) (by simp only [List.length_append]; omega) (by omega) fun r7 M7 ho7 k7=>?_
  have e7:=dK (v:=xs.length) (by omega)
  have n7:=k7.next
  have k47:=k46.trans k7
  have hh7:=k47.aO hh (by omega) (by simp)
  have hx7:Sl aS M7 w' xs:=aM.keep hx4 k47 (by simp)
  rw [aW,ak hh7 rfl,aW,ak hh7 rfl,aM.len hx7]
  have hencP:L++gm ((dv,u),xs)=L++bC dv++bC u++bC xs.length++jg u xs:=by simp only [gm,List.append_assoc]
  rw [hencP] at hstep
  have k37:=hK.trans (kk.trans k47)
  have hL7:(L++bC dv++bC u++bC xs.length).length≤L.length + 30:=by simp only [List.length_append]; omega
  generalize L++bC dv++bC u++bC xs.length=L7 at *
  refine aJ (fun m ys M8=>∃ (j q:Nat) (w:AV),m=xs.length - j∧ys=[w,N .u64 (q:Int),N .i64 (j:Int)]∧j≤xs.length∧(u :: xs)[j]?=some q∧ah [] M7 M8∧Own M8 M.next T 1 w (dL (L7++jg u (xs.take j))) (L7++jg u (xs.take j)).length) _
   ⟨0,u,r7,rfl,rfl,Nat.zero_le _,rfl,ah.refl _ _,by simpa [jg] using ho7⟩ ?_
  rintro next2 m ys M8 hnext2 ⟨j,q,w8,rfl,rfl,hj,hq,hK8,ho8⟩
  dsimp only [aa]
  rw [bL]
  refine aI (fun hlt=>?_) (fun hge=>?_)
  ·have hlt:j<xs.length:=by simpa using hlt
   obtain ⟨b2,o2,_,_,hidx2,hc2⟩:=Sl.qX (E:=aS) (aM.keep hx7 hK8 (by simp)) (j:Int) hlt
   have hxj:=hxb _ (List.getElem_mem hlt)
   have hqb:q<2 ^ 64:=by
    have:=List.mem_of_getElem? hq
    rcases List.mem_cons.1 this with rfl | h
    ·exact hub
    ·exact hxb _ h
   rw [hidx2,fu]
   refine ⟨_,hc2 _ rfl, ?_⟩
   have n8:=hK8.next
   have hg:=uR (xs.take j) u
   rw [List.length_take] at hg
   rw [gT,QG (by omega)]
   refine hu.app ho8 (by omega) (by rw [List.length_append]; omega) (Gc _ _) fun r9 M9 ho9 k9=>?_
   rw [bH,dQ (by omega)]
   refine hnext2 _ _ _ (by omega) ⟨j + 1,xs[j],r9,rfl,rfl,by omega,by rw [List.getElem?_cons_succ,List.getElem?_eq_getElem hlt],hK8.trans k9, ?_⟩
   rw [Dq hlt hq,← List.append_assoc]
   exact ho9
  ·have he:j=xs.length:=by simp at hge; omega
   subst he
   rw [bH,dQ (by omega)]
   refine hstep _ _ (k37.trans hK8) ?_
   rw [List.take_length] at ho8
   exact ho8
 ·have he:i=ls.length:=by simp at hge; omega
  subst he
  rw [List.take_length] at ho3 hle3
  exact hQ w M3 ho3 (by omega) (k1.trans hK)
end Go.Ab.aC
set_option maxRecDepth 10000
set_option linter.unusedVariables false
set_option linter.unusedSimpArgs false
namespace Go.Ab.aC
open Go Go.Ab
structure XC (T TU base:Nat) (M:RM) (b:Nat) (ps:List Pt) : Prop where
 lt:b<M.next
 len:ps.length=16
 row:∃ (l:List AV) (vs:Nat→AV),M.heap b=some (.row l false T 0)∧l.length=32∧(∀ (i:Nat) (hi:i<ps.length),l[2 * i]?=some (N .u64 (ps[i].1:Int))∧l[2 * i + 1]?=some (vs i)∧Ow aS M base TU (vs i) ps[i].2) ∧
  ∀ i j,i<16→j<16→i≠j→∀ d∈aF (vs i),d ∉ aF (vs j)
 nb:b<base
theorem XC.keep {T TU base:Nat} {M M' : RM} {b:Nat} {ps:List Pt} {bs:List Nat} (h:XC T TU base M b ps) (hk:ah bs M M') (hb:b ∉ bs) (hs:∀ d∈bs,d<base) : XC T TU base M' b ps:=by
 obtain ⟨l,vs,h1,h2,h3,h4⟩:=h.row
 refine ⟨Nat.lt_of_lt_of_le h.lt hk.next,h.len,⟨l,vs,hk.aO h1 h.lt hb,h2,fun i hi=>⟨(h3 i hi).1,(h3 i hi).2.1,(h3 i hi).2.2.keep hk fun d hd hm=>?_⟩,h4⟩,h.nb⟩
 have:=((h3 i hi).2.2.blk d hd).1
 have:=hs d hm
 omega
theorem Own.sl {M:RM} {base T:Nat} {v:AV} {L:List UInt8} (h:Own M base T 1 v (dL L) L.length) : Sl BY M v L:=by
 have:=h.eu
 show aM M 1 v (BY.row L) L.length
 rw [zt]; exact this
end Go.Ab.aC
set_option maxRecDepth 10000
set_option linter.unusedVariables false
set_option linter.unusedSimpArgs false
namespace Go.Ab.aC
open Go Go.Ab
@[irreducible] def acX (bs:List UInt8) (f:Bool) : Nat × List UInt8 × Bool:=Yx 18446744073709551615 bs f
theorem Co {ps:List Pt} {i:Nat} (h:i<ps.length) (p:Pt) : (ps.set i p).getD i (0,[])=p:=by
 rw [List.getD_eq_getElem?_getD,List.getElem?_set_self h]; rfl
end Go.Ab.aC
set_option maxRecDepth 10000
set_option linter.unusedVariables false
set_option linter.unusedSimpArgs false
namespace Go.Ab.aC
open Go Go.Ab
def iR (a b:aC) : Bool:=decide (a.1<b.1) || (decide (a.1=b.1) && decide (a.2<b.2))
def OZ (c:av) : Prop:=∀ {M:RM} {a b:aC} {Q:ai},(∀ M',ah [] M M'→Q (Bo (iR a b)) M')→c [.agg (aQ a),.agg (aQ b)] M Q
theorem Ud {T:Nat} : OZ fun args M Q=>∃ a0 a1,args=[a0,a1]∧JH T a0 a1 M Q:=by
 intro M a b Q hQ
 refine ⟨_,_,rfl, ?_⟩
 unfold JH
 simp only [gM]
 rw [dH rfl (by simp),aX,dH rfl (by simp),aX]
 have h1:((M.push (.row (aQ a) false T 0)).push (.row (aQ b) false T 0)).heap M.next=some (.row (aQ a) false T 0):=kU (RM.aR _) (by simp [RM.push])
 have h2:((M.push (.row (aQ a) false T 0)).push (.row (aQ b) false T 0)).heap (M.push (.row (aQ a) false T 0)).next=some (.row (aQ b) false T 0):=RM.aR _
 have kk:ah [] M ((M.push (.row (aQ a) false T 0)).push (.row (aQ b) false T 0)):=((ah.refl _ _).push _).push _
 generalize (M.push (.row (aQ a) false T 0)).next=m at *
 generalize (M.push (.row (aQ a) false T 0)).push (.row (aQ b) false T 0)=M1 at *
 have hQ:=hQ M1 kk
 unfold iR at hQ
 obtain ⟨d,n⟩:=a
 obtain ⟨e,k⟩:=b
 simp only at hQ
 rw [aW,ak h1 rfl,aW,ak h2 rfl,bL]
 by_cases hlt:d<e
 ·rw [show decide (d<e)=true by simpa using hlt,iY]
  dsimp only
  rw [ui]
  dsimp only
  rw [iY]
  dsimp only
  rw [dF]
  simpa [hlt] using hQ
 ·rw [show decide (d<e)=false by simpa using hlt,dC]
  dsimp only
  rw [aW,ak h1 rfl,aW,ak h2 rfl,di]
  by_cases he:d=e
  ·rw [show (d == e)=true by simpa using he,bS]
   dsimp only
   rw [aW,ak h1 rfl,aW,ak h2 rfl,bL,dC]
   dsimp only
   rw [dF,bU]
   rw [show decide ((n:Int)<(k:Int))=decide (n<k) by simp]
   simpa [hlt,he] using hQ
  ·rw [show (d == e)=false by simpa using he,bV]
   dsimp only
   rw [dC]
   dsimp only
   rw [bU,bU]
   simpa [hlt,he] using hQ
def EX (c:av) : Prop:=∀ {M:RM} {v:AV} {l:List aC} {d:aC} {Q:ai},Sl dz M v l→l.length≤1000000→(∀ M',ah [] M M'→Q (Bo (decide (d∈l))) M')→c [v,.agg (aQ d)] M Q
theorem zV (a b:aC) : ek [1,1] (aQ a) (aQ b)=some (decide (a=b)):=by
 obtain ⟨d,n⟩:=a
 obtain ⟨e,k⟩:=b
 simp only [IQ,Jb]
 by_cases h1:d=e
 ·by_cases h2:n=k
  ·simp [h1,h2]
  ·have:¬ (n:Int)=(k:Int):=by omega
   simp [h1,h2,this]
 ·simp [h1]
theorem PK {T:Nat} : EX fun args M Q=>∃ a0 a1,args=[a0,a1]∧Sw T a0 a1 M Q:=by
 intro M v l d Q hs hl hQ
 refine ⟨_,_,rfl, ?_⟩
 unfold Sw
 rw [dH rfl (by simp),aX]
 have hh:(M.push (.row (aQ d) false T 0)).heap M.next=some (.row (aQ d) false T 0):=RM.aR _
 have kk:ah [] M (M.push (.row (aQ d) false T 0)):=(ah.refl _ _).push _
 generalize M.push (.row (aQ d) false T 0)=M1 at *
 have s1:Sl dz M1 v l:=aM.keep hs kk (by simp)
 have hQ:=hQ M1 kk
 refine aJ (fun m ys M3=>∃ (i:Nat),m=l.length - i∧ys=[N .i64 (i:Int)]∧i≤l.length∧M3=M1∧decide (d∈l)=decide (d∈l.drop i)) _
  ⟨0,rfl,rfl,Nat.zero_le _,rfl,rfl⟩ ?_
 rintro next m ys M3 hnext ⟨i,rfl,rfl,hi,rfl,hset⟩
 dsimp only [aa]
 rw [aM.len s1,bL]
 refine aI (fun hlt=>?_) (fun hge=>?_)
 ·have hlt:i<l.length:=by simpa using hlt
  obtain ⟨b1,o1,_,_,hidx,hld⟩:=Sl.at (E:=dz) (i:=i) s1 2 (i:Int) hlt rfl rfl
  rw [hidx,eQ]
  refine ⟨_,hld, ?_⟩
  rw [dG (n:=2) hh rfl]
  change kV false [1,1] (.agg (aQ l[i])) (.agg (aQ d)) _
  rw [mR rfl rfl (zV l[i] d)]
  rw [List.drop_eq_getElem_cons hlt] at hset
  by_cases he:l[i]=d
  ·rw [show (decide (l[i]=d) != false)=true by simp [he],dP]
   rw [hset,show decide (d∈l[i] :: l.drop (i + 1))=true by simp [he]] at hQ
   exact hQ
  ·rw [show (decide (l[i]=d) != false)=false by simp [he],bK,bH,dQ (by omega)]
   refine hnext _ _ _ (by omega) ⟨i + 1,rfl,rfl,by omega,rfl, ?_⟩
   rw [hset]
   have:d≠l[i]:=fun h=>he h.symm
   exact decide_eq_decide.2 ⟨fun h=>(List.mem_cons.1 h).resolve_left this,fun h=>List.mem_cons_of_mem _ h⟩
 ·have he:i=l.length:=by simp at hge; omega
  subst he
  rw [List.drop_length] at hset
  rw [hset] at hQ
  exact hQ
section
variable {α:Type} {E:Enc α}
theorem Ke {M:RM} {base T k:Nat} {v:AV} {xs:List α} (hE:1≤E.size) (ho:Ow E M base T v xs) (hk:k≤xs.length) :
  ∃ v1 v2,bR E.size v none (some (N .i64 (k:Int))) none=some v1∧Sl E M v1 (xs.take k)∧bR E.size v (some (N .i64 (k:Int))) none none=some v2∧Sl E M v2 (xs.drop k)∧(∀ d∈aF v1,d∈aF v)∧∀ d∈aF v2,d∈aF v:=by
 have hs:=ho.eu
 generalize hcs:E.row xs=cs at *
 have ho' : Own M base T E.size v cs xs.length:=by rw [← hcs]; exact ho
 have hl:cs.length=xs.length * E.size:=by rw [← hcs,Enc.ed]
 have hd:E.row (xs.drop k)=cs.drop (k * E.size):=by rw [← hcs,← E.uq]
 have ht:E.row (xs.take k)=cs.take (k * E.size):=by rw [← hcs,← E.uk]
 have g1:∀ v',Sl E M v' (xs.take k)↔aM M E.size v' (cs.take (k * E.size)) k:=fun v'=>by simp only [Sl]; rw [ht,List.length_take,Nat.min_eq_left hk]
 have g2:∀ v',Sl E M v' (xs.drop k)↔aM M E.size v' (cs.drop (k * E.size)) (xs.length - k):=fun v'=>by simp only [Sl]; rw [hd,List.length_drop]
 generalize hn:xs.length=n at *
 cases ho' with
 | nil =>
   have:k=0:=by omega
   subst this
   exact ⟨eG,eG,by simp [bR,bnd],(g1 _).2 (by simp; exact .nil),by simp [bR,bnd],(g2 _).2 (by simp; exact .nil),by simp,by simp⟩
 | ex0 b o h1 h2 h3 =>
   have:k=0:=by omega
   subst this
   have e0:aM M E.size (.slc b o 0 (.ex 0)) [] 0:=hs
   exact ⟨.slc b o 0 (.ex 0),.slc b o 0 (.ex 0),by simp [bR,bnd],(g1 _).2 (by simpa using e0),by simp [bR,bnd],(g2 _).2 (by simpa using e0),by simp [aF],by simp [aF]⟩
 | op b n cs h1 h2 h3 h4 =>
   have hload:∀ o m,o + m≤cs.length→M.loads b o m=some ((cs.drop o).take m):=fun o m h=>RM.dh h3 h
   have hmul:k * E.size≤n * E.size:=Nat.mul_le_mul_right _ hk
   by_cases hn0:n=0
   ·have hk0:k=0:=by omega
    subst hk0 hn0
    have hc0:cs=[]:=List.length_eq_zero_iff.1 (by simpa using h4)
    subst hc0
    exact ⟨.emp b,.emp b,by simp [bR,bnd],(g1 _).2 (by simp; exact .emp b),by simp [bR,bnd],(g2 _).2 (by simp; exact .emp b),by simp [aF],by simp [aF]⟩
   ·have p1:aM M E.size (.slc b (0 + 0 * E.size) (k - 0) (.op E.size)) (cs.take (k * E.size)) k:=by
     rw [Nat.sub_zero,Nat.zero_mul]
     refine .slc _ _ _ _ _ h2 ?_
     have:=hload 0 (k * E.size) (by omega)
     simpa using this
    by_cases hkn:n≤k
    ·refine ⟨.slc b (0 + 0 * E.size) (k - 0) (.op E.size),.emp b,by simp only [bR,bnd]; simp [hk,hn0],(g1 _).2 p1,by simp only [bR,bnd]; simp [hk,hkn],(g2 _).2 ?_,by simp [aF],by simp [aF]⟩
     have:k=n:=by omega
     subst this
     rw [Nat.sub_self,List.drop_of_length_le (by omega)]
     exact .emp b
    ·refine ⟨.slc b (0 + 0 * E.size) (k - 0) (.op E.size),.slc b (0 + k * E.size) (n - k) (.op E.size),by simp only [bR,bnd]; simp [hk,hn0],(g1 _).2 p1,by simp only [bR,bnd]; simp [hk,hkn],(g2 _).2 ?_,by simp [aF],by simp [aF]⟩
     refine .slc _ _ _ _ _ h2 ?_
     have hs2:k * E.size + (n - k) * E.size=n * E.size:=by rw [← Nat.add_mul]; congr 1; omega
     rw [Nat.zero_add,hload (k * E.size) ((n - k) * E.size) (by omega),List.take_of_length_le (by simp; omega)]
end
def xc (d:aC) (l:List aC) : Nat:=(l.takeWhile (fun x=>iR x d)).length
def sM (l:List aC) (d:aC) : List aC:=if d∈l then l else l.take (xc d l)++d :: l.drop (xc d l)
theorem XE (l:List aC) (d:aC) : (sM l d).length≤l.length + 1:=by
 unfold sM
 split
 ·omega
 ·simp; omega
theorem Gn {d:aC} : ∀ {l:List aC} {i:Nat},i≤l.length→(∀ k (hk:k<l.length),k<i→iR l[k] d=true)→(∀ (hi:i<l.length),iR l[i] d=false)→xc d l=i
 | [],i,h,_,_=>by simp at h; subst h; rfl
 | x :: l,0,_,_,h2=>by
   have:=h2 (by simp)
   simp only [List.getElem_cons_zero] at this
   simp [xc,this]
 | x :: l,i + 1,h,h1,h2=>by
   have hx:=h1 0 (by simp) (by omega)
   simp only [List.getElem_cons_zero] at hx
   have:=Gn (d:=d) (l:=l) (i:=i) (by simpa using h) (fun k hk hki=>by have:=h1 (k + 1) (by simp; omega) (by omega); simpa using this) (fun hi=>by have:=h2 (by simp; omega); simpa using this)
   unfold xc at this ⊢
   rw [List.takeWhile_cons_of_pos (p:=fun x=>iR x d) hx,List.length_cons,this]
def KV (T:Nat) (c:av) : Prop:=∀ {M:RM} {base:Nat} {v:AV} {l:List aC} {d:aC} {Q:ai},Ow dz M base T v l→base≤M.next→l.length≤100000→(∀ v' M',Ow dz M' base T v' (sM l d)→ah [] M M'→Q v' M')→c [v,.agg (aQ d)] M Q
theorem QA {T:Nat} {ch ca:av} (hh:EX ch) (ha:OZ ca) : KV T fun args M Q=>∃ a0 a1,args=[a0,a1]∧Uk T ch ca a0 a1 M Q:=by
 intro M base v l d Q ho hb hl hQ
 refine ⟨_,_,rfl, ?_⟩
 unfold Uk
 simp only [fF,dY]
 rw [dH rfl (by simp),aX,dG (n:=2) (RM.aR _) rfl]
 have h3:(M.push (.row (aQ d) false T 0)).heap M.next=some (.row (aQ d) false T 0):=RM.aR _
 have k1:ah [] M (M.push (.row (aQ d) false T 0)):=(ah.refl _ _).push _
 have n1:(M.push (.row (aQ d) false T 0)).next=M.next + 1:=rfl
 generalize M.push (.row (aQ d) false T 0)=M1 at *
 have ho1:=ho.keep k1 (by simp)
 refine hh ho1.eu (by omega) fun M2 k2=>?_
 have k12:=k1.trans k2
 have n2:=k2.next
 have ho2:=ho1.keep k2 (by simp)
 have h3:=k2.aO h3 (by omega) (by simp)
 unfold sM at hQ
 refine aI (fun hm=>?_) (fun hm=>?_)
 ·have hm:d∈l:=of_decide_eq_true hm
  rw [if_pos hm] at hQ
  exact hQ v M2 ho2 k12
 ·have hm:¬ d∈l:=of_decide_eq_false hm
  rw [if_neg hm] at hQ
  refine aJ (fun m ys M3=>∃ (i:Nat),m=l.length - i∧ys=[N .i64 (i:Int)]∧i≤l.length∧ah [] M2 M3∧∀ k (hk:k<l.length),k<i→iR l[k] d=true) _
   ⟨0,rfl,rfl,Nat.zero_le _,ah.refl _ _,fun k hk h=>by omega⟩ ?_
  rintro next m ys M3 hnext ⟨i,rfl,rfl,hi,k3,hah⟩
  dsimp only [aa]
  have k13:=k12.trans k3
  have ho3:=ho2.keep k3 (by simp)
  have s3:Sl dz M3 v l:=ho3.eu
  have n3:=k3.next
  have h33:=k3.aO h3 (by omega) (by simp)
  -- the end: the list anew
  have fin:∀ M3,ah [] M2 M3→xc d l=i→(df T 0 [(N .i64 0),(N .u64 0)] [] fun r_22 f_23=>jZ r_22 f_23 M3 fun t24 M_24 b_25=>eZ (bR 2 v none (some (N .i64 (i:Int))) none) fun t27=>aH M_24 (.ptr M.next 0) 2 fun t29 =>
    df T 1 [(N .i64 0),(N .u64 0)] [(0,2,t29)] fun r_26 f_27=>jZ r_26 f_27 M_24 fun t30 M_28 b_29=>eZ (bR 2 v (some (N .i64 (i:Int))) none none) fun t34=>appW T 2 16 [(N .i64 0),(N .u64 0)] false t24 t27 M_28 fun t28 M_30 =>
    aH M_30 (.ptr M.next 0) 2 fun t29_37=>(t29_37=t29∧df T 1 [(N .i64 0),(N .u64 0)] [(0,2,t29)] fun r_35 f_36=>(uA b_29 M_30 r_35 f_36 t30∧eZ (bR 2 v (some (N .i64 (i:Int))) none none) fun t34_34=>(t34_34=t34∧appW T 2 16 [(N .i64 0),(N .u64 0)] false t28 t30 M_30 fun t31 M_31 =>
    eZ (bR 2 v (some (N .i64 (i:Int))) none none) fun t34_33=>(t34_33=t34∧appW T 2 16 [(N .i64 0),(N .u64 0)] false t31 t34 M_31 fun t35 M_32=>Q t35 M_32))))):=fun M3 k3 hat=>by
   have k13:=k12.trans k3
   have ho3:=ho2.keep k3 (by simp)
   have n3:=k3.next
   have h33:=k3.aO h3 (by omega) (by simp)
   obtain ⟨v1,v2,e1,s1,e2,s2,hb1,hb2⟩:=Ke (E:=dz) (k:=i) (by decide) ho3 hi
   have e1:bR 2 v none (some (N .i64 (i:Int))) none=some v1:=e1
   have e2:bR 2 v (some (N .i64 (i:Int))) none none=some v2:=e2
   have hvb:=ho3.blk
   rw [Tn,iV,e1,dD]
   have o4:Ow dz (M3.push (.row [] false T 0)) M3.next T (.slc M3.next 0 0 (.ex 0)) []:=Ow.lit dz M3
   have k4:ah [] M3 (M3.push (.row [] false T 0)):=(ah.refl _ _).push _
   have n4:(M3.push (.row [] false T 0)).next=M3.next + 1:=rfl
   generalize M3.push (.row [] false T 0)=M4 at *
   have h4:=k4.aO h33 (by omega) (by simp)
   rw [dG (n:=2) h4 rfl,je (x:=.agg (aQ d)) (size:=2) rfl rfl rfl,iV,e2,dD]
   have h5:(M4.push (.row (AV.agg (aQ d)).cells false T 0)).heap M4.next=some (.row (aQ d) false T 0):=RM.aR _
   have k5:ah [] M4 (M4.push (.row (AV.agg (aQ d)).cells false T 0)):=(ah.refl _ _).push _
   have n5:(M4.push (.row (AV.agg (aQ d)).cells false T 0)).next=M4.next + 1:=rfl
   generalize M4.push (.row (AV.agg (aQ d)).cells false T 0)=M5 at *
   have k45:=k4.trans k5
   refine oN (E:=dz) (ys:=l.take i) (o4.keep k5 (by simp)) (by omega) (by decide) (aM.keep s1 k45 (by simp)) (by simp; omega) (by simp; omega) ?_
   intro v6 M6 o6 k6 n6 _
   have hk6:∀ c,c<M3.next→c ∉ aF (.slc M3.next 0 0 (.ex 0)):=fun c hc hm=>by simp [aF] at hm; omega
   have h6:=k6.aO (k5.aO h4 (by omega) (by simp)) (by omega) (hk6 _ (by omega))
   have h66:=k6.aO h5 (by omega) (by simp [aF]; omega)
   rw [dG (n:=2) h6 rfl]
   refine ⟨rfl, ?_⟩
   rw [je (x:=.agg (aQ d)) (size:=2) rfl rfl rfl]
   refine ⟨⟨h66,rfl⟩, ?_⟩
   rw [dD]
   refine ⟨rfl, ?_⟩
   rw [List.nil_append] at o6
   have sd:Sl dz M6 (.slc M4.next 0 1 (.ex 1)) [d]:=.slc _ _ _ _ _ (by omega) (by rw [RM.dh h66 (by show 0 + 1 * 2≤2; omega)]; rfl)
   refine oN (E:=dz) (ys:=[d]) o6 (by omega) (by decide) sd (by simp; omega) (by simp; omega) ?_
   intro v7 M7 o7 k7 n7 _
   rw [dD]
   refine ⟨rfl, ?_⟩
   have hv6:=o6.blk
   have hv7:=o7.blk
   have s27:Sl dz M7 v2 (l.drop i):=by
    refine aM.keep (aM.keep (aM.keep s2 k45 (by simp)) k6 fun c hc=>?_) k7 fun c hc hm=>?_
    ·exact hk6 c (hvb c (hb2 c hc)).2
    ·have:=(hv6 c hm).1
     have:=(hvb c (hb2 c hc)).2
     omega
   refine oN (E:=dz) (ys:=l.drop i) o7 (by omega) (by decide) s27 (by simp; omega) (by simp; omega) ?_
   intro v8 M8 o8 k8 n8 _
   refine hQ v8 M8 ?_ ?_
   ·rw [hat]
    have:=o8.mono (base':=base) (by have:=k13.next; omega)
    have e:l.take i++[d]++l.drop i=l.take i++d :: l.drop i:=by simp
    rw [e] at this
    exact this
   ·have a1:ah [] M M5:=k13.trans k45
    have:=k13.next
    refine ((a1.bi k6 fun c hc=>.inl (by simp [aF] at hc; omega)).bi k7 fun c hc=>.inl (by have:=(hv6 c hc).1; omega)).bi k8 fun c hc=>.inl (by have:=(hv7 c hc).1; omega)
  rw [aM.len s3,bL]
  by_cases hlt:i<l.length
  ·rw [show decide ((i:Int)<(l.length:Int))=true by simpa using hlt,bS]
   dsimp only
   obtain ⟨b1,o1,_,_,hidx,hld⟩:=Sl.at (E:=dz) (i:=i) s3 2 (i:Int) hlt rfl rfl
   rw [hidx,eQ]
   refine ⟨_,hld, ?_⟩
   rw [dG (n:=2) h33 rfl]
   refine ha fun M4 k4=>?_
   rw [dF]
   refine aI (fun hg=>?_) (fun hg=>?_)
   ·rw [bH,dQ (by omega)]
    refine hnext _ _ _ (by omega) ⟨i + 1,rfl,rfl,by omega,k3.trans k4,fun k hk hki=>?_⟩
    rcases Nat.lt_or_ge k i with h | h
    ·exact hah k hk h
    ·have:k=i:=by omega
     subst this; exact hg
   ·exact fin M4 (k3.trans k4) (Gn hi hah fun _=>hg)
  ·rw [show decide ((i:Int)<(l.length:Int))=false by simp; omega,bV]
   dsimp only
   rw [bU,bK]
   exact fin M3 k3 (Gn hi hah fun h=>absurd h hlt)
end Go.Ab.aC
set_option maxRecDepth 10000
set_option linter.unusedVariables false
set_option linter.unusedSimpArgs false
namespace Go.Ab.aC
open Go Go.Ab
def aat (p:List Pt × List aC) (d:aC) : List Pt × List aC:=((lg p.1 d).2,if (lg p.1 d).1=0 then sM p.2 d else p.2)
def Z7 (l:List aC) : List Pt × List aC:=l.foldl aat (jE,[])
theorem OQ:∀ p∈jE,iZ p:=fun p hp=>by
 simp only [jE,List.mem_replicate] at hp
 rw [hp.2]
 exact ⟨.nil,fun x hx=>by simp at hx,Nat.zero_le _,fun x hx=>by simp at hx,Nat.zero_le _⟩
theorem nK {ps:List Pt} (h:∀ p∈ps,iZ p) (i:Nat) : iZ (ps.getD i (0,[])):=by
 rw [List.getD_eq_getElem?_getD]
 by_cases hj:i<ps.length
 ·rw [List.getElem?_eq_getElem hj]
  exact h _ (List.getElem_mem hj)
 ·rw [List.getElem?_eq_none (by omega)]
  exact ⟨.nil,fun x hx=>by simp at hx,Nat.zero_le _,fun x hx=>by simp at hx,Nat.zero_le _⟩
theorem YP {ps:List Pt} {d:aC} (h:∀ p∈ps,iZ p) : ∀ p∈(lg ps d).2,iZ p:=by
 unfold lg
 split
 ·rename_i hg
  split
  ·intro p hp
   rcases List.mem_or_eq_of_mem_set hp with hp | rfl
   ·exact h p hp
   ·refine YF (nK h _) ?_
    simp only [good,Bool.and_eq_true,decide_eq_true_eq] at hg
    exact hg.2
  ·exact h
 ·exact h
theorem Uu {f g:Prop→Prop} {k:Prop} : rX (Bo true) true f g k=f k:=rfl
theorem Own.wI {M:RM} {base el size n:Nat} {v:AV} {cs:List AV} (h:Own M base el size v cs n) (hn:0<n) : ∃ b,v=.slc b 0 n (.op size)∧base≤b∧b<M.next∧M.heap b=some (.row cs true el 0)∧cs.length=n * size:=by
 cases h with
 | nil=>omega
 | ex0=>omega
 | op b n cs h1 h2 h3 h4=>exact ⟨b,rfl,h1,h2,h3,h4⟩
end Go.Ab.aC
set_option maxRecDepth 10000
set_option linter.unusedVariables false
set_option linter.unusedSimpArgs false
namespace Go.Ab.aC
open Go Go.Ab
theorem XF (x:Nat) (xs:List Nat) : fV xs.length x xs=xs++[x]:=by simp [fV]
theorem Uq {M:RM} {v:AV} {bx n0 T x ex:Nat} {xs:List Nat} {co cr:av} {Q:ai} (ho:Ow aS M n0 T v xs) (hn:n0≤M.next) (hl:xs.length≤100000) (hx:M.heap bx=some (.row [N .u64 (x:Int)] false ex 0)) (hxl:bx<M.next)
  (hQ:∀ v' M',Sl aS M' v' (fV xs.length x xs)→kY v'→(∀ c∈aF v',n0≤c)→ah (aF v) M M'→Q v' M') : lD T co cr v (N .i64 (xs.length:Int)) (.slc bx 0 1 (.ex 1)) M Q:=by
 unfold lD
 obtain ⟨v1,v2,e1,s1,e2,s2,hb1,hb2⟩:=Ke (E:=aS) (k:=xs.length) (by decide) ho (Nat.le_refl _)
 have e2:bR 1 v (some (N .i64 (xs.length:Int))) none none=some v2:=e2
 have hs:Sl aS M v xs:=ho.eu
 rw [e2,dD,lV,di,show ((((1:Nat) : Int)) == 0)=false from rfl,bK,aM.len hs,di,show ((xs.length:Int) == (xs.length:Int))=true by simp,dP]
 have sx:Sl aS M (.slc bx 0 1 (.ex 1)) [x]:=.slc _ _ _ _ _ hxl (by rw [RM.dh hx (by show 0 + 1 * 1≤1; omega)]; rfl)
 refine oN (E:=aS) (ys:=[x]) ho hn (Nat.le_refl _) sx (by simp; omega) (by simp; omega) ?_
 intro v' M' o k _ _
 refine hQ v' M' ?_ (Own.kY o) (fun c hc=>(o.blk c hc).1) k
 rw [XF]
 exact o.eu
end Go.Ab.aC
set_option maxRecDepth 10000
set_option linter.unusedVariables false
set_option linter.unusedSimpArgs false
namespace Go.Ab.aC
open Go Go.Ab
def ll (p q:Pt) : Bool:=decide (p.1≤q.1) && p.2.all (il q)
def iL (ps qs:List Pt) : Bool:=(List.range 16).all fun i=>ll (ps.getD i (0,[])) (qs.getD i (0,[]))
theorem qb {ps qs:List Pt} : iL ps qs=true↔∀ i,i<16→ll (ps.getD i (0,[])) (qs.getD i (0,[]))=true:=by
 unfold iL
 rw [List.all_eq_true]
 exact ⟨fun h i hi=>h i (List.mem_range.2 hi),fun h i hi=>h i (List.mem_range.1 hi)⟩
def EU (T:Nat) (c:av) : Prop:=∀ {M:RM} {a b:Nat} {ps qs:List Pt} {S S' : Nat→Prop} {Q:ai},fZ T S M a ps→fZ T S' M b qs→(∀ p∈ps,p.2.length≤1000000)→(∀ q∈qs,Asc q.2∧q.2.length≤1000000) →
 (∀ M',ah [] M M'→Q (Bo (iL ps qs)) M')→c [.ptr a 0,.ptr b 0] M Q
theorem Qb {TS T:Nat} {ch:av} (hh:MH ch) : EU TS fun args M Q=>∃ a0 a1,args=[a0,a1]∧xg T ch a0 a1 M Q:=by
 intro M a b ps qs S S' Q h h' hpl hql hQ
 refine ⟨_,_,rfl, ?_⟩
 unfold xg
 obtain ⟨l,ha,hl32,hrow⟩:=h.row
 obtain ⟨l',hb,hl32',hrow'⟩:=h'.row
 rw [aK,aW,dG (n:=32) ha hl32]
 refine aJ (fun m ys M3=>∃ (i:Nat),m=16 - i∧ys=[N .i64 (i:Int)]∧i≤16∧ah [] M M3∧∀ j,j<i→ll (ps.getD j (0,[])) (qs.getD j (0,[]))=true) _
  ⟨0,rfl,rfl,Nat.zero_le _,ah.refl _ _,fun j hj=>by omega⟩ ?_
 rintro next m ys M3 hnext ⟨i,rfl,rfl,hi,hK,hset⟩
 dsimp only [aa]
 rw [bL]
 refine aI (fun hlt=>?_) (fun hge=>?_)
 ·have hlt:i<16:=by
   have:(i:Int)<16:=of_decide_eq_true hlt
   omega
  have hil:i<ps.length:=by rw [h.len]; exact hlt
  have hil' : i<qs.length:=by rw [h'.len]; exact hlt
  obtain ⟨w,a1,a2,a3,a4,a5⟩:=hrow i hil
  obtain ⟨w',b1,b2,b3,b4,b5⟩:=hrow' i hil'
  have hpD:ps.getD i (0,[])=ps[i]:=by rw [List.getD_eq_getElem?_getD,List.getElem?_eq_getElem hil]; rfl
  have hqD:qs.getD i (0,[])=qs[i]:=by rw [List.getD_eq_getElem?_getD,List.getElem?_eq_getElem hil']; rfl
  have hcut:(l.drop (2 * i)).take 2=[N .u64 (ps[i].1:Int),w]:=by
   obtain ⟨q1,q2⟩:=List.getElem?_eq_some_iff.1 a1
   obtain ⟨r1,r2⟩:=List.getElem?_eq_some_iff.1 a2
   rw [List.drop_eq_getElem_cons q1,List.drop_eq_getElem_cons r1,q2,r2]; rfl
  rw [LY]
  refine ⟨by omega,by omega,by simp only [Int.toNat_natCast]; omega, ?_⟩
  rw [Int.toNat_natCast,Nat.mul_comm i 2,hcut,aX]
  have hw1:=aM.one a3
  rw [gI (n:=2) (x:=.agg [N .u64 (ps[i].1:Int),w]) (l:=[N .u64 0,.sc (.slice none 0 0)]) (RM.aR _) rfl rfl (by simp [AV.cells,hw1]; rfl)]
  have kk:ah [] M3 ((M3.push (.row [N .u64 0,.sc (.slice none 0 0)] false T 0)).put M3.next (.row (AV.agg [N .u64 (ps[i].1:Int),w]).cells false T 0)):=((ah.refl _ _).push _).new _ (Nat.le_refl _)
  have hh' : ((M3.push (.row [N .u64 0,.sc (.slice none 0 0)] false T 0)).put M3.next (.row (AV.agg [N .u64 (ps[i].1:Int),w]).cells false T 0)).heap M3.next=some (.row [N .u64 (ps[i].1:Int),w] false T 0):=aZ _
  generalize (M3.push (.row [N .u64 0,.sc (.slice none 0 0)] false T 0)).put M3.next (.row (AV.agg [N .u64 (ps[i].1:Int),w]).cells false T 0)=M4 at *
  have k4:=hK.trans kk
  have s4:Sl aS M4 w ps[i].2:=aM.keep a3 k4 (by simp)
  have t4:Sl aS M4 w' qs[i].2:=aM.keep b3 k4 (by simp)
  have hb4:=k4.aO hb h'.lt (by simp)
  have hxl:=hpl _ (List.getElem_mem hil)
  obtain ⟨hqa,hqn⟩:=hql _ (List.getElem_mem hil')
  rw [aK,aW,gW]
  refine ⟨by omega,by omega, ?_⟩
  rw [Int.toNat_natCast,Nat.zero_add,Nat.mul_comm i 2,aW,ak hh' rfl,aK,aG,Nat.add_zero,ak hb4 b1,iC]
  have fail:∀ M5,ah [] M4 M5→ll ps[i] qs[i]=false→Q (Bo false) M5:=fun M5 k5 hf=>by
   have:iL ps qs=false:=by
    rw [Bool.eq_false_iff]
    intro hall
    have:=qb.1 hall i hlt
    rw [hpD,hqD,hf] at this
    cases this
   rw [← this]
   exact hQ M5 (k4.trans k5)
  refine aI (fun hg=>fail M4 (ah.refl _ _) ?_) (fun hg=>?_)
  ·have:((ps[i].1:Nat) : Int) > ((qs[i].1:Nat) : Int):=of_decide_eq_true hg
   unfold ll
   rw [show decide (ps[i].1≤qs[i].1)=false by simp; omega,Bool.false_and]
  ·have hle:ps[i].1≤qs[i].1:=by
    have:¬ ((ps[i].1:Nat) : Int) > ((qs[i].1:Nat) : Int):=of_decide_eq_false hg
    omega
   rw [aW,ak hh' rfl,aM.len s4]
   refine aJ (fun m ys M5=>∃ (j:Nat),m=ps[i].2.length - j∧ys=[N .i64 (j:Int)]∧j≤ps[i].2.length∧M5=M4∧ps[i].2.all (il qs[i])=(ps[i].2.drop j).all (il qs[i])) _
    ⟨0,rfl,rfl,Nat.zero_le _,rfl,rfl⟩ ?_
   rintro next2 m ys M5 hnext2 ⟨j,rfl,rfl,hj,rfl,hall⟩
   dsimp only [aa]
   rw [bL]
   refine aI (fun hlt2=>?_) (fun hge2=>?_)
   ·have hlt2:j<ps[i].2.length:=by simpa using hlt2
    obtain ⟨b9,o9,_,_,hidx,hc⟩:=Sl.qX (E:=aS) s4 (j:Int) hlt2
    rw [List.drop_eq_getElem_cons hlt2,List.all_cons] at hall
    rw [hidx,fu]
    refine ⟨_,hc _ rfl, ?_⟩
    refine hh hb4 b1 b2 t4 hqa hqn ?_
    rw [bO]
    cases hhas:il (qs[i].1,qs[i].2) ps[i].2[j] with
    | false =>
      have hhas:il qs[i] ps[i].2[j]=false:=hhas
      rw [Bool.not_false,dP]
      refine fail M5 (ah.refl _ _) ?_
      unfold ll
      rw [hall,hhas,Bool.false_and,Bool.and_false]
    | true =>
      have hhas:il qs[i] ps[i].2[j]=true:=hhas
      rw [Bool.not_true,bK,bH,dQ (by omega)]
      refine hnext2 _ _ _ (by omega) ⟨j + 1,rfl,rfl,by omega,rfl, ?_⟩
      rw [hall,hhas,Bool.true_and]
   ·have he:j=ps[i].2.length:=by simp at hge2; omega
    subst he
    rw [List.drop_length,List.all_nil] at hall
    rw [bH,dQ (by omega)]
    refine hnext _ _ _ (by omega) ⟨i + 1,rfl,rfl,by omega,k4,fun j hj=>?_⟩
    rcases Nat.lt_or_ge j i with h | h
    ·exact hset j h
    ·have:j=i:=by omega
     subst this
     rw [hpD,hqD]
     unfold ll
     rw [hall,Bool.and_true]
     simpa using hle
 ·have he:i=16:=by
   have:¬ (i:Int)<16:=of_decide_eq_false hge
   omega
  subst he
  have:iL ps qs=true:=qb.2 hset
  rw [← this]
  exact hQ M3 hK
def dB (ps:List Pt) (d:aC) : Bool:=good d && il (ps.getD d.1.toNat (0,[])) d.2
def Mw (T:Nat) (c:av) : Prop:=∀ {M:RM} {b:Nat} {ps:List Pt} {d:aC} {S:Nat→Prop} {Q:ai},fZ T S M b ps→(∀ q∈ps,Asc q.2∧q.2.length≤1000000) →
 (∀ M',ah [] M M'→Q (Bo (dB ps d)) M')→c [.ptr b 0,.agg (aQ d)] M Q
theorem Ut {TS T:Nat} {cg ch:av} (hg:xH cg) (hh:MH ch) : Mw TS fun args M Q=>∃ a0 a1,args=[a0,a1]∧Eg T cg ch a0 a1 M Q:=by
 intro M b ps d S Q h hql hQ
 refine ⟨_,_,rfl, ?_⟩
 unfold Eg
 simp only [fF,dY]
 rw [dH rfl (by simp),aX,dG (n:=2) (RM.aR _) rfl]
 have k1:ah [] M (M.push (.row (aQ d) false T 0)):=(ah.refl _ _).push _
 have h3:(M.push (.row (aQ d) false T 0)).heap M.next=some (.row (aQ d) false T 0):=RM.aR _
 have n1:(M.push (.row (aQ d) false T 0)).next=M.next + 1:=rfl
 generalize M.push (.row (aQ d) false T 0)=M1 at *
 refine hg fun M2 k2=>?_
 have kk:=k1.trans k2
 have h3:=k2.aO h3 (by omega) (by simp)
 have hQ:=hQ M2 kk
 unfold dB at hQ
 cases hgd:good d with
 | false =>
   rw [bV]
   dsimp only
   rw [bU]
   rw [hgd,Bool.false_and] at hQ
   exact hQ
 | true =>
   rw [hgd,Bool.true_and] at hQ
   simp [good] at hgd
   obtain ⟨i,hi⟩ : ∃ i:Nat,d.1=(i:Int):=⟨d.1.toNat,by omega⟩
   have hi16:i<16:=by omega
   have s2:=h.keep kk (by simp) (by simp)
   have hil:i<ps.length:=by rw [h.len]; exact hi16
   have hpD:ps.getD d.1.toNat (0,[])=ps[i]:=by rw [hi,Int.toNat_natCast,List.getD_eq_getElem?_getD,List.getElem?_eq_getElem hil]; rfl
   rw [hpD] at hQ
   obtain ⟨l,hb,hl32,hrow⟩:=s2.row
   obtain ⟨v,a1,a2,a3,a4,a5⟩:=hrow i hil
   obtain ⟨hqa,hqn⟩:=hql _ (List.getElem_mem hil)
   rw [bS]
   dsimp only
   rw [aW,ak h3 rfl,aK,aW,hi,gW]
   refine ⟨by omega,by omega, ?_⟩
   rw [aW,ak h3 rfl,Int.toNat_natCast,Nat.zero_add,Nat.mul_comm i 2]
   refine hh hb a1 a2 a3 hqa hqn ?_
   rw [dF]
   exact hQ
end Go.Ab.aC
set_option maxRecDepth 10000
set_option linter.unusedVariables false
set_option linter.unusedSimpArgs false
namespace Go.Ab.aC
open Go Go.Ab
abbrev lN:Nat→Nat→Bool:=fun x y=>decide (x<y)
def PM (M:RM) (b T:Nat) (d:Array Nat) : RM:=M.put b (.row (aS.row d.toList) true T 0)
abbrev vv (b n:Nat) : AV:=.slc b 0 n (.op 1)
section
variable {M:RM} {b T n i j:Nat} {d:Array Nat} {K:AV→Prop}
theorem PM.heap:(PM M b T d).heap b=some (.row (aS.row d.toList) true T 0):=RM.uo _ _
theorem PM.FX:(aS.row d.toList).length=d.size:=by rw [Enc.ed]; simp [aS]
theorem tC (hi:i<d.size) : d[i]! = d[i]:=getElem!_pos d i hi
theorem PM.cellAt (hi:i<d.size) : (aS.row d.toList)[i]?=some (N .u64 ((d[i]! : Nat) : Int)):=by
 rw [zA,List.getElem?_map,Array.getElem?_toList,tC hi,Array.getElem?_eq_getElem hi]; rfl
theorem PM.idx {kd:IntKind} (hi:i<n) : ax (vv b n) (N kd (i:Int)) 1 K=K (.ptr b i):=by
 rw [lQ]
 simp only [Int.toNat_natCast]
 rw [show 0 + i * 1=i by omega]
 exact propext ⟨fun h=>h.2.2,fun h=>⟨by omega,by omega,h⟩⟩
theorem PM.rd {kd:IntKind} (hn:n=d.size) (hi:i<d.size) : (ax (vv b n) (N kd (i:Int)) 1 fun p=>aj (PM M b T d) p K)=K (N .u64 ((d[i]! : Nat) : Int)):=by
 rw [PM.idx (by omega),ak PM.heap (PM.cellAt hi)]
theorem PM.put {x:Nat} (hi:i<d.size) {K:RM→Prop} : aN (PM M b T d) (.ptr b i) (N .u64 (x:Int)) 1 K=K (PM M b T (d.setIfInBounds i x)):=by
 rw [fq PM.heap (by rw [PM.FX]; exact hi) rfl rfl]
 congr 1
 have e:(aS.row d.toList).set i (N .u64 (x:Int))=aS.row (d.setIfInBounds i x).toList:=by rw [zA,zA,Array.toList_setIfInBounds,List.map_set]
 rw [e,PM,PM]
 unfold RM.put
 congr 1
 funext c
 by_cases h:c=b <;> simp [h]
theorem PM.swap {k1 k2:IntKind} (hn:n=d.size) (hi:i<d.size) (hj:j<d.size) {K:RM→Prop} :
  (ax (vv b n) (N k1 (i:Int)) 1 fun p=>aN (PM M b T d) p (N .u64 ((d[j]! : Nat) : Int)) 1 fun M1=>ax (vv b n) (N k2 (j:Int)) 1 fun q=>aN M1 q (N .u64 ((d[i]! : Nat) : Int)) 1 K)=K (PM M b T (Sort.swp d i j)):=by
 rw [PM.idx (by omega),PM.put hi,PM.idx (by omega),PM.put (by simpa using hj)]
 rfl
theorem eP (d:Array Nat) (i j:Nat) : (Sort.swp d i j).size=d.size:=by simp [Sort.swp]
theorem PM.push {x:RB} (h:b<M.next) : (PM M b T d).push x=PM (M.push x) b T d:=by
 unfold PM RM.push RM.put
 congr 1
 funext c
 simp only
 by_cases h1:c=M.next <;> by_cases h2:c=b <;> simp [h1,h2] <;> omega
theorem PM.Sq {x:RB} {c:Nat} (h:c≠b) : (PM M b T d).put c x=PM (M.put c x) b T d:=by
 unfold PM RM.put
 congr 1
 funext e
 simp only
 by_cases h1:e=c <;> by_cases h2:e=b <;> simp [h1,h2] <;> omega
theorem PM.I9 {c:Nat} (h:c≠b) : (PM M b T d).heap c=M.heap c:=by
 unfold PM RM.put; simp [h]
theorem addN (h:i + j<4611686018427387904) : af .add (N .i64 (i:Int)) (N .i64 (j:Int)) K=K (N .i64 ((i + j:Nat) : Int)):=by
 rw [bH,bD (by omega) (by omega),Int.natCast_add]
theorem add1 (h:i<4611686018427387904) : af .add (N .i64 (i:Int)) (N .i64 1) K=K (N .i64 ((i + 1:Nat) : Int)):=by
 rw [bH,dQ (by omega)]
theorem gK (h:j≤i) (hb:i<4611686018427387904) : af .sub (N .i64 (i:Int)) (N .i64 (j:Int)) K=K (N .i64 ((i - j:Nat) : Int)):=by
 rw [gT,bD (by omega) (by omega),show (i:Int) - (j:Int)=((i - j:Nat) : Int) by omega]
theorem dm (h:1≤i) (hb:i<4611686018427387904) : af .sub (N .i64 (i:Int)) (N .i64 1) K=K (N .i64 ((i - 1:Nat) : Int)):=gK h hb
theorem aad (hb:i<1152921504606846976) : af .mul (N .i64 2) (N .i64 (i:Int)) K=K (N .i64 ((2 * i:Nat) : Int)):=by
 rw [xA,bD (by omega) (by omega),show (2:Int) * (i:Int)=((2 * i:Nat) : Int) by omega]
theorem dX:af .lss (N .i64 (i:Int)) (N .i64 (j:Int)) K=K (Bo (decide (i<j))):=by rw [bL,show decide ((i:Int)<(j:Int))=decide (i<j) by simp]
theorem vB:af .gtr (N .i64 (i:Int)) (N .i64 (j:Int)) K=K (Bo (decide (i > j))):=by rw [iC,show decide ((i:Int) > (j:Int))=decide (i > j) by simp]
theorem pO:af .leq (N .i64 (i:Int)) (N .i64 (j:Int)) K=K (Bo (decide (i≤j))):=by rw [lW,show decide ((i:Int)≤(j:Int))=decide (i≤j) by simp]
theorem mP:af .geq (N .i64 (i:Int)) (N .i64 (j:Int)) K=K (Bo (decide (i ≥ j))):=by rw [jw,show decide ((i:Int) ≥ (j:Int))=decide (i ≥ j) by simp]
theorem Ui:af .eql (N .i64 (i:Int)) (N .i64 (j:Int)) K=K (Bo (decide (i=j))):=by
 rw [di,show ((i:Int) == (j:Int))=decide (i=j) by by_cases h:i=j <;> simp [h]; omega]
end
def vG (T:Nat) (f:Array Nat→Nat→Nat→Array Nat) (P:Array Nat→Nat→Nat→Prop) (c:av) : Prop:=∀ {M:RM} {b a e:Nat} {d:Array Nat} {Q:ai},b<M.next→d.size≤1000000→a≤e→e≤d.size→P d a e→Q (.tup []) (PM M b T (f d a e)) →
 c [vv b d.size,N .i64 (a:Int),N .i64 (e:Int)] (PM M b T d) Q
theorem FO (a:Nat) : ∀ (j:Nat) (d:Array Nat),(Sort.insInner lN a j d).size=d.size
 | 0,d=>rfl
 | j + 1,d=>by
   rw [Sort.insInner]
   split
   ·rw [FO a j,eP]
   ·rfl
theorem Vh {T:Nat} {cl:av} (hl:uz cl) : vG T (Sort.insertionSort lN) (fun _ _ _=>True) fun args M Q=>∃ a0 a1 a2,args=[a0,a1,a2]∧eY cl a0 a1 a2 M Q:=by
 intro M b a e d Q hb hsz hae he _ hQ
 refine ⟨_,_,_,rfl, ?_⟩
 unfold eY
 simp only [fF,dY,fH]
 rw [add1 (by omega)]
 rw [Sort.insertionSort] at hQ
 obtain ⟨R,hR⟩ : ∃ R,R=Sort.insOuter lN a e (a + 1) d:=⟨_,rfl⟩
 rw [← hR] at hQ
 refine aJ (fun m ys M3=>∃ (i:Nat) (d3:Array Nat),m=d.size - i∧ys=[N .i64 (i:Int)]∧i≤d.size + 1∧M3=PM M b T d3∧d3.size=d.size∧R=Sort.insOuter lN a e i d3) _ ⟨a + 1,d,rfl,rfl,by omega,rfl,rfl,hR⟩ ?_
 rintro next m ys M3 hnext ⟨i,d3,rfl,rfl,hi,rfl,hs3,hm⟩
 dsimp only [aa]
 rw [dX]
 refine aI (fun hlt=>?_) (fun hge=>?_)
 ·have hlt:i<e:=of_decide_eq_true hlt
  rw [Sort.insOuter,if_pos hlt] at hm
  obtain ⟨R5,hR5⟩ : ∃ R5,R5=Sort.insInner lN a i d3:=⟨_,rfl⟩
  rw [← hR5] at hm
  refine aJ (fun m ys M5=>∃ (j:Nat) (d5:Array Nat),m=j + 1∧ys=[N .i64 (j:Int)]∧j≤i∧M5=PM M b T d5∧d5.size=d.size∧R5=Sort.insInner lN a j d5) _ ⟨i,d3,rfl,rfl,Nat.le_refl _,rfl,hs3,hR5⟩ ?_
  rintro next2 m ys M5 hnext2 ⟨j,d5,rfl,rfl,hj,rfl,hs5,hm5⟩
  dsimp only [aa]
  rw [vB]
  have out:Sort.insInner lN a j d5=d5→af .add (N .i64 (i:Int)) (N .i64 1) (fun t14=>next [t14] (PM M b T d5)):=fun h=>by
   rw [add1 (by omega)]
   refine hnext _ _ _ (by omega) ⟨i + 1,d5,rfl,rfl,by omega,rfl,hs5, ?_⟩
   rw [hm,hm5,h]
  by_cases hg:j > a
  ·obtain ⟨k,rfl⟩ : ∃ k,j=k + 1:=⟨j - 1,by omega⟩
   rw [decide_eq_true hg,bS]
   dsimp only
   rw [PM.rd hs5.symm (by omega),dm (by omega) (by omega),Nat.add_sub_cancel,PM.rd hs5.symm (by omega)]
   refine hl ?_
   rw [dF]
   rw [Sort.insInner] at hm5 out
   refine aI (fun h=>?_) (fun h=>?_)
   ·rw [if_pos (by simp [hg,h])] at hm5
    rw [dm (by omega) (by omega),dm (by omega) (by omega),Nat.add_sub_cancel,PM.rd hs5.symm (by omega),PM.rd hs5.symm (by omega),PM.swap hs5.symm (by omega) (by omega),dm (by omega) (by omega),Nat.add_sub_cancel]
    exact hnext2 _ _ _ (by omega) ⟨k,_,rfl,rfl,by omega,rfl,by rw [eP]; exact hs5,hm5⟩
   ·exact out (by rw [if_neg (by simp [h])])
  ·rw [decide_eq_false hg,bV]
   dsimp only
   rw [bU,bK]
   refine out ?_
   cases j with
   | zero=>rfl
   | succ k=>rw [Sort.insInner,if_neg (by simp [hg])]
 ·have hge:¬ i<e:=of_decide_eq_false hge
  rw [Sort.insOuter,if_neg hge] at hm
  rw [hm] at hQ
  exact hQ
theorem Ns {T:Nat} : vG T Sort.reverseRange (fun _ a e=>a<e) fun args M Q=>∃ a0 a1 a2,args=[a0,a1,a2]∧jr a0 a1 a2 M Q:=by
 intro M b a e d Q hb hsz hae he hP hQ
 refine ⟨_,_,_,rfl, ?_⟩
 unfold jr
 rw [dm (by omega) (by omega)]
 rw [Sort.reverseRange] at hQ
 obtain ⟨R,hR⟩ : ∃ R,R=Sort.reverseLoop a (e - 1) d:=⟨_,rfl⟩
 rw [← hR] at hQ
 refine aJ (fun m ys M3=>∃ (i j:Nat) (d3:Array Nat),m=j - i∧ys=[N .i64 (i:Int),N .i64 (j:Int)]∧j<d.size∧i≤d.size∧M3=PM M b T d3∧d3.size=d.size∧R=Sort.reverseLoop i j d3) _ ⟨a,e - 1,d,rfl,rfl,by omega,by omega,rfl,rfl,hR⟩ ?_
 rintro next m ys M3 hnext ⟨i,j,d3,rfl,rfl,hj,hi,rfl,hs3,hm⟩
 dsimp only [aa]
 rw [dX]
 rw [Sort.reverseLoop] at hm
 refine aI (fun hlt=>?_) (fun hge=>?_)
 ·have hlt:i<j:=of_decide_eq_true hlt
  rw [if_pos hlt] at hm
  rw [PM.rd hs3.symm (by omega),PM.rd hs3.symm (by omega),PM.swap hs3.symm (by omega) (by omega),add1 (by omega),dm (by omega) (by omega)]
  exact hnext _ _ _ (by omega) ⟨i + 1,j - 1,_,rfl,rfl,by omega,by omega,rfl,by rw [eP]; exact hs3,hm⟩
 ·have hge:¬ i<j:=of_decide_eq_false hge
  rw [if_neg hge] at hm
  rw [hm] at hQ
  exact hQ
def SS (T:Nat) (c:av) : Prop:=∀ {M:RM} {b lo hi first:Nat} {d:Array Nat} {Q:ai},b<M.next→d.size≤1000000→first + hi≤d.size→lo≤1000000→Q (.tup []) (PM M b T (Sort.siftDown lN hi first lo d)) →
 c [vv b d.size,N .i64 (lo:Int),N .i64 (hi:Int),N .i64 (first:Int)] (PM M b T d) Q
theorem wy (hi first:Nat) : ∀ (k lo:Nat) (d:Array Nat),hi - lo≤k→(Sort.siftDown lN hi first lo d).size=d.size
 | 0,lo,d,h=>by rw [Sort.siftDown,dif_pos (by omega)]
 | k + 1,lo,d,h=>by
   rw [Sort.siftDown]
   split
   ·rfl
   ·split
    ·split
     ·rfl
     ·split
      ·rw [wy hi first k _ _ (by omega),eP]
      ·rfl
    ·split
     ·rfl
     ·rw [wy hi first k _ _ (by omega),eP]
theorem VK {T:Nat} {cl:av} (hl:uz cl) : SS T fun args M Q=>∃ a0 a1 a2 a3,args=[a0,a1,a2,a3]∧kP cl a0 a1 a2 a3 M Q:=by
 intro M b lo hi first d Q hb hsz hfe hlo hQ
 refine ⟨_,_,_,_,rfl, ?_⟩
 unfold kP
 simp only [fF,dY,fH,cZ]
 obtain ⟨R,hR⟩ : ∃ R,R=Sort.siftDown lN hi first lo d:=⟨_,rfl⟩
 rw [← hR] at hQ
 refine aJ (fun m ys M3=>∃ (r:Nat) (d3:Array Nat),m=1000000 + hi - r∧ys=[N .i64 (r:Int)]∧(r≤1000000)∧M3=PM M b T d3∧d3.size=d.size∧R=Sort.siftDown lN hi first r d3) _ ⟨lo,d,rfl,rfl,hlo,rfl,rfl,hR⟩ ?_
 rintro next m ys M3 hnext ⟨r,d3,rfl,rfl,hr,rfl,hs3,hm⟩
 dsimp only [aa]
 rw [aad (by omega),add1 (by omega),mP]
 rw [Sort.siftDown] at hm
 refine aI (fun hg=>?_) (fun hg=>?_)
 ·rw [dif_pos (of_decide_eq_true hg)] at hm
  rw [hm] at hQ
  exact hQ
 have hg:¬ 2 * r + 1 ≥ hi:=of_decide_eq_false hg
 rw [dif_neg hg] at hm
 -- the child that is taken
 refine bn (fun zs M'=>∃ c:Nat,zs=[N .i64 (c:Int)]∧M'=PM M b T d3∧r<c∧c<hi∧R=if !lN d3[first + r]! d3[first + c]! then d3 else Sort.siftDown lN hi first c (Sort.swp d3 (first + r) (first + c))) ?_ ?_
 ·rintro zs M' ⟨c,rfl,rfl,hrc,hchi,hm2⟩
  dsimp only [aa]
  rw [addN (by omega),PM.rd hs3.symm (by omega),addN (by omega),PM.rd hs3.symm (by omega)]
  refine hl ?_
  rw [bO]
  refine aI (fun h=>?_) (fun h=>?_)
  ·rw [if_pos h] at hm2
   rw [hm2] at hQ
   exact hQ
  ·rw [if_neg (by simp only [lN,h]; decide)] at hm2
   rw [addN (by omega),addN (by omega),addN (by omega),PM.rd hs3.symm (by omega),addN (by omega),PM.rd hs3.symm (by omega),PM.swap hs3.symm (by omega) (by omega)]
   exact hnext _ _ _ (by omega) ⟨c,_,rfl,rfl,by omega,rfl,by rw [eP]; exact hs3,hm2⟩
 intro J hJ
 rw [add1 (by omega),dX]
 have one:¬ (2 * r + 1 + 1<hi∧lN d3[first + (2 * r + 1)]! d3[first + (2 * r + 1) + 1]! = true)→J [N .i64 ((2 * r + 1:Nat) : Int)] (PM M b T d3):=fun h=>by
  refine hJ _ _ ⟨2 * r + 1,rfl,rfl,by omega,by omega, ?_⟩
  rw [if_neg (by simpa using h)] at hm
  exact hm
 by_cases h1:2 * r + 1 + 1<hi
 ·rw [decide_eq_true h1,bS]
  dsimp only
  rw [addN (by omega),PM.rd hs3.symm (by omega),addN (by omega),add1 (by omega),PM.rd hs3.symm (by omega)]
  refine hl ?_
  rw [dF]
  refine aI (fun h=>?_) (fun h=>?_)
  ·rw [add1 (by omega)]
   refine hJ _ _ ⟨2 * r + 2,rfl,rfl,by omega,by omega, ?_⟩
   rw [if_pos (by simp only [lN,h,decide_eq_true h1,Bool.and_self]),dif_pos (by omega)] at hm
   exact hm
  ·exact one (fun h'=>by have:=h'.2; rw [show lN d3[first + (2 * r + 1)]! d3[first + (2 * r + 1) + 1]! = false from h] at this; cases this)
 ·rw [decide_eq_false h1,bV]
  dsimp only
  rw [bU,bK]
  exact one (fun h=>h1 h.1)
theorem OC (hi first:Nat) : ∀ (k:Nat) (d:Array Nat),(Sort.heapBuild lN hi first k d).size=d.size
 | 0,d=>rfl
 | k + 1,d=>by rw [Sort.heapBuild,OC hi first k,wy hi first hi _ _ (by omega)]
theorem Ve {T:Nat} {cs:av} (hs:SS T cs) : vG T (Sort.heapSort lN) (fun _ a e=>a<e) fun args M Q=>∃ a0 a1 a2,args=[a0,a1,a2]∧kT cs a0 a1 a2 M Q:=by
 intro M b a e d Q hb hsz hae he hP hQ
 refine ⟨_,_,_,rfl, ?_⟩
 unfold kT
 rw [Sort.heapSort] at hQ
 rw [gK hae (by omega),dm (by omega) (by omega),nz]
 refine ⟨by decide, ?_⟩
 rw [show (2:Int)=((2:Nat) : Int) from rfl,show ((e - a - 1:Nat) : Int).tdiv ((2:Nat) : Int)=(((e - a - 1) / 2:Nat) : Int) by rw [Int.tdiv_eq_ediv_of_nonneg (by omega)]; rfl,bD (by omega) (by omega)]
 obtain ⟨R,hR⟩ : ∃ R,R=Sort.heapBuild lN (e - a) a ((e - a - 1) / 2 + 1) d:=⟨_,rfl⟩
 rw [← hR] at hQ
 refine aJ (fun m ys M3=>∃ (k:Nat) (d3:Array Nat),m=k + 1∧ys=[N .i64 ((k:Int) - 1)]∧k≤(e - a - 1) / 2 + 1∧M3=PM M b T d3∧d3.size=d.size∧R=Sort.heapBuild lN (e - a) a k d3) _ ⟨(e - a - 1) / 2 + 1,d,rfl,by congr 3; omega,Nat.le_refl _,rfl,rfl,hR⟩ ?_
 rintro next m ys M3 hnext ⟨k,d3,rfl,rfl,hk,rfl,hs3,hm⟩
 dsimp only [aa]
 rw [jw]
 refine aI (fun hg=>?_) (fun hg=>?_)
 ·have hg:1≤k:=by
   have:(k:Int) - 1 ≥ 0:=of_decide_eq_true hg
   omega
  obtain ⟨k',rfl⟩ : ∃ k',k=k' + 1:=⟨k - 1,by omega⟩
  rw [Sort.heapBuild] at hm
  rw [show ((k' + 1:Nat) : Int) - 1=(k' : Int) by omega,← hs3]
  refine hs hb (by omega) (by omega) (by omega) ?_
  rw [gT,bD (by omega) (by omega)]
  exact hnext _ _ _ (by omega) ⟨k',_,rfl,rfl,by omega,rfl,by rw [wy _ _ (e - a) _ _ (by omega)]; exact hs3,hm⟩
 ·have hk0:k=0:=by
   have:¬ (k:Int) - 1 ≥ 0:=of_decide_eq_false hg
   omega
  subst hk0
  rw [Sort.heapBuild] at hm
  rw [hm] at hQ
  rw [dm (by omega) (by omega)]
  obtain ⟨R4,hR4⟩ : ∃ R4,R4=Sort.heapPop lN a (e - a) d3:=⟨_,rfl⟩
  rw [← hR4] at hQ
  refine aJ (fun m ys M4=>∃ (k:Nat) (d4:Array Nat),m=k + 1∧ys=[N .i64 ((k:Int) - 1)]∧k≤e - a∧M4=PM M b T d4∧d4.size=d.size∧R4=Sort.heapPop lN a k d4) _ ⟨e - a,d3,rfl,by congr 3; omega,Nat.le_refl _,rfl,hs3,hR4⟩ ?_
  rintro next2 m ys M4 hnext2 ⟨k,d4,rfl,rfl,hk,rfl,hs4,hm4⟩
  dsimp only [aa]
  rw [jw]
  refine aI (fun hg=>?_) (fun hg=>?_)
  ·have hg:1≤k:=by
    have:(k:Int) - 1 ≥ 0:=of_decide_eq_true hg
    omega
   obtain ⟨k',rfl⟩ : ∃ k',k=k' + 1:=⟨k - 1,by omega⟩
   rw [Sort.heapPop] at hm4
   rw [show ((k' + 1:Nat) : Int) - 1=(k' : Int) by omega,addN (by omega),addN (by omega),PM.rd hs4.symm (by omega),PM.rd hs4.symm (by omega),PM.swap hs4.symm (by omega) (by omega),show d.size=(Sort.swp d4 a (a + k')).size by rw [eP]; exact hs4.symm]
   refine hs (lo:=0) hb (by rw [eP]; omega) (by rw [eP]; omega) (by decide) ?_
   rw [gT,bD (by omega) (by omega)]
   exact hnext2 _ _ _ (by omega) ⟨k',_,rfl,rfl,by omega,rfl,by rw [wy _ _ k' _ _ (by omega),eP]; exact hs4,hm4⟩
  ·have hk0:k=0:=by
    have:¬ (k:Int) - 1 ≥ 0:=of_decide_eq_false hg
    omega
   subst hk0
   rw [Sort.heapPop] at hm4
   rw [hm4] at hQ
   exact hQ
end Go.Ab.aC
